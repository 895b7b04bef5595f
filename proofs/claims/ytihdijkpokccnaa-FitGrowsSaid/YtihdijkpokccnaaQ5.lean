/- Q5: several of this proof's own texts, one behind the other: what each proves stands at its head. -/
import Derived.Test.YtihdijkpokccnaaProg
import Derived.Test.YtihdijkpokccnaaA3
section
/- Printed: what the code of functions 88, 92, 90, 123, 124, 98, 111, 110, 113, 122, 132 asks for, by the framework's own reading of it; each line is checked against the code. -/

set_option linter.unusedVariables false
set_option maxRecDepth 100000
set_option maxHeartbeats 4000000
open Go Go.Ab Go.Proofs
namespace V
noncomputable section

noncomputable def rd (bs : List UInt8) (p e : Int) : AObj := .cells [.sl 1 (.map encB 0 bs) .none, .int .i64 p, .int .i64 e]
noncomputable def upd3 (args : List AV) (H : List AObj) (p e : Int) : List AObj := match args with
  | .ptr id _ :: _ => match H[id]? with
    | some (.cells [b, _, _]) => H.set id (.cells [b, .int .i64 p, .int .i64 e])
    | _ => H
  | _ => H
noncomputable def upd2 (args : List AV) (H : List AObj) (s : ByteArray) (e : Int) : List AObj := match args with
  | .ptr id _ :: _ => H.set id (.cells [.str s, .int .i64 e])
  | _ => H
noncomputable def retL : List (Nat × Ret) := [
  (18016, ⟨Unit, fun _ _ _ => .bool true, fun _ H _ => H⟩),
  (9140, ⟨List UInt8, fun _ H l => .sl 1 (.map encB 0 l) (.tok H.length), fun _ H _ => H ++ [.tok]⟩),
  (9141, ⟨List UInt8, fun _ H l => .sl 1 (.map encB 0 l) (.tok H.length), fun _ H _ => H ++ [.tok]⟩),
  (18019, ⟨ByteArray, fun _ _ s => .str s, fun _ H _ => H⟩),
  (9151, ⟨ByteArray, fun _ _ s => .str s, fun _ H _ => H⟩),
  (88, ⟨List UInt8, fun _ H _ => .ptr H.length 0, fun _ H l => H ++ [rd l 0 0]⟩),
  (92, ⟨Int × Int × Int, fun _ _ x => .int .i64 x.1, fun a H x => upd3 a H x.2.1 x.2.2⟩),
  (90, ⟨ByteArray × Int × Int, fun _ _ x => .str x.1, fun a H x => upd3 a H x.2.1 x.2.2⟩),
  (123, ⟨Int, fun _ _ x => .int .i64 x, fun _ H _ => H⟩),
  (124, ⟨Int, fun _ _ x => .int .i64 x, fun _ H _ => H⟩),
  (111, ⟨Int × ByteArray × Int, fun _ _ x => .int .i64 x.1, fun a H x => upd2 a H x.2.1 x.2.2⟩),
  (110, ⟨ByteArray × ByteArray × Int, fun _ _ x => .str x.1, fun a H x => upd2 a H x.2.1 x.2.2⟩),
  (18028, ⟨Int × Int, fun _ _ x => .tup [], fun a H x => upd3 a H x.1 x.2⟩),
  (18029, ⟨ByteArray × Int, fun _ _ x => .tup [], fun a H x => upd2 a H x.1 x.2⟩),
  (98, ⟨Int, fun _ _ x => .int .i64 x, fun _ H _ => H⟩),
  (113, ⟨Int, fun _ _ x => .int .i64 x, fun _ H _ => H⟩),
  (9150, ⟨ByteArray, fun _ _ s => .str s, fun _ H _ => H⟩),
  (122, ⟨Int × Int × Int × Int, fun _ _ x => .tup [.int .i64 x.1, .int .i64 x.2.1], fun a H x => upd3 a H x.2.2.1 x.2.2.2⟩),
  (132, ⟨Int × Int × Int, fun _ _ x => .tup [.int .i64 x.1, .int .i64 x.2.1, .int .i64 x.2.2], fun _ H _ => H⟩)]
noncomputable def rets : FuncId → List Ret := lookupR retL

-- 88
noncomputable def l88 : Nat → List Nat
  | 3 => [3]
  | _ => []
noncomputable def u88 : Nat → Bool
  | 3 => true
  | _ => false
noncomputable def m88 : Nat → Bool
  | _ => true
noncomputable def g88 : Cfg := { N := 13, live := l88, cut := u88, mu := m88, ret := rets }
noncomputable def c88 : Go.Code := Go.Ab.bodyOf Go.Proofs.Try.f88
noncomputable def q88_0 : Nat → (AV → List AObj → Prop) → AQ := fun (n : Nat) (Post : AV → List AObj → Prop) => endQ Try.prog (resultsOf Try.f88) Post
noncomputable def c88_3 : Go.Code := codeSnd (codeSnd (codeSnd c88))
theorem s88 : ∀ (bs : List UInt8) (tip : Tip) (Post : AV → List AObj → Prop),
  needP
      ((0 : Int) ≤ (↑(List.length bs) : Int) ∧
        (↑(List.length bs) : Int) ≤ (↑(List.length bs) : Int) ∧ (↑(List.length bs) : Int) ≤ (9223372036854775807 : Int) ∧ (1 : Int) * (↑(List.length bs) : Int) ≤ (281474976710656 : Int))
      (needP (∀ (x : UInt8), List.all (encB x) oneAV = true)
        (needP (0 + List.length bs ≤ List.length (List.replicate (List.length bs) [AV.int IntKind.u8 (0 : Int)]) ∧ List.length bs ≤ List.length bs)
         (AWP Try.prog 13 0 c88_3 [(3, AV.msl 1 0 0 (List.length bs))]
         [AObj.arr 1 (copied (Seq.raw (List.replicate (List.length bs) [AV.int IntKind.u8 (0 : Int)])) 0 (Seq.map encB (0 : UInt8) bs))] (q88_0 0 Post)))) →
    ASpec Try.prog 88 [AV.sl 1 (Seq.map encB (0 : UInt8) bs) tip] [] Post := fun bs tip Post h => Go.Ab.ASpec.of_vc g88 Go.Proofs.Try.func88 (by kernel_rfl) (by kernel_rfl) (by kernel_rfl) (Go.Ab.kc (by kernel_rfl) h)
theorem v88_3 : ∀ (bs : List UInt8) (n : Nat) (Post : AV → List AObj → Prop),
  Post (AV.ptr 0 0) [AObj.cells [AV.sl 1 (Seq.map encB (0 : UInt8) bs) Tip.none, AV.int IntKind.i64 (0 : Int), AV.int IntKind.i64 (0 : Int)]] →
    AWP Try.prog 13 n c88_3 [(3, AV.sl 1 (Seq.map encB (0 : UInt8) bs) Tip.none)] [] (q88_0 n Post) := fun bs n Post h => Go.Ab.awp_sound g88 n _ _ _ _ (Go.Ab.kc (by kernel_rfl) h)

-- 92
noncomputable def l92 : Nat → List Nat
  | _ => []
noncomputable def u92 : Nat → Bool
  | _ => false
noncomputable def m92 : Nat → Bool
  | _ => false
noncomputable def g92 : Cfg := { N := 27, live := l92, cut := u92, mu := m92, ret := rets }
theorem s92 : ∀ (bs : List UInt8) (p e most : Int) (Post : AV → List AObj → Prop),
  condP (e != (0 : Int)) (Post (AV.int IntKind.i64 (0 : Int)) [AObj.cells [AV.sl 1 (Seq.map encB (0 : UInt8) bs) Tip.none, AV.int IntKind.i64 p, AV.int IntKind.i64 e]])
      (ASpec Try.prog 122 [AV.ptr 0 0, AV.int IntKind.i64 most]
        [AObj.cells [AV.sl 1 (Seq.map encB (0 : UInt8) bs) Tip.none, AV.int IntKind.i64 p, AV.int IntKind.i64 e]] fun (r : AV) (H' : List AObj) =>
        ∃ (x : Int × Int × Int × Int),
         r = AV.tup [AV.int IntKind.i64 (Prod.fst x), AV.int IntKind.i64 (Prod.fst (Prod.snd x))] ∧
         H' = [AObj.cells [AV.sl 1 (Seq.map encB (0 : UInt8) bs) Tip.none, AV.int IntKind.i64 (Prod.fst (Prod.snd (Prod.snd x))), AV.int IntKind.i64 (Prod.snd (Prod.snd (Prod.snd x)))]] ∧
         Post (AV.int IntKind.i64 (Prod.fst x))
         [AObj.cells [AV.sl 1 (Seq.map encB (0 : UInt8) bs) Tip.none, AV.int IntKind.i64 (Prod.fst (Prod.snd x)), AV.int IntKind.i64 (Prod.snd (Prod.snd (Prod.snd x)))]]) →
    ASpec Try.prog 92 [AV.ptr 0 0, AV.int IntKind.i64 most] [rd bs p e] Post := fun bs p e most Post h => Go.Ab.ASpec.of_vc g92 Go.Proofs.Try.func92 (by kernel_rfl) (by kernel_rfl) (by kernel_rfl) (Go.Ab.kc (by kernel_rfl) h)
noncomputable def l90 : Nat → List Nat
  | _ => []
noncomputable def u90 : Nat → Bool
  | _ => false
noncomputable def m90 : Nat → Bool
  | _ => false
noncomputable def g90 : Cfg := { N := 56, live := l90, cut := u90, mu := m90, ret := rets }
theorem s90 : ∀ (bs : List UInt8) (p e most : Int) (Post : AV → List AObj → Prop),
  condP (e != (0 : Int)) (Post (AV.str { data := #[] }) [AObj.cells [AV.sl 1 (Seq.map encB (0 : UInt8) bs) Tip.none, AV.int IntKind.i64 p, AV.int IntKind.i64 e]])
      (ASpec Try.prog 122 [AV.ptr 0 0, AV.int IntKind.i64 most]
        [AObj.cells [AV.sl 1 (Seq.map encB (0 : UInt8) bs) Tip.none, AV.int IntKind.i64 p, AV.int IntKind.i64 e]] fun (r : AV) (H' : List AObj) =>
        ∃ (x : Int × Int × Int × Int),
         r = AV.tup [AV.int IntKind.i64 (Prod.fst x), AV.int IntKind.i64 (Prod.fst (Prod.snd x))] ∧
         H' = [AObj.cells [AV.sl 1 (Seq.map encB (0 : UInt8) bs) Tip.none, AV.int IntKind.i64 (Prod.fst (Prod.snd (Prod.snd x))), AV.int IntKind.i64 (Prod.snd (Prod.snd (Prod.snd x)))]] ∧
         condP (Prod.snd (Prod.snd (Prod.snd x)) != (0 : Int))
         (Post (AV.str { data := #[] })
         [AObj.cells [AV.sl 1 (Seq.map encB (0 : UInt8) bs) Tip.none, AV.int IntKind.i64 (Prod.fst (Prod.snd (Prod.snd x))), AV.int IntKind.i64 (Prod.snd (Prod.snd (Prod.snd x)))]])
         (condP (decide (Prod.fst x > IntKind.wrap IntKind.i64 ((↑(List.length bs) : Int) - Prod.fst (Prod.snd x))))
         (Post (AV.str { data := #[] })
         [AObj.cells [AV.sl 1 (Seq.map encB (0 : UInt8) bs) Tip.none, AV.int IntKind.i64 (Prod.fst (Prod.snd (Prod.snd x))), AV.int IntKind.i64 (2 : Int)]])
         (needP
         ((0 : Int) ≤ Prod.fst (Prod.snd x) ∧
         Prod.fst (Prod.snd x) ≤ IntKind.wrap IntKind.i64 (Prod.fst (Prod.snd x) + Prod.fst x) ∧ IntKind.wrap IntKind.i64 (Prod.fst (Prod.snd x) + Prod.fst x) ≤ (↑(List.length bs) : Int))
         (needP
         (allBytes (Seq.map encB (0 : UInt8) (List.drop (Int.toNat (Prod.fst (Prod.snd x))) (List.take (Int.toNat (IntKind.wrap IntKind.i64 (Prod.fst (Prod.snd x) + Prod.fst x))) bs))))
         (Post
         (AV.str
         (bytesOf
         (Seq.map encB (0 : UInt8) (List.drop (Int.toNat (Prod.fst (Prod.snd x))) (List.take (Int.toNat (IntKind.wrap IntKind.i64 (Prod.fst (Prod.snd x) + Prod.fst x))) bs)))))
         [AObj.cells
         [AV.sl 1 (Seq.map encB (0 : UInt8) bs) Tip.none, AV.int IntKind.i64 (IntKind.wrap IntKind.i64 (Prod.fst (Prod.snd x) + Prod.fst x)),
         AV.int IntKind.i64 (Prod.snd (Prod.snd (Prod.snd x)))]]))))) →
    ASpec Try.prog 90 [AV.ptr 0 0, AV.int IntKind.i64 most] [rd bs p e] Post := fun bs p e most Post h => Go.Ab.ASpec.of_vc g90 Go.Proofs.Try.func90 (by kernel_rfl) (by kernel_rfl) (by kernel_rfl) (Go.Ab.kc (by kernel_rfl) h)
noncomputable def l123 : Nat → List Nat
  | _ => []
noncomputable def u123 : Nat → Bool
  | _ => false
noncomputable def m123 : Nat → Bool
  | _ => false
noncomputable def g123 : Cfg := { N := 9, live := l123, cut := u123, mu := m123, ret := rets }
theorem s123 : ∀ (bs : List UInt8) (p e : Int) (Post : AV → List AObj → Prop),
  Post (AV.int IntKind.i64 e) [AObj.cells [AV.sl 1 (Seq.map encB (0 : UInt8) bs) Tip.none, AV.int IntKind.i64 p, AV.int IntKind.i64 e]] →
    ASpec Try.prog 123 [AV.ptr 0 0] [rd bs p e] Post := fun bs p e Post h => Go.Ab.ASpec.of_vc g123 Go.Proofs.Try.func123 (by kernel_rfl) (by kernel_rfl) (by kernel_rfl) (Go.Ab.kc (by kernel_rfl) h)
noncomputable def l124 : Nat → List Nat
  | _ => []
noncomputable def u124 : Nat → Bool
  | _ => false
noncomputable def m124 : Nat → Bool
  | _ => false
noncomputable def g124 : Cfg := { N := 15, live := l124, cut := u124, mu := m124, ret := rets }
theorem s124 : ∀ (bs : List UInt8) (p e : Int) (Post : AV → List AObj → Prop),
  Post (AV.int IntKind.i64 (IntKind.wrap IntKind.i64 ((↑(List.length bs) : Int) - p)))
      [AObj.cells [AV.sl 1 (Seq.map encB (0 : UInt8) bs) Tip.none, AV.int IntKind.i64 p, AV.int IntKind.i64 e]] →
    ASpec Try.prog 124 [AV.ptr 0 0] [rd bs p e] Post := fun bs p e Post h => Go.Ab.ASpec.of_vc g124 Go.Proofs.Try.func124 (by kernel_rfl) (by kernel_rfl) (by kernel_rfl) (Go.Ab.kc (by kernel_rfl) h)
noncomputable def l98 : Nat → List Nat
  | _ => []
noncomputable def u98 : Nat → Bool
  | _ => false
noncomputable def m98 : Nat → Bool
  | _ => false
noncomputable def g98 : Cfg := { N := 14, live := l98, cut := u98, mu := m98, ret := rets }
theorem s98 : ∀ (bs : List UInt8) (p e : Int) (Post : AV → List AObj → Prop),
  (ASpec Try.prog 123 [AV.ptr 0 0] [AObj.cells [AV.sl 1 (Seq.map encB (0 : UInt8) bs) Tip.none, AV.int IntKind.i64 p, AV.int IntKind.i64 e]]
      fun (r : AV) (H' : List AObj) =>
      ∃ (x : Int),
        r = AV.int IntKind.i64 x ∧
         H' = [AObj.cells [AV.sl 1 (Seq.map encB (0 : UInt8) bs) Tip.none, AV.int IntKind.i64 p, AV.int IntKind.i64 e]] ∧
         condP (x != (0 : Int)) (Post (AV.int IntKind.i64 x) [AObj.cells [AV.sl 1 (Seq.map encB (0 : UInt8) bs) Tip.none, AV.int IntKind.i64 p, AV.int IntKind.i64 e]])
         (ASpec Try.prog 124 [AV.ptr 0 0] [AObj.cells [AV.sl 1 (Seq.map encB (0 : UInt8) bs) Tip.none, AV.int IntKind.i64 p, AV.int IntKind.i64 e]]
         fun (r : AV) (H' : List AObj) =>
         ∃ (x : Int),
         r = AV.int IntKind.i64 x ∧
         H' = [AObj.cells [AV.sl 1 (Seq.map encB (0 : UInt8) bs) Tip.none, AV.int IntKind.i64 p, AV.int IntKind.i64 e]] ∧
         condP (decide (x > (0 : Int)))
         (Post (AV.int IntKind.i64 (3 : Int)) [AObj.cells [AV.sl 1 (Seq.map encB (0 : UInt8) bs) Tip.none, AV.int IntKind.i64 p, AV.int IntKind.i64 e]])
         (Post (AV.int IntKind.i64 (0 : Int)) [AObj.cells [AV.sl 1 (Seq.map encB (0 : UInt8) bs) Tip.none, AV.int IntKind.i64 p, AV.int IntKind.i64 e]]))) →
    ASpec Try.prog 98 [AV.ptr 0 0] [rd bs p e] Post := fun bs p e Post h => Go.Ab.ASpec.of_vc g98 Go.Proofs.Try.func98 (by kernel_rfl) (by kernel_rfl) (by kernel_rfl) (Go.Ab.kc (by kernel_rfl) h)
noncomputable def l111 : Nat → List Nat
  | _ => []
noncomputable def u111 : Nat → Bool
  | _ => false
noncomputable def m111 : Nat → Bool
  | _ => false
noncomputable def g111 : Cfg := { N := 37, live := l111, cut := u111, mu := m111, ret := rets }
theorem s111 : ∀ (s : ByteArray) (e most : Int) (Post : AV → List AObj → Prop),
  condP (e != (0 : Int)) (Post (AV.int IntKind.i64 (0 : Int)) [AObj.cells [AV.str s, AV.int IntKind.i64 e]])
      (ASpec Try.prog 132 [AV.str s, AV.int IntKind.i64 most] [AObj.cells [AV.str s, AV.int IntKind.i64 e]] fun (r : AV) (H' : List AObj) =>
        ∃ (x : Int × Int × Int),
         r = AV.tup [AV.int IntKind.i64 (Prod.fst x), AV.int IntKind.i64 (Prod.fst (Prod.snd x)), AV.int IntKind.i64 (Prod.snd (Prod.snd x))] ∧
         H' = [AObj.cells [AV.str s, AV.int IntKind.i64 e]] ∧
         needP ((0 : Int) ≤ Prod.fst (Prod.snd x) ∧ Prod.fst (Prod.snd x) ≤ (↑(ByteArray.size s) : Int))
         (Post (AV.int IntKind.i64 (Prod.fst x))
         [AObj.cells [AV.str (ByteArray.extract s (Int.toNat (Prod.fst (Prod.snd x))) (ByteArray.size s)), AV.int IntKind.i64 (Prod.snd (Prod.snd x))]])) →
    ASpec Try.prog 111 [AV.ptr 0 0, AV.int IntKind.i64 most] [AObj.cells [AV.str s, AV.int IntKind.i64 e]] Post := fun s e most Post h => Go.Ab.ASpec.of_vc g111 Go.Proofs.Try.func111 (by kernel_rfl) (by kernel_rfl) (by kernel_rfl) (Go.Ab.kc (by kernel_rfl) h)

-- 110
noncomputable def l110 : Nat → List Nat
  | _ => []
noncomputable def u110 : Nat → Bool
  | _ => false
noncomputable def m110 : Nat → Bool
  | _ => false
noncomputable def g110 : Cfg := { N := 64, live := l110, cut := u110, mu := m110, ret := rets }
theorem s110 : ∀ (s : ByteArray) (e most : Int) (Post : AV → List AObj → Prop),
  condP (e != (0 : Int)) (Post (AV.str { data := #[] }) [AObj.cells [AV.str s, AV.int IntKind.i64 e]])
      (ASpec Try.prog 132 [AV.str s, AV.int IntKind.i64 most] [AObj.cells [AV.str s, AV.int IntKind.i64 e]] fun (r : AV) (H' : List AObj) =>
        ∃ (x : Int × Int × Int),
         r = AV.tup [AV.int IntKind.i64 (Prod.fst x), AV.int IntKind.i64 (Prod.fst (Prod.snd x)), AV.int IntKind.i64 (Prod.snd (Prod.snd x))] ∧
         H' = [AObj.cells [AV.str s, AV.int IntKind.i64 e]] ∧
         condP (Prod.snd (Prod.snd x) == (0 : Int))
         (condP (decide (Prod.fst x > IntKind.wrap IntKind.i64 ((↑(ByteArray.size s) : Int) - Prod.fst (Prod.snd x))))
         (Post (AV.str { data := #[] }) [AObj.cells [AV.str s, AV.int IntKind.i64 (2 : Int)]])
         (condP (Prod.snd (Prod.snd x) != (0 : Int)) (Post (AV.str { data := #[] }) [AObj.cells [AV.str s, AV.int IntKind.i64 (Prod.snd (Prod.snd x))]])
         (needP
         ((0 : Int) ≤ Prod.fst (Prod.snd x) ∧
         Prod.fst (Prod.snd x) ≤ IntKind.wrap IntKind.i64 (Prod.fst (Prod.snd x) + Prod.fst x) ∧
         IntKind.wrap IntKind.i64 (Prod.fst (Prod.snd x) + Prod.fst x) ≤ (↑(ByteArray.size s) : Int))
         (needP ((0 : Int) ≤ IntKind.wrap IntKind.i64 (Prod.fst (Prod.snd x) + Prod.fst x) ∧ IntKind.wrap IntKind.i64 (Prod.fst (Prod.snd x) + Prod.fst x) ≤ (↑(ByteArray.size s) : Int))
         (Post (AV.str (ByteArray.extract s (Int.toNat (Prod.fst (Prod.snd x))) (Int.toNat (IntKind.wrap IntKind.i64 (Prod.fst (Prod.snd x) + Prod.fst x)))))
         [AObj.cells
         [AV.str (ByteArray.extract s (Int.toNat (IntKind.wrap IntKind.i64 (Prod.fst (Prod.snd x) + Prod.fst x))) (ByteArray.size s)),
         AV.int IntKind.i64 (Prod.snd (Prod.snd x))]])))))
         (condP (Prod.snd (Prod.snd x) != (0 : Int)) (Post (AV.str { data := #[] }) [AObj.cells [AV.str s, AV.int IntKind.i64 (Prod.snd (Prod.snd x))]])
         (needP
         ((0 : Int) ≤ Prod.fst (Prod.snd x) ∧
         Prod.fst (Prod.snd x) ≤ IntKind.wrap IntKind.i64 (Prod.fst (Prod.snd x) + Prod.fst x) ∧
         IntKind.wrap IntKind.i64 (Prod.fst (Prod.snd x) + Prod.fst x) ≤ (↑(ByteArray.size s) : Int))
         (needP ((0 : Int) ≤ IntKind.wrap IntKind.i64 (Prod.fst (Prod.snd x) + Prod.fst x) ∧ IntKind.wrap IntKind.i64 (Prod.fst (Prod.snd x) + Prod.fst x) ≤ (↑(ByteArray.size s) : Int))
         (Post (AV.str (ByteArray.extract s (Int.toNat (Prod.fst (Prod.snd x))) (Int.toNat (IntKind.wrap IntKind.i64 (Prod.fst (Prod.snd x) + Prod.fst x)))))
         [AObj.cells
         [AV.str (ByteArray.extract s (Int.toNat (IntKind.wrap IntKind.i64 (Prod.fst (Prod.snd x) + Prod.fst x))) (ByteArray.size s)),
         AV.int IntKind.i64 (Prod.snd (Prod.snd x))]]))))) →
    ASpec Try.prog 110 [AV.ptr 0 0, AV.int IntKind.i64 most] [AObj.cells [AV.str s, AV.int IntKind.i64 e]] Post := fun s e most Post h => Go.Ab.ASpec.of_vc g110 Go.Proofs.Try.func110 (by kernel_rfl) (by kernel_rfl) (by kernel_rfl) (Go.Ab.kc (by kernel_rfl) h)

-- 113
noncomputable def l113 : Nat → List Nat
  | _ => []
noncomputable def u113 : Nat → Bool
  | _ => false
noncomputable def m113 : Nat → Bool
  | _ => false
noncomputable def g113 : Cfg := { N := 19, live := l113, cut := u113, mu := m113, ret := rets }
theorem s113 : ∀ (s : ByteArray) (e : Int) (Post : AV → List AObj → Prop),
  condP (e == (0 : Int))
      (condP (!ByteArray.toList s == ByteArray.toList { data := #[] }) (Post (AV.int IntKind.i64 (3 : Int)) [AObj.cells [AV.str s, AV.int IntKind.i64 e]])
        (Post (AV.int IntKind.i64 e) [AObj.cells [AV.str s, AV.int IntKind.i64 e]]))
      (Post (AV.int IntKind.i64 e) [AObj.cells [AV.str s, AV.int IntKind.i64 e]]) →
    ASpec Try.prog 113 [AV.ptr 0 0] [AObj.cells [AV.str s, AV.int IntKind.i64 e]] Post := fun s e Post h => Go.Ab.ASpec.of_vc g113 Go.Proofs.Try.func113 (by kernel_rfl) (by kernel_rfl) (by kernel_rfl) (Go.Ab.kc (by kernel_rfl) h)

-- 122
noncomputable def l122 : Nat → List Nat
  | 9 => [0, 1, 6, 44]
  | _ => []
noncomputable def u122 : Nat → Bool
  | _ => false
noncomputable def m122 : Nat → Bool
  | _ => false
noncomputable def g122 : Cfg := { N := 113, live := l122, cut := u122, mu := m122, ret := rets }
noncomputable def c122 : Go.Code := Go.Ab.bodyOf Go.Proofs.Try.f122
noncomputable def q122_0 : Nat → (AV → List AObj → Prop) → AQ := fun (n : Nat) (Post : AV → List AObj → Prop) => endQ Try.prog (resultsOf Try.f122) Post
noncomputable def q122_1 : Nat → (AV → List AObj → Prop) → AQ := fun (n : Nat) (Post : AV → List AObj → Prop) => seqQ (fun (s' : Slots) (H' : List AObj) => awp Try.prog g122 n (codeSnd (codeSnd (codeSnd (codeSnd (codeSnd c122))))) s' H' (q122_0 n Post)) (q122_0 n Post)
noncomputable def q122_2 : Nat → (AV → List AObj → Prop) → AQ := fun (n : Nat) (Post : AV → List AObj → Prop) => blockQ 0 (q122_1 n Post)
noncomputable def c122_9 : Go.Code := codeFst (codeSnd (codeFst (codeSnd (codeSnd (codeSnd (codeSnd c122))))))
theorem s122 : ∀ (bs : List UInt8) (p e most : Int) (Post : AV → List AObj → Prop),
  condP (p == (↑(List.length bs) : Int))
      ((AV.int IntKind.i64 p = AV.int IntKind.i64 p ∧
         [AObj.cells [AV.sl 1 (Seq.map encB (0 : UInt8) bs) Tip.none, AV.int IntKind.i64 p, AV.int IntKind.i64 (2 : Int)]] =
         [AObj.cells [AV.sl 1 (Seq.map encB (0 : UInt8) bs) Tip.none, AV.int IntKind.i64 p, AV.int IntKind.i64 (2 : Int)]]) ∧
        Post (AV.tup [AV.int IntKind.i64 (0 : Int), AV.int IntKind.i64 p]) [AObj.cells [AV.sl 1 (Seq.map encB (0 : UInt8) bs) Tip.none, AV.int IntKind.i64 p, AV.int IntKind.i64 (2 : Int)]])
      (needP ((0 : Int) ≤ p ∧ p < (↑(List.length bs) : Int))
        (condP ((↑(UInt8.toNat (List.getD bs (Int.toNat p) (0 : UInt8))) : Int) == (128 : Int))
         ((AV.int IntKind.i64 p = AV.int IntKind.i64 p ∧
         [AObj.cells [AV.sl 1 (Seq.map encB (0 : UInt8) bs) Tip.none, AV.int IntKind.i64 p, AV.int IntKind.i64 (3 : Int)]] =
         [AObj.cells [AV.sl 1 (Seq.map encB (0 : UInt8) bs) Tip.none, AV.int IntKind.i64 p, AV.int IntKind.i64 (3 : Int)]]) ∧
         Post (AV.tup [AV.int IntKind.i64 (0 : Int), AV.int IntKind.i64 p])
         [AObj.cells [AV.sl 1 (Seq.map encB (0 : UInt8) bs) Tip.none, AV.int IntKind.i64 p, AV.int IntKind.i64 (3 : Int)]])
         (AWP Try.prog 113 1 c122_9
         [(0, AV.ptr 0 0), (1, AV.int IntKind.i64 most), (6, AV.int IntKind.i64 (0 : Int)), (44, AV.int IntKind.i64 (0 : Int))]
         [AObj.cells [AV.sl 1 (Seq.map encB (0 : UInt8) bs) Tip.none, AV.int IntKind.i64 p, AV.int IntKind.i64 e]] (q122_2 1 Post)))) →
    ASpec Try.prog 122 [AV.ptr 0 0, AV.int IntKind.i64 most] [rd bs p e] Post := fun bs p e most Post h => Go.Ab.ASpec.of_vc g122 Go.Proofs.Try.func122 (by kernel_rfl) (by kernel_rfl) (by kernel_rfl) (Go.Ab.kc (by kernel_rfl) h)
theorem v122_9 : ∀ (bs : List UInt8) (p e most x i : Int) (n : Nat) (Post : AV → List AObj → Prop),
  condP (decide (i < (6 : Int)))
      (condP (IntKind.wrap IntKind.i64 (p + i) == (↑(List.length bs) : Int))
        ((AV.int IntKind.i64 p = AV.int IntKind.i64 p ∧
         [AObj.cells [AV.sl 1 (Seq.map encB (0 : UInt8) bs) Tip.none, AV.int IntKind.i64 p, AV.int IntKind.i64 (2 : Int)]] =
         [AObj.cells [AV.sl 1 (Seq.map encB (0 : UInt8) bs) Tip.none, AV.int IntKind.i64 p, AV.int IntKind.i64 (2 : Int)]]) ∧
         Post (AV.tup [AV.int IntKind.i64 (0 : Int), AV.int IntKind.i64 p]) [AObj.cells [AV.sl 1 (Seq.map encB (0 : UInt8) bs) Tip.none, AV.int IntKind.i64 p, AV.int IntKind.i64 (2 : Int)]])
        (needP ((0 : Int) ≤ IntKind.wrap IntKind.i64 (p + i) ∧ IntKind.wrap IntKind.i64 (p + i) < (↑(List.length bs) : Int))
         (needP ((128 : Int) ≠ (0 : Int))
         (condP (decide (IntKind.wrap IntKind.i64 (↑(UInt8.toNat (List.getD bs (Int.toNat (IntKind.wrap IntKind.i64 (p + i))) (0 : UInt8))) : Int) ≥ (128 : Int)))
         (AWP Try.prog 113 n c122_9
         [(0, AV.ptr 0 0), (1, AV.int IntKind.i64 most),
         (6,
         AV.int IntKind.i64
         (IntKind.wrap IntKind.i64
         (IntKind.wrap IntKind.i64 (x * (128 : Int)) +
         Int.tmod (IntKind.wrap IntKind.i64 (↑(UInt8.toNat (List.getD bs (Int.toNat (IntKind.wrap IntKind.i64 (p + i))) (0 : UInt8))) : Int)) (128 : Int)))),
         (44, AV.int IntKind.i64 (IntKind.wrap IntKind.i64 (i + (1 : Int))))]
         [AObj.cells [AV.sl 1 (Seq.map encB (0 : UInt8) bs) Tip.none, AV.int IntKind.i64 p, AV.int IntKind.i64 e]] (q122_2 n Post))
         (condP
         (decide
         (IntKind.wrap IntKind.i64
         (IntKind.wrap IntKind.i64 (x * (128 : Int)) +
         Int.tmod (IntKind.wrap IntKind.i64 (↑(UInt8.toNat (List.getD bs (Int.toNat (IntKind.wrap IntKind.i64 (p + i))) (0 : UInt8))) : Int)) (128 : Int)) >
         if (1099511627776 : Int) < most then (1099511627776 : Int) else most))
         ((AV.int IntKind.i64 p = AV.int IntKind.i64 p ∧
         [AObj.cells [AV.sl 1 (Seq.map encB (0 : UInt8) bs) Tip.none, AV.int IntKind.i64 p, AV.int IntKind.i64 (4 : Int)]] =
         [AObj.cells [AV.sl 1 (Seq.map encB (0 : UInt8) bs) Tip.none, AV.int IntKind.i64 p, AV.int IntKind.i64 (4 : Int)]]) ∧
         Post (AV.tup [AV.int IntKind.i64 (0 : Int), AV.int IntKind.i64 p])
         [AObj.cells [AV.sl 1 (Seq.map encB (0 : UInt8) bs) Tip.none, AV.int IntKind.i64 p, AV.int IntKind.i64 (4 : Int)]])
         ((AV.int IntKind.i64 p = AV.int IntKind.i64 p ∧
         [AObj.cells [AV.sl 1 (Seq.map encB (0 : UInt8) bs) Tip.none, AV.int IntKind.i64 p, AV.int IntKind.i64 e]] =
         [AObj.cells [AV.sl 1 (Seq.map encB (0 : UInt8) bs) Tip.none, AV.int IntKind.i64 p, AV.int IntKind.i64 e]]) ∧
         Post
         (AV.tup
         [AV.int IntKind.i64
         (IntKind.wrap IntKind.i64
         (IntKind.wrap IntKind.i64 (x * (128 : Int)) +
         Int.tmod (IntKind.wrap IntKind.i64 (↑(UInt8.toNat (List.getD bs (Int.toNat (IntKind.wrap IntKind.i64 (p + i))) (0 : UInt8))) : Int)) (128 : Int))),
         AV.int IntKind.i64 (IntKind.wrap IntKind.i64 (IntKind.wrap IntKind.i64 (p + i) + (1 : Int)))])
         [AObj.cells [AV.sl 1 (Seq.map encB (0 : UInt8) bs) Tip.none, AV.int IntKind.i64 p, AV.int IntKind.i64 e]]))))))
      ((AV.int IntKind.i64 p = AV.int IntKind.i64 p ∧
         [AObj.cells [AV.sl 1 (Seq.map encB (0 : UInt8) bs) Tip.none, AV.int IntKind.i64 p, AV.int IntKind.i64 (4 : Int)]] =
         [AObj.cells [AV.sl 1 (Seq.map encB (0 : UInt8) bs) Tip.none, AV.int IntKind.i64 p, AV.int IntKind.i64 (4 : Int)]]) ∧
        Post (AV.tup [AV.int IntKind.i64 (0 : Int), AV.int IntKind.i64 p]) [AObj.cells [AV.sl 1 (Seq.map encB (0 : UInt8) bs) Tip.none, AV.int IntKind.i64 p, AV.int IntKind.i64 (4 : Int)]]) →
    AWP Try.prog 113 n c122_9 [(0, AV.ptr 0 0), (1, AV.int IntKind.i64 most), (6, AV.int IntKind.i64 x), (44, AV.int IntKind.i64 i)] [rd bs p e]
      (q122_2 n Post) := fun bs p e most x i n Post h => Go.Ab.AWP.loop' g122 (Cfg.live g122) c122_9 (by kernel_rfl) (by kernel_rfl) (Go.Ab.kc (by kernel_rfl) h)

-- 132
noncomputable def l132 : Nat → List Nat
  | 6 => [0, 1, 7]
  | 14 => [0, 1, 7, 8, 9]
  | _ => []
noncomputable def u132 : Nat → Bool
  | _ => false
noncomputable def m132 : Nat → Bool
  | _ => false
noncomputable def g132 : Cfg := { N := 60, live := l132, cut := u132, mu := m132, ret := rets }
noncomputable def c132 : Go.Code := Go.Ab.bodyOf Go.Proofs.Try.f132
noncomputable def q132_0 : Nat → (AV → List AObj → Prop) → AQ := fun (n : Nat) (Post : AV → List AObj → Prop) => endQ Try.prog (resultsOf Try.f132) Post
noncomputable def q132_1 : Nat → (AV → List AObj → Prop) → AQ := fun (n : Nat) (Post : AV → List AObj → Prop) => seqQ (fun (s' : Slots) (H' : List AObj) => awp Try.prog g132 n (codeSnd (codeSnd (codeSnd (codeSnd (codeSnd c132))))) s' H' (q132_0 n Post)) (q132_0 n Post)
noncomputable def q132_2 : Nat → (AV → List AObj → Prop) → AQ := fun (n : Nat) (Post : AV → List AObj → Prop) => blockQ 0 (q132_1 n Post)
noncomputable def c132_6 : Go.Code := codeFst (codeFst (codeSnd (codeSnd (codeSnd (codeSnd c132)))))
theorem s132 : ∀ (s : ByteArray) (most : Int) (Post : AV → List AObj → Prop),
  condP (ByteArray.toList s == ByteArray.toList { data := #[] }) (Post (AV.tup [AV.int IntKind.i64 (0 : Int), AV.int IntKind.i64 (0 : Int), AV.int IntKind.i64 (2 : Int)]) [])
      (needP ((0 : Int) ≤ (0 : Int) ∧ (0 : Int) < (↑(ByteArray.size s) : Int))
        (condP ((↑(UInt8.toNat (List.getD (Array.toList (ByteArray.data s)) 0 (0 : UInt8))) : Int) == (128 : Int))
         (Post (AV.tup [AV.int IntKind.i64 (0 : Int), AV.int IntKind.i64 (0 : Int), AV.int IntKind.i64 (3 : Int)]) [])
         (AWP Try.prog 60 0 c132_6 [(0, AV.str s), (1, AV.int IntKind.i64 most), (7, AV.int IntKind.i64 (0 : Int))] [] (q132_2 0 Post)))) →
    ASpec Try.prog 132 [AV.str s, AV.int IntKind.i64 most] [] Post := fun s most Post h => Go.Ab.ASpec.of_vc g132 Go.Proofs.Try.func132 (by kernel_rfl) (by kernel_rfl) (by kernel_rfl) (Go.Ab.kc (by kernel_rfl) h)
noncomputable def q132_3 : Nat → (AV → List AObj → Prop) → AQ := fun (n : Nat) (Post : AV → List AObj → Prop) => seqQ (fun (s' : Slots) (H' : List AObj) => awp Try.prog g132 n (codeSnd (codeSnd (codeSnd (codeSnd (codeSnd (codeSnd (codeSnd (codeSnd (codeSnd c132))))))))) s' H' (q132_0 n Post)) (q132_0 n Post)
noncomputable def q132_4 : Nat → (AV → List AObj → Prop) → AQ := fun (n : Nat) (Post : AV → List AObj → Prop) => blockQ 2 (q132_3 n Post)
noncomputable def c132_14 : Go.Code := codeFst (codeSnd (codeFst (codeSnd (codeSnd (codeSnd (codeSnd (codeSnd (codeSnd (codeSnd (codeSnd c132))))))))))
theorem v132_6 : ∀ (s : ByteArray) (most k : Int) (n : Nat) (Post : AV → List AObj → Prop),
  condP (decide (k < (↑(ByteArray.size s) : Int)))
      (condP (decide (k < (6 : Int)))
        (needP ((0 : Int) ≤ k ∧ k < (↑(ByteArray.size s) : Int))
         (condP (decide ((↑(UInt8.toNat (List.getD (Array.toList (ByteArray.data s)) (Int.toNat k) (0 : UInt8))) : Int) ≥ (128 : Int)))
         (AWP Try.prog 60 n c132_6 [(0, AV.str s), (1, AV.int IntKind.i64 most), (7, AV.int IntKind.i64 (IntKind.wrap IntKind.i64 (k + (1 : Int))))] []
         (q132_2 n Post))
         (condP (k == (6 : Int)) (Post (AV.tup [AV.int IntKind.i64 (0 : Int), AV.int IntKind.i64 (0 : Int), AV.int IntKind.i64 (4 : Int)]) [])
         (condP (k == (↑(ByteArray.size s) : Int)) (Post (AV.tup [AV.int IntKind.i64 (0 : Int), AV.int IntKind.i64 (0 : Int), AV.int IntKind.i64 (2 : Int)]) [])
         (AWP Try.prog 60 n c132_14
         [(0, AV.str s), (1, AV.int IntKind.i64 most), (7, AV.int IntKind.i64 k), (8, AV.int IntKind.i64 (0 : Int)), (9, AV.int IntKind.i64 (0 : Int))]
         [] (q132_4 n Post))))))
        (condP (k == (6 : Int)) (Post (AV.tup [AV.int IntKind.i64 (0 : Int), AV.int IntKind.i64 (0 : Int), AV.int IntKind.i64 (4 : Int)]) [])
         (condP (k == (↑(ByteArray.size s) : Int)) (Post (AV.tup [AV.int IntKind.i64 (0 : Int), AV.int IntKind.i64 (0 : Int), AV.int IntKind.i64 (2 : Int)]) [])
         (AWP Try.prog 60 n c132_14
         [(0, AV.str s), (1, AV.int IntKind.i64 most), (7, AV.int IntKind.i64 k), (8, AV.int IntKind.i64 (0 : Int)), (9, AV.int IntKind.i64 (0 : Int))] []
         (q132_4 n Post)))))
      (condP (k == (6 : Int)) (Post (AV.tup [AV.int IntKind.i64 (0 : Int), AV.int IntKind.i64 (0 : Int), AV.int IntKind.i64 (4 : Int)]) [])
        (condP (k == (↑(ByteArray.size s) : Int)) (Post (AV.tup [AV.int IntKind.i64 (0 : Int), AV.int IntKind.i64 (0 : Int), AV.int IntKind.i64 (2 : Int)]) [])
         (AWP Try.prog 60 n c132_14
         [(0, AV.str s), (1, AV.int IntKind.i64 most), (7, AV.int IntKind.i64 k), (8, AV.int IntKind.i64 (0 : Int)), (9, AV.int IntKind.i64 (0 : Int))] []
         (q132_4 n Post)))) →
    AWP Try.prog 60 n c132_6 [(0, AV.str s), (1, AV.int IntKind.i64 most), (7, AV.int IntKind.i64 k)] [] (q132_2 n Post) := fun s most k n Post h => Go.Ab.AWP.loop' g132 (Cfg.live g132) c132_6 (by kernel_rfl) (by kernel_rfl) (Go.Ab.kc (by kernel_rfl) h)
theorem v132_14 : ∀ (s : ByteArray) (most k x i : Int) (n : Nat) (Post : AV → List AObj → Prop),
  condP (decide (i ≤ k))
      (needP ((0 : Int) ≤ i ∧ i < (↑(ByteArray.size s) : Int))
        (needP ((128 : Int) ≠ (0 : Int))
         (AWP Try.prog 60 n c132_14
         [(0, AV.str s), (1, AV.int IntKind.i64 most), (7, AV.int IntKind.i64 k),
         (8,
         AV.int IntKind.i64
         (IntKind.wrap IntKind.i64
         (IntKind.wrap IntKind.i64 (x * (128 : Int)) +
         IntKind.wrap IntKind.i64 (Int.tmod (↑(UInt8.toNat (List.getD (Array.toList (ByteArray.data s)) (Int.toNat i) (0 : UInt8))) : Int) (128 : Int))))),
         (9, AV.int IntKind.i64 (IntKind.wrap IntKind.i64 (i + (1 : Int))))]
         [] (q132_4 n Post))))
      (condP (decide (x > (1099511627776 : Int))) (Post (AV.tup [AV.int IntKind.i64 (0 : Int), AV.int IntKind.i64 (0 : Int), AV.int IntKind.i64 (4 : Int)]) [])
        (condP (decide (x > most)) (Post (AV.tup [AV.int IntKind.i64 (0 : Int), AV.int IntKind.i64 (0 : Int), AV.int IntKind.i64 (4 : Int)]) [])
         (Post (AV.tup [AV.int IntKind.i64 x, AV.int IntKind.i64 (IntKind.wrap IntKind.i64 (k + (1 : Int))), AV.int IntKind.i64 (0 : Int)]) []))) →
    AWP Try.prog 60 n c132_14
      [(0, AV.str s), (1, AV.int IntKind.i64 most), (7, AV.int IntKind.i64 k), (8, AV.int IntKind.i64 x), (9, AV.int IntKind.i64 i)] [] (q132_4 n Post) := fun s most k x i n Post h => Go.Ab.AWP.loop' g132 (Cfg.live g132) c132_14 (by kernel_rfl) (by kernel_rfl) (Go.Ab.kc (by kernel_rfl) h)

end
end V
end

section
/- Spans, needs, releases and manifests as cells. -/

open Go Go.Ab Go.Proofs
namespace T
abbrev Span := Int × Int
abbrev Need := List UInt8 × List Span
abbrev Rel := Int × List Need
abbrev Mani := List UInt8 × List Rel
noncomputable def encS (x : Span) : List AV := [.int .i64 x.1, .int .i64 x.2]
noncomputable def encN (x : Need) : List AV := [.str ⟨x.1.toArray⟩, .sl 2 (.map encS (0, 0) x.2) .none]
noncomputable def encR (x : Rel) : List AV := [.int .i64 x.1, .sl 2 (.map encN ([], []) x.2) .none]
noncomputable def encM (x : Mani) : List AV := [.str ⟨x.1.toArray⟩, .sl 2 (.map encR (0, []) x.2) .none]
end T
end

section
/- Printed: what the code of functions 135, 36, 125, 10, 99, 114, 133, 9 asks for, by the framework's own reading of it; each line is checked against the code. -/

set_option linter.unusedVariables false
set_option maxRecDepth 100000
set_option maxHeartbeats 4000000
open Go Go.Ab Go.Proofs
namespace C
noncomputable section

noncomputable def retC : List (Nat × Ret) := [
  (35, ⟨Bool, fun _ _ x => .bool x, fun _ H _ => H⟩), (9066, ⟨Bool, fun _ _ x => .bool x, fun _ H _ => H⟩), (9062, ⟨Bool, fun _ _ x => .bool x, fun _ H _ => H⟩), (114, ⟨Bool, fun _ _ x => .bool x, fun _ H _ => H⟩),
  (47, ⟨Bool, fun _ _ x => .bool x, fun _ H _ => H⟩), (9, ⟨Bool, fun _ _ x => .bool x, fun _ H _ => H⟩), (99, ⟨Bool, fun _ _ x => .bool x, fun _ H _ => H⟩), (9173, ⟨Bool, fun _ _ x => .bool x, fun _ H _ => H⟩),
  (133, ⟨Bool, fun _ _ x => .bool x, fun _ H _ => H⟩), (10, ⟨Bool, fun _ _ x => .bool x, fun _ H _ => H⟩), (9163, ⟨Bool, fun _ _ x => .bool x, fun _ H _ => H⟩), (125, ⟨Bool, fun _ _ x => .bool x, fun _ H _ => H⟩),
  (36, ⟨Bool, fun _ _ x => .bool x, fun _ H _ => H⟩), (135, ⟨Bool, fun _ _ x => .bool x, fun _ H _ => H⟩)]
noncomputable def rets : FuncId → List Ret := lookupR (retC ++ V.retL)

-- 135
noncomputable def l135 : Nat → List Nat
  | 3 => [3, 6, 7, 8]
  | _ => []
noncomputable def u135 : Nat → Bool
  | _ => false
noncomputable def m135 : Nat → Bool
  | _ => false
noncomputable def g135 : Cfg := { N := 31, live := l135, cut := u135, mu := m135, ret := rets }
noncomputable def c135 : Go.Code := Go.Ab.bodyOf Go.Proofs.Try.f135
noncomputable def q135_0 : Nat → (AV → List AObj → Prop) → AQ := fun (n : Nat) (Post : AV → List AObj → Prop) => endQ Try.prog (resultsOf Try.f135) Post
noncomputable def q135_1 : Nat → (AV → List AObj → Prop) → AQ := fun (n : Nat) (Post : AV → List AObj → Prop) => seqQ (fun (s' : Slots) (H' : List AObj) => awp Try.prog g135 n (codeSnd (codeSnd (codeSnd c135))) s' H' (q135_0 n Post)) (q135_0 n Post)
noncomputable def q135_2 : Nat → (AV → List AObj → Prop) → AQ := fun (n : Nat) (Post : AV → List AObj → Prop) => blockQ 0 (q135_1 n Post)
noncomputable def c135_3 : Go.Code := codeFst (codeSnd (codeFst (codeSnd (codeSnd c135))))
theorem s135 : ∀ (l : List T.Span) (Post : AV → List AObj → Prop),
  AWP Try.prog 31 0 c135_3
      [(3, AV.int IntKind.i64 (-1 : Int)), (6, AV.sl 2 (Seq.map T.encS ((0 : Int), (0 : Int)) l) Tip.none), (7, AV.int IntKind.i64 (↑(List.length l) : Int)),
        (8, AV.int IntKind.i64 (0 : Int))]
      [] (q135_2 0 Post) →
    ASpec Try.prog 135 [AV.sl 2 (Seq.map T.encS ((0 : Int), (0 : Int)) l) Tip.none] [] Post := fun l Post h => Go.Ab.ASpec.of_vc g135 Go.Proofs.Try.func135 (by kernel_rfl) (by kernel_rfl) (by kernel_rfl) (Go.Ab.kc (by kernel_rfl) h)
theorem v135_3 : ∀ (l : List T.Span) (e n i : Int) (n_1 : Nat) (Post : AV → List AObj → Prop),
  condP (decide (i < n))
      (needP ((0 : Int) ≤ i ∧ i < (↑(List.length l) : Int))
        (condP (decide (Prod.fst (List.getD l (Int.toNat i) ((0 : Int), (0 : Int))) ≤ e))
         (Post (AV.bool false)
         [AObj.cells [AV.int IntKind.i64 (Prod.fst (List.getD l (Int.toNat i) ((0 : Int), (0 : Int)))), AV.int IntKind.i64 (Prod.snd (List.getD l (Int.toNat i) ((0 : Int), (0 : Int))))]])
         (condP (decide (Prod.fst (List.getD l (Int.toNat i) ((0 : Int), (0 : Int))) ≥ Prod.snd (List.getD l (Int.toNat i) ((0 : Int), (0 : Int)))))
         (Post (AV.bool false)
         [AObj.cells [AV.int IntKind.i64 (Prod.fst (List.getD l (Int.toNat i) ((0 : Int), (0 : Int)))), AV.int IntKind.i64 (Prod.snd (List.getD l (Int.toNat i) ((0 : Int), (0 : Int))))]])
         (condP (decide (Prod.snd (List.getD l (Int.toNat i) ((0 : Int), (0 : Int))) > (1000000000 : Int)))
         (Post (AV.bool false)
         [AObj.cells [AV.int IntKind.i64 (Prod.fst (List.getD l (Int.toNat i) ((0 : Int), (0 : Int)))), AV.int IntKind.i64 (Prod.snd (List.getD l (Int.toNat i) ((0 : Int), (0 : Int))))]])
         (AWP Try.prog 31 n_1 c135_3
         [(3, AV.int IntKind.i64 (Prod.snd (List.getD l (Int.toNat i) ((0 : Int), (0 : Int))))), (6, AV.sl 2 (Seq.map T.encS ((0 : Int), (0 : Int)) l) Tip.none),
         (7, AV.int IntKind.i64 n), (8, AV.int IntKind.i64 (IntKind.wrap IntKind.i64 (i + (1 : Int))))]
         [AObj.cells [AV.int IntKind.i64 (Prod.fst (List.getD l (Int.toNat i) ((0 : Int), (0 : Int)))), AV.int IntKind.i64 (Prod.snd (List.getD l (Int.toNat i) ((0 : Int), (0 : Int))))]]
         (q135_2 n_1 Post))))))
      (Post (AV.bool true) []) →
    AWP Try.prog 31 n_1 c135_3
      [(3, AV.int IntKind.i64 e), (6, AV.sl 2 (Seq.map T.encS ((0 : Int), (0 : Int)) l) Tip.none), (7, AV.int IntKind.i64 n), (8, AV.int IntKind.i64 i)] []
      (q135_2 n_1 Post) := fun l e n i n Post h => Go.Ab.AWP.loop' g135 (Cfg.live g135) c135_3 (by kernel_rfl) (by kernel_rfl) (Go.Ab.kc (by kernel_rfl) h)

-- 36
noncomputable def l36 : Nat → List Nat
  | 2 => [0, 3]
  | _ => []
noncomputable def u36 : Nat → Bool
  | _ => false
noncomputable def m36 : Nat → Bool
  | _ => false
noncomputable def g36 : Cfg := { N := 55, live := l36, cut := u36, mu := m36, ret := rets }
noncomputable def c36 : Go.Code := Go.Ab.bodyOf Go.Proofs.Try.f36
noncomputable def q36_0 : Nat → (AV → List AObj → Prop) → AQ := fun (n : Nat) (Post : AV → List AObj → Prop) => endQ Try.prog (resultsOf Try.f36) Post
noncomputable def q36_1 : Nat → (AV → List AObj → Prop) → AQ := fun (n : Nat) (Post : AV → List AObj → Prop) => seqQ (fun (s' : Slots) (H' : List AObj) => awp Try.prog g36 n (codeSnd (codeSnd c36)) s' H' (q36_0 n Post)) (q36_0 n Post)
noncomputable def q36_2 : Nat → (AV → List AObj → Prop) → AQ := fun (n : Nat) (Post : AV → List AObj → Prop) => blockQ 0 (q36_1 n Post)
noncomputable def c36_2 : Go.Code := codeFst (codeSnd (codeFst (codeSnd c36)))
theorem s36 : ∀ (l : List T.Span) (Post : AV → List AObj → Prop),
  AWP Try.prog 55 0 c36_2 [(0, AV.sl 2 (Seq.map T.encS ((0 : Int), (0 : Int)) l) Tip.none), (3, AV.int IntKind.i64 (0 : Int))] [] (q36_2 0 Post) →
    ASpec Try.prog 36 [AV.sl 2 (Seq.map T.encS ((0 : Int), (0 : Int)) l) Tip.none] [] Post := fun l Post h => Go.Ab.ASpec.of_vc g36 Go.Proofs.Try.func36 (by kernel_rfl) (by kernel_rfl) (by kernel_rfl) (Go.Ab.kc (by kernel_rfl) h)
theorem v36_2 : ∀ (l : List T.Span) (i : Int) (n : Nat) (Post : AV → List AObj → Prop),
  condP (decide (i < (↑(List.length l) : Int)))
      (needP ((0 : Int) ≤ i ∧ i < (↑(List.length l) : Int))
        (condP (decide (Prod.fst (List.getD l (Int.toNat i) ((0 : Int), (0 : Int))) < (0 : Int))) (Post (AV.bool false) [])
         (needP ((0 : Int) ≤ i ∧ i < (↑(List.length l) : Int))
         (condP (decide (Prod.snd (List.getD l (Int.toNat i) ((0 : Int), (0 : Int))) > (1000000000 : Int))) (Post (AV.bool false) [])
         (needP ((0 : Int) ≤ i ∧ i < (↑(List.length l) : Int))
         (needP ((0 : Int) ≤ i ∧ i < (↑(List.length l) : Int))
         (condP (decide (Prod.fst (List.getD l (Int.toNat i) ((0 : Int), (0 : Int))) ≥ Prod.snd (List.getD l (Int.toNat i) ((0 : Int), (0 : Int))))) (Post (AV.bool false) [])
         (condP (decide (i > (0 : Int)))
         (needP ((0 : Int) ≤ i ∧ i < (↑(List.length l) : Int))
         (needP ((0 : Int) ≤ IntKind.wrap IntKind.i64 (i - (1 : Int)) ∧ IntKind.wrap IntKind.i64 (i - (1 : Int)) < (↑(List.length l) : Int))
         (condP
         (decide
         (Prod.fst (List.getD l (Int.toNat i) ((0 : Int), (0 : Int))) ≤ Prod.snd (List.getD l (Int.toNat (IntKind.wrap IntKind.i64 (i - (1 : Int)))) ((0 : Int), (0 : Int)))))
         (Post (AV.bool false) [])
         (AWP Try.prog 55 n c36_2
         [(0, AV.sl 2 (Seq.map T.encS ((0 : Int), (0 : Int)) l) Tip.none), (3, AV.int IntKind.i64 (IntKind.wrap IntKind.i64 (i + (1 : Int))))] []
         (q36_2 n Post)))))
         (AWP Try.prog 55 n c36_2
         [(0, AV.sl 2 (Seq.map T.encS ((0 : Int), (0 : Int)) l) Tip.none), (3, AV.int IntKind.i64 (IntKind.wrap IntKind.i64 (i + (1 : Int))))] []
         (q36_2 n Post))))))))))
      (Post (AV.bool true) []) →
    AWP Try.prog 55 n c36_2 [(0, AV.sl 2 (Seq.map T.encS ((0 : Int), (0 : Int)) l) Tip.none), (3, AV.int IntKind.i64 i)] [] (q36_2 n Post) := fun l i n Post h => Go.Ab.AWP.loop' g36 (Cfg.live g36) c36_2 (by kernel_rfl) (by kernel_rfl) (Go.Ab.kc (by kernel_rfl) h)

-- 125
noncomputable def l125 : Nat → List Nat
  | 3 => [0, 3, 6, 7, 8]
  | _ => []
noncomputable def u125 : Nat → Bool
  | _ => false
noncomputable def m125 : Nat → Bool
  | _ => false
noncomputable def g125 : Cfg := { N := 40, live := l125, cut := u125, mu := m125, ret := rets }
noncomputable def c125 : Go.Code := Go.Ab.bodyOf Go.Proofs.Try.f125
noncomputable def q125_0 : Nat → (AV → List AObj → Prop) → AQ := fun (n : Nat) (Post : AV → List AObj → Prop) => endQ Try.prog (resultsOf Try.f125) Post
noncomputable def q125_1 : Nat → (AV → List AObj → Prop) → AQ := fun (n : Nat) (Post : AV → List AObj → Prop) => seqQ (fun (s' : Slots) (H' : List AObj) => awp Try.prog g125 n (codeSnd (codeSnd (codeSnd c125))) s' H' (q125_0 n Post)) (q125_0 n Post)
noncomputable def q125_2 : Nat → (AV → List AObj → Prop) → AQ := fun (n : Nat) (Post : AV → List AObj → Prop) => blockQ 0 (q125_1 n Post)
noncomputable def c125_3 : Go.Code := codeFst (codeSnd (codeFst (codeSnd (codeSnd c125))))
theorem s125 : ∀ (l : List T.Need) (Post : AV → List AObj → Prop),
  AWP Try.prog 40 0 c125_3
      [(0, AV.sl 2 (Seq.map T.encN ([], []) l) Tip.none), (3, AV.str { data := #[] }), (6, AV.sl 2 (Seq.map T.encN ([], []) l) Tip.none),
        (7, AV.int IntKind.i64 (↑(List.length l) : Int)), (8, AV.int IntKind.i64 (0 : Int))]
      [] (q125_2 0 Post) →
    ASpec Try.prog 125 [AV.sl 2 (Seq.map T.encN ([], []) l) Tip.none] [] Post := fun l Post h => Go.Ab.ASpec.of_vc g125 Go.Proofs.Try.func125 (by kernel_rfl) (by kernel_rfl) (by kernel_rfl) (Go.Ab.kc (by kernel_rfl) h)
theorem v125_3 : ∀ (l : List T.Need) (s : ByteArray) (n i : Int) (n_1 : Nat) (Post : AV → List AObj → Prop),
  condP (decide (i < n))
      (needP ((0 : Int) ≤ i ∧ i < (↑(List.length l) : Int))
        (ASpec Try.prog 47 [AV.str { data := List.toArray (Prod.fst (List.getD l (Int.toNat i) ([], []))) }]
         [AObj.cells
         [AV.str { data := List.toArray (Prod.fst (List.getD l (Int.toNat i) ([], []))) },
         AV.sl 2 (Seq.map T.encS ((0 : Int), (0 : Int)) (Prod.snd (List.getD l (Int.toNat i) ([], [])))) Tip.none]]
         fun (r : AV) (H' : List AObj) =>
         ∃ (x : Bool),
         r = AV.bool x ∧
         H' =
         [AObj.cells
         [AV.str { data := List.toArray (Prod.fst (List.getD l (Int.toNat i) ([], []))) },
         AV.sl 2 (Seq.map T.encS ((0 : Int), (0 : Int)) (Prod.snd (List.getD l (Int.toNat i) ([], [])))) Tip.none]] ∧
         condP (!x)
         (Post (AV.bool false)
         [AObj.cells
         [AV.str { data := List.toArray (Prod.fst (List.getD l (Int.toNat i) ([], []))) },
         AV.sl 2 (Seq.map T.encS ((0 : Int), (0 : Int)) (Prod.snd (List.getD l (Int.toNat i) ([], [])))) Tip.none]])
         (condP
         (Op.bytesLess (ByteArray.toList { data := List.toArray (Prod.fst (List.getD l (Int.toNat i) ([], []))) }) (ByteArray.toList s) ||
         ByteArray.toList { data := List.toArray (Prod.fst (List.getD l (Int.toNat i) ([], []))) } == ByteArray.toList s)
         (Post (AV.bool false)
         [AObj.cells
         [AV.str { data := List.toArray (Prod.fst (List.getD l (Int.toNat i) ([], []))) },
         AV.sl 2 (Seq.map T.encS ((0 : Int), (0 : Int)) (Prod.snd (List.getD l (Int.toNat i) ([], [])))) Tip.none]])
         (condP (decide ((↑(List.length (Prod.snd (List.getD l (Int.toNat i) ([], [])))) : Int) > (6 : Int)))
         (Post (AV.bool false)
         [AObj.cells
         [AV.str { data := List.toArray (Prod.fst (List.getD l (Int.toNat i) ([], []))) },
         AV.sl 2 (Seq.map T.encS ((0 : Int), (0 : Int)) (Prod.snd (List.getD l (Int.toNat i) ([], [])))) Tip.none]])
         (ASpec Try.prog 135 [AV.sl 2 (Seq.map T.encS ((0 : Int), (0 : Int)) (Prod.snd (List.getD l (Int.toNat i) ([], [])))) Tip.none]
         [AObj.cells
         [AV.str { data := List.toArray (Prod.fst (List.getD l (Int.toNat i) ([], []))) },
         AV.sl 2 (Seq.map T.encS ((0 : Int), (0 : Int)) (Prod.snd (List.getD l (Int.toNat i) ([], [])))) Tip.none]]
         fun (r : AV) (H' : List AObj) =>
         ∃ (x : Bool),
         r = AV.bool x ∧
         H' =
         [AObj.cells
         [AV.str { data := List.toArray (Prod.fst (List.getD l (Int.toNat i) ([], []))) },
         AV.sl 2 (Seq.map T.encS ((0 : Int), (0 : Int)) (Prod.snd (List.getD l (Int.toNat i) ([], [])))) Tip.none]] ∧
         condP (!x)
         (Post (AV.bool false)
         [AObj.cells
         [AV.str { data := List.toArray (Prod.fst (List.getD l (Int.toNat i) ([], []))) },
         AV.sl 2 (Seq.map T.encS ((0 : Int), (0 : Int)) (Prod.snd (List.getD l (Int.toNat i) ([], [])))) Tip.none]])
         (AWP Try.prog 40 n_1 c125_3
         [(0, AV.sl 2 (Seq.map T.encN ([], []) l) Tip.none), (3, AV.str { data := List.toArray (Prod.fst (List.getD l (Int.toNat i) ([], []))) }),
         (6, AV.sl 2 (Seq.map T.encN ([], []) l) Tip.none), (7, AV.int IntKind.i64 n),
         (8, AV.int IntKind.i64 (IntKind.wrap IntKind.i64 (i + (1 : Int))))]
         [AObj.cells
         [AV.str { data := List.toArray (Prod.fst (List.getD l (Int.toNat i) ([], []))) },
         AV.sl 2 (Seq.map T.encS ((0 : Int), (0 : Int)) (Prod.snd (List.getD l (Int.toNat i) ([], [])))) Tip.none]]
         (q125_2 n_1 Post)))))))
      (Post (AV.bool (decide ((↑(List.length l) : Int) ≤ (6 : Int)))) []) →
    AWP Try.prog 40 n_1 c125_3
      [(0, AV.sl 2 (Seq.map T.encN ([], []) l) Tip.none), (3, AV.str s), (6, AV.sl 2 (Seq.map T.encN ([], []) l) Tip.none), (7, AV.int IntKind.i64 n),
        (8, AV.int IntKind.i64 i)]
      [] (q125_2 n_1 Post) := fun l s n i n Post h => Go.Ab.AWP.loop' g125 (Cfg.live g125) c125_3 (by kernel_rfl) (by kernel_rfl) (Go.Ab.kc (by kernel_rfl) h)

-- 10
noncomputable def l10 : Nat → List Nat
  | 2 => [0, 3]
  | _ => []
noncomputable def u10 : Nat → Bool
  | _ => false
noncomputable def m10 : Nat → Bool
  | _ => false
noncomputable def g10 : Cfg := { N := 56, live := l10, cut := u10, mu := m10, ret := rets }
noncomputable def c10 : Go.Code := Go.Ab.bodyOf Go.Proofs.Try.f10
noncomputable def q10_0 : Nat → (AV → List AObj → Prop) → AQ := fun (n : Nat) (Post : AV → List AObj → Prop) => endQ Try.prog (resultsOf Try.f10) Post
noncomputable def q10_1 : Nat → (AV → List AObj → Prop) → AQ := fun (n : Nat) (Post : AV → List AObj → Prop) => seqQ (fun (s' : Slots) (H' : List AObj) => awp Try.prog g10 n (codeSnd (codeSnd c10)) s' H' (q10_0 n Post)) (q10_0 n Post)
noncomputable def q10_2 : Nat → (AV → List AObj → Prop) → AQ := fun (n : Nat) (Post : AV → List AObj → Prop) => blockQ 0 (q10_1 n Post)
noncomputable def c10_2 : Go.Code := codeFst (codeSnd (codeFst (codeSnd c10)))
theorem s10 : ∀ (l : List T.Need) (Post : AV → List AObj → Prop),
  AWP Try.prog 56 0 c10_2 [(0, AV.sl 2 (Seq.map T.encN ([], []) l) Tip.none), (3, AV.int IntKind.i64 (0 : Int))] [] (q10_2 0 Post) →
    ASpec Try.prog 10 [AV.sl 2 (Seq.map T.encN ([], []) l) Tip.none] [] Post := fun l Post h => Go.Ab.ASpec.of_vc g10 Go.Proofs.Try.func10 (by kernel_rfl) (by kernel_rfl) (by kernel_rfl) (Go.Ab.kc (by kernel_rfl) h)
theorem v10_2 : ∀ (l : List T.Need) (i : Int) (n : Nat) (Post : AV → List AObj → Prop),
  condP (decide (i < (↑(List.length l) : Int)))
      (needP ((0 : Int) ≤ i ∧ i < (↑(List.length l) : Int))
        (ASpec Try.prog 35 [AV.str { data := List.toArray (Prod.fst (List.getD l (Int.toNat i) ([], []))) }] [] fun (r : AV) (H' : List AObj) =>
         ∃ (x : Bool),
         r = AV.bool x ∧
         H' = [] ∧
         condP (!x) (Post (AV.bool false) [])
         (needP ((0 : Int) ≤ i ∧ i < (↑(List.length l) : Int))
         (ASpec Try.prog 36 [AV.sl 2 (Seq.map T.encS ((0 : Int), (0 : Int)) (Prod.snd (List.getD l (Int.toNat i) ([], [])))) Tip.none] [] fun (r : AV) (H' : List AObj) =>
         ∃ (x : Bool),
         r = AV.bool x ∧
         H' = [] ∧
         condP (!x) (Post (AV.bool false) [])
         (needP ((0 : Int) ≤ i ∧ i < (↑(List.length l) : Int))
         (condP (decide ((↑(List.length (Prod.snd (List.getD l (Int.toNat i) ([], [])))) : Int) > (6 : Int))) (Post (AV.bool false) [])
         (condP (decide (i > (0 : Int)))
         (needP ((0 : Int) ≤ i ∧ i < (↑(List.length l) : Int))
         (needP ((0 : Int) ≤ IntKind.wrap IntKind.i64 (i - (1 : Int)) ∧ IntKind.wrap IntKind.i64 (i - (1 : Int)) < (↑(List.length l) : Int))
         (condP
         (Op.bytesLess (ByteArray.toList { data := List.toArray (Prod.fst (List.getD l (Int.toNat i) ([], []))) })
         (ByteArray.toList { data := List.toArray (Prod.fst (List.getD l (Int.toNat (IntKind.wrap IntKind.i64 (i - (1 : Int)))) ([], []))) }) ||
         ByteArray.toList { data := List.toArray (Prod.fst (List.getD l (Int.toNat i) ([], []))) } ==
         ByteArray.toList { data := List.toArray (Prod.fst (List.getD l (Int.toNat (IntKind.wrap IntKind.i64 (i - (1 : Int)))) ([], []))) })
         (Post (AV.bool false) [])
         (AWP Try.prog 56 n c10_2
         [(0, AV.sl 2 (Seq.map T.encN ([], []) l) Tip.none), (3, AV.int IntKind.i64 (IntKind.wrap IntKind.i64 (i + (1 : Int))))] []
         (q10_2 n Post)))))
         (AWP Try.prog 56 n c10_2
         [(0, AV.sl 2 (Seq.map T.encN ([], []) l) Tip.none), (3, AV.int IntKind.i64 (IntKind.wrap IntKind.i64 (i + (1 : Int))))] []
         (q10_2 n Post)))))))))
      (Post (AV.bool (decide ((↑(List.length l) : Int) ≤ (6 : Int)))) []) →
    AWP Try.prog 56 n c10_2 [(0, AV.sl 2 (Seq.map T.encN ([], []) l) Tip.none), (3, AV.int IntKind.i64 i)] [] (q10_2 n Post) := fun l i n Post h => Go.Ab.AWP.loop' g10 (Cfg.live g10) c10_2 (by kernel_rfl) (by kernel_rfl) (Go.Ab.kc (by kernel_rfl) h)

-- 99
noncomputable def l99 : Nat → List Nat
  | 3 => [1, 3, 7, 8, 9]
  | _ => []
noncomputable def u99 : Nat → Bool
  | _ => false
noncomputable def m99 : Nat → Bool
  | _ => false
noncomputable def g99 : Cfg := { N := 40, live := l99, cut := u99, mu := m99, ret := rets }
noncomputable def c99 : Go.Code := Go.Ab.bodyOf Go.Proofs.Try.f99
noncomputable def q99_0 : Nat → (AV → List AObj → Prop) → AQ := fun (n : Nat) (Post : AV → List AObj → Prop) => endQ Try.prog (resultsOf Try.f99) Post
noncomputable def q99_1 : Nat → (AV → List AObj → Prop) → AQ := fun (n : Nat) (Post : AV → List AObj → Prop) => seqQ (fun (s' : Slots) (H' : List AObj) => awp Try.prog g99 n (codeSnd (codeSnd (codeSnd c99))) s' H' (q99_0 n Post)) (q99_0 n Post)
noncomputable def q99_2 : Nat → (AV → List AObj → Prop) → AQ := fun (n : Nat) (Post : AV → List AObj → Prop) => blockQ 0 (q99_1 n Post)
noncomputable def c99_3 : Go.Code := codeFst (codeSnd (codeFst (codeSnd (codeSnd c99))))
theorem s99 : ∀ (m : T.Mani) (Post : AV → List AObj → Prop),
  AWP Try.prog 40 0 c99_3
      [(1, AV.ptr 0 0), (3, AV.int IntKind.i64 (-1 : Int)), (7, AV.sl 2 (Seq.map T.encR ((0 : Int), []) (Prod.snd m)) Tip.none),
        (8, AV.int IntKind.i64 (↑(List.length (Prod.snd m)) : Int)), (9, AV.int IntKind.i64 (0 : Int))]
      [AObj.cells [AV.str { data := List.toArray (Prod.fst m) }, AV.sl 2 (Seq.map T.encR ((0 : Int), []) (Prod.snd m)) Tip.none]] (q99_2 0 Post) →
    ASpec Try.prog 99 [AV.agg (T.encM m)] [] Post := fun m Post h => Go.Ab.ASpec.of_vc g99 Go.Proofs.Try.func99 (by kernel_rfl) (by kernel_rfl) (by kernel_rfl) (Go.Ab.kc (by kernel_rfl) h)
theorem v99_3 : ∀ (m : T.Mani) (e n i : Int) (n_1 : Nat) (Post : AV → List AObj → Prop),
  condP (decide (i < n))
      (needP ((0 : Int) ≤ i ∧ i < (↑(List.length (Prod.snd m)) : Int))
        (condP (decide (Prod.fst (List.getD (Prod.snd m) (Int.toNat i) ((0 : Int), [])) ≤ e))
         (Post (AV.bool false)
         [AObj.cells [AV.str { data := List.toArray (Prod.fst m) }, AV.sl 2 (Seq.map T.encR ((0 : Int), []) (Prod.snd m)) Tip.none],
         AObj.cells
         [AV.int IntKind.i64 (Prod.fst (List.getD (Prod.snd m) (Int.toNat i) ((0 : Int), []))),
         AV.sl 2 (Seq.map T.encN ([], []) (Prod.snd (List.getD (Prod.snd m) (Int.toNat i) ((0 : Int), [])))) Tip.none]])
         (condP (decide (Prod.fst (List.getD (Prod.snd m) (Int.toNat i) ((0 : Int), [])) ≥ (1000000000 : Int)))
         (Post (AV.bool false)
         [AObj.cells [AV.str { data := List.toArray (Prod.fst m) }, AV.sl 2 (Seq.map T.encR ((0 : Int), []) (Prod.snd m)) Tip.none],
         AObj.cells
         [AV.int IntKind.i64 (Prod.fst (List.getD (Prod.snd m) (Int.toNat i) ((0 : Int), []))),
         AV.sl 2 (Seq.map T.encN ([], []) (Prod.snd (List.getD (Prod.snd m) (Int.toNat i) ((0 : Int), [])))) Tip.none]])
         (ASpec Try.prog 125 [AV.sl 2 (Seq.map T.encN ([], []) (Prod.snd (List.getD (Prod.snd m) (Int.toNat i) ((0 : Int), [])))) Tip.none]
         [AObj.cells [AV.str { data := List.toArray (Prod.fst m) }, AV.sl 2 (Seq.map T.encR ((0 : Int), []) (Prod.snd m)) Tip.none],
         AObj.cells
         [AV.int IntKind.i64 (Prod.fst (List.getD (Prod.snd m) (Int.toNat i) ((0 : Int), []))),
         AV.sl 2 (Seq.map T.encN ([], []) (Prod.snd (List.getD (Prod.snd m) (Int.toNat i) ((0 : Int), [])))) Tip.none]]
         fun (r : AV) (H' : List AObj) =>
         ∃ (x : Bool),
         r = AV.bool x ∧
         H' =
         [AObj.cells [AV.str { data := List.toArray (Prod.fst m) }, AV.sl 2 (Seq.map T.encR ((0 : Int), []) (Prod.snd m)) Tip.none],
         AObj.cells
         [AV.int IntKind.i64 (Prod.fst (List.getD (Prod.snd m) (Int.toNat i) ((0 : Int), []))),
         AV.sl 2 (Seq.map T.encN ([], []) (Prod.snd (List.getD (Prod.snd m) (Int.toNat i) ((0 : Int), [])))) Tip.none]] ∧
         condP (!x)
         (Post (AV.bool false)
         [AObj.cells [AV.str { data := List.toArray (Prod.fst m) }, AV.sl 2 (Seq.map T.encR ((0 : Int), []) (Prod.snd m)) Tip.none],
         AObj.cells
         [AV.int IntKind.i64 (Prod.fst (List.getD (Prod.snd m) (Int.toNat i) ((0 : Int), []))),
         AV.sl 2 (Seq.map T.encN ([], []) (Prod.snd (List.getD (Prod.snd m) (Int.toNat i) ((0 : Int), [])))) Tip.none]])
         (AWP Try.prog 40 n_1 c99_3
         [(1, AV.ptr 0 0), (3, AV.int IntKind.i64 (Prod.fst (List.getD (Prod.snd m) (Int.toNat i) ((0 : Int), [])))),
         (7, AV.sl 2 (Seq.map T.encR ((0 : Int), []) (Prod.snd m)) Tip.none), (8, AV.int IntKind.i64 n),
         (9, AV.int IntKind.i64 (IntKind.wrap IntKind.i64 (i + (1 : Int))))]
         [AObj.cells [AV.str { data := List.toArray (Prod.fst m) }, AV.sl 2 (Seq.map T.encR ((0 : Int), []) (Prod.snd m)) Tip.none],
         AObj.cells
         [AV.int IntKind.i64 (Prod.fst (List.getD (Prod.snd m) (Int.toNat i) ((0 : Int), []))),
         AV.sl 2 (Seq.map T.encN ([], []) (Prod.snd (List.getD (Prod.snd m) (Int.toNat i) ((0 : Int), [])))) Tip.none]]
         (q99_2 n_1 Post))))))
      (ASpec Try.prog 47 [AV.str { data := List.toArray (Prod.fst m) }]
        [AObj.cells [AV.str { data := List.toArray (Prod.fst m) }, AV.sl 2 (Seq.map T.encR ((0 : Int), []) (Prod.snd m)) Tip.none]] fun (r : AV) (H' : List AObj) =>
        ∃ (x : Bool),
         r = AV.bool x ∧
         H' = [AObj.cells [AV.str { data := List.toArray (Prod.fst m) }, AV.sl 2 (Seq.map T.encR ((0 : Int), []) (Prod.snd m)) Tip.none]] ∧
         condP x
         (Post (AV.bool (decide ((↑(List.length (Prod.snd m)) : Int) ≤ (8 : Int))))
         [AObj.cells [AV.str { data := List.toArray (Prod.fst m) }, AV.sl 2 (Seq.map T.encR ((0 : Int), []) (Prod.snd m)) Tip.none]])
         (Post (AV.bool false) [AObj.cells [AV.str { data := List.toArray (Prod.fst m) }, AV.sl 2 (Seq.map T.encR ((0 : Int), []) (Prod.snd m)) Tip.none]])) →
    AWP Try.prog 40 n_1 c99_3
      [(1, AV.ptr 0 0), (3, AV.int IntKind.i64 e), (7, AV.sl 2 (Seq.map T.encR ((0 : Int), []) (Prod.snd m)) Tip.none),
        (8, AV.int IntKind.i64 n), (9, AV.int IntKind.i64 i)]
      [AObj.cells (T.encM m)] (q99_2 n_1 Post) := fun m e n i n Post h => Go.Ab.AWP.loop' g99 (Cfg.live g99) c99_3 (by kernel_rfl) (by kernel_rfl) (Go.Ab.kc (by kernel_rfl) h)

-- 114
noncomputable def l114 : Nat → List Nat
  | 2 => [1, 3]
  | _ => []
noncomputable def u114 : Nat → Bool
  | _ => false
noncomputable def m114 : Nat → Bool
  | _ => false
noncomputable def g114 : Cfg := { N := 52, live := l114, cut := u114, mu := m114, ret := rets }
noncomputable def c114 : Go.Code := Go.Ab.bodyOf Go.Proofs.Try.f114
noncomputable def q114_0 : Nat → (AV → List AObj → Prop) → AQ := fun (n : Nat) (Post : AV → List AObj → Prop) => endQ Try.prog (resultsOf Try.f114) Post
noncomputable def q114_1 : Nat → (AV → List AObj → Prop) → AQ := fun (n : Nat) (Post : AV → List AObj → Prop) => seqQ (fun (s' : Slots) (H' : List AObj) => awp Try.prog g114 n (codeSnd (codeSnd c114)) s' H' (q114_0 n Post)) (q114_0 n Post)
noncomputable def q114_2 : Nat → (AV → List AObj → Prop) → AQ := fun (n : Nat) (Post : AV → List AObj → Prop) => blockQ 0 (q114_1 n Post)
noncomputable def c114_2 : Go.Code := codeFst (codeSnd (codeFst (codeSnd c114)))
theorem s114 : ∀ (m : T.Mani) (Post : AV → List AObj → Prop),
  AWP Try.prog 52 0 c114_2 [(1, AV.ptr 0 0), (3, AV.int IntKind.i64 (0 : Int))]
      [AObj.cells [AV.str { data := List.toArray (Prod.fst m) }, AV.sl 2 (Seq.map T.encR ((0 : Int), []) (Prod.snd m)) Tip.none]] (q114_2 0 Post) →
    ASpec Try.prog 114 [AV.agg (T.encM m)] [] Post := fun m Post h => Go.Ab.ASpec.of_vc g114 Go.Proofs.Try.func114 (by kernel_rfl) (by kernel_rfl) (by kernel_rfl) (Go.Ab.kc (by kernel_rfl) h)
theorem v114_2 : ∀ (m : T.Mani) (i : Int) (n : Nat) (Post : AV → List AObj → Prop),
  condP (decide (i < (↑(List.length (Prod.snd m)) : Int)))
      (needP ((0 : Int) ≤ i ∧ i < (↑(List.length (Prod.snd m)) : Int))
        (ASpec Try.prog 133 [AV.int IntKind.i64 (Prod.fst (List.getD (Prod.snd m) (Int.toNat i) ((0 : Int), [])))]
         [AObj.cells [AV.str { data := List.toArray (Prod.fst m) }, AV.sl 2 (Seq.map T.encR ((0 : Int), []) (Prod.snd m)) Tip.none],
         AObj.cells
         [AV.int IntKind.i64 (Prod.fst (List.getD (Prod.snd m) (Int.toNat i) ((0 : Int), []))),
         AV.sl 2 (Seq.map T.encN ([], []) (Prod.snd (List.getD (Prod.snd m) (Int.toNat i) ((0 : Int), [])))) Tip.none]]
         fun (r : AV) (H' : List AObj) =>
         ∃ (x : Bool),
         r = AV.bool x ∧
         H' =
         [AObj.cells [AV.str { data := List.toArray (Prod.fst m) }, AV.sl 2 (Seq.map T.encR ((0 : Int), []) (Prod.snd m)) Tip.none],
         AObj.cells
         [AV.int IntKind.i64 (Prod.fst (List.getD (Prod.snd m) (Int.toNat i) ((0 : Int), []))),
         AV.sl 2 (Seq.map T.encN ([], []) (Prod.snd (List.getD (Prod.snd m) (Int.toNat i) ((0 : Int), [])))) Tip.none]] ∧
         condP (!x)
         (Post (AV.bool false)
         [AObj.cells [AV.str { data := List.toArray (Prod.fst m) }, AV.sl 2 (Seq.map T.encR ((0 : Int), []) (Prod.snd m)) Tip.none],
         AObj.cells
         [AV.int IntKind.i64 (Prod.fst (List.getD (Prod.snd m) (Int.toNat i) ((0 : Int), []))),
         AV.sl 2 (Seq.map T.encN ([], []) (Prod.snd (List.getD (Prod.snd m) (Int.toNat i) ((0 : Int), [])))) Tip.none]])
         (ASpec Try.prog 10 [AV.sl 2 (Seq.map T.encN ([], []) (Prod.snd (List.getD (Prod.snd m) (Int.toNat i) ((0 : Int), [])))) Tip.none]
         [AObj.cells [AV.str { data := List.toArray (Prod.fst m) }, AV.sl 2 (Seq.map T.encR ((0 : Int), []) (Prod.snd m)) Tip.none],
         AObj.cells
         [AV.int IntKind.i64 (Prod.fst (List.getD (Prod.snd m) (Int.toNat i) ((0 : Int), []))),
         AV.sl 2 (Seq.map T.encN ([], []) (Prod.snd (List.getD (Prod.snd m) (Int.toNat i) ((0 : Int), [])))) Tip.none]]
         fun (r : AV) (H' : List AObj) =>
         ∃ (x : Bool),
         r = AV.bool x ∧
         H' =
         [AObj.cells [AV.str { data := List.toArray (Prod.fst m) }, AV.sl 2 (Seq.map T.encR ((0 : Int), []) (Prod.snd m)) Tip.none],
         AObj.cells
         [AV.int IntKind.i64 (Prod.fst (List.getD (Prod.snd m) (Int.toNat i) ((0 : Int), []))),
         AV.sl 2 (Seq.map T.encN ([], []) (Prod.snd (List.getD (Prod.snd m) (Int.toNat i) ((0 : Int), [])))) Tip.none]] ∧
         condP (!x)
         (Post (AV.bool false)
         [AObj.cells [AV.str { data := List.toArray (Prod.fst m) }, AV.sl 2 (Seq.map T.encR ((0 : Int), []) (Prod.snd m)) Tip.none],
         AObj.cells
         [AV.int IntKind.i64 (Prod.fst (List.getD (Prod.snd m) (Int.toNat i) ((0 : Int), []))),
         AV.sl 2 (Seq.map T.encN ([], []) (Prod.snd (List.getD (Prod.snd m) (Int.toNat i) ((0 : Int), [])))) Tip.none]])
         (condP (decide (i > (0 : Int)))
         (needP ((0 : Int) ≤ IntKind.wrap IntKind.i64 (i - (1 : Int)) ∧ IntKind.wrap IntKind.i64 (i - (1 : Int)) < (↑(List.length (Prod.snd m)) : Int))
         (condP
         (decide
         (Prod.fst (List.getD (Prod.snd m) (Int.toNat i) ((0 : Int), [])) ≤
         Prod.fst (List.getD (Prod.snd m) (Int.toNat (IntKind.wrap IntKind.i64 (i - (1 : Int)))) ((0 : Int), []))))
         (Post (AV.bool false)
         [AObj.cells [AV.str { data := List.toArray (Prod.fst m) }, AV.sl 2 (Seq.map T.encR ((0 : Int), []) (Prod.snd m)) Tip.none],
         AObj.cells
         [AV.int IntKind.i64 (Prod.fst (List.getD (Prod.snd m) (Int.toNat i) ((0 : Int), []))),
         AV.sl 2 (Seq.map T.encN ([], []) (Prod.snd (List.getD (Prod.snd m) (Int.toNat i) ((0 : Int), [])))) Tip.none]])
         (AWP Try.prog 52 n c114_2 [(1, AV.ptr 0 0), (3, AV.int IntKind.i64 (IntKind.wrap IntKind.i64 (i + (1 : Int))))]
         [AObj.cells [AV.str { data := List.toArray (Prod.fst m) }, AV.sl 2 (Seq.map T.encR ((0 : Int), []) (Prod.snd m)) Tip.none],
         AObj.cells
         [AV.int IntKind.i64 (Prod.fst (List.getD (Prod.snd m) (Int.toNat i) ((0 : Int), []))),
         AV.sl 2 (Seq.map T.encN ([], []) (Prod.snd (List.getD (Prod.snd m) (Int.toNat i) ((0 : Int), [])))) Tip.none]]
         (q114_2 n Post))))
         (AWP Try.prog 52 n c114_2 [(1, AV.ptr 0 0), (3, AV.int IntKind.i64 (IntKind.wrap IntKind.i64 (i + (1 : Int))))]
         [AObj.cells [AV.str { data := List.toArray (Prod.fst m) }, AV.sl 2 (Seq.map T.encR ((0 : Int), []) (Prod.snd m)) Tip.none],
         AObj.cells
         [AV.int IntKind.i64 (Prod.fst (List.getD (Prod.snd m) (Int.toNat i) ((0 : Int), []))),
         AV.sl 2 (Seq.map T.encN ([], []) (Prod.snd (List.getD (Prod.snd m) (Int.toNat i) ((0 : Int), [])))) Tip.none]]
         (q114_2 n Post))))))
      (ASpec Try.prog 35 [AV.str { data := List.toArray (Prod.fst m) }]
        [AObj.cells [AV.str { data := List.toArray (Prod.fst m) }, AV.sl 2 (Seq.map T.encR ((0 : Int), []) (Prod.snd m)) Tip.none]] fun (r : AV) (H' : List AObj) =>
        ∃ (x : Bool),
         r = AV.bool x ∧
         H' = [AObj.cells [AV.str { data := List.toArray (Prod.fst m) }, AV.sl 2 (Seq.map T.encR ((0 : Int), []) (Prod.snd m)) Tip.none]] ∧
         condP x
         (Post (AV.bool (decide ((↑(List.length (Prod.snd m)) : Int) ≤ (8 : Int))))
         [AObj.cells [AV.str { data := List.toArray (Prod.fst m) }, AV.sl 2 (Seq.map T.encR ((0 : Int), []) (Prod.snd m)) Tip.none]])
         (Post (AV.bool false) [AObj.cells [AV.str { data := List.toArray (Prod.fst m) }, AV.sl 2 (Seq.map T.encR ((0 : Int), []) (Prod.snd m)) Tip.none]])) →
    AWP Try.prog 52 n c114_2 [(1, AV.ptr 0 0), (3, AV.int IntKind.i64 i)] [AObj.cells (T.encM m)] (q114_2 n Post) := fun m i n Post h => Go.Ab.AWP.loop' g114 (Cfg.live g114) c114_2 (by kernel_rfl) (by kernel_rfl) (Go.Ab.kc (by kernel_rfl) h)

-- 133
noncomputable def l133 : Nat → List Nat
  | _ => []
noncomputable def u133 : Nat → Bool
  | _ => false
noncomputable def m133 : Nat → Bool
  | _ => false
noncomputable def g133 : Cfg := { N := 9, live := l133, cut := u133, mu := m133, ret := rets }
theorem s133 : ∀ (x : Int) (Post : AV → List AObj → Prop),
  condP (decide (x ≥ (0 : Int))) (Post (AV.bool (decide (x < (1000000000 : Int)))) []) (Post (AV.bool false) []) → ASpec Try.prog 133 [AV.int IntKind.i64 x] [] Post := fun x Post h => Go.Ab.ASpec.of_vc g133 Go.Proofs.Try.func133 (by kernel_rfl) (by kernel_rfl) (by kernel_rfl) (Go.Ab.kc (by kernel_rfl) h)

-- 9
noncomputable def l9 : Nat → List Nat
  | 4 => [0, 3]
  | _ => []
noncomputable def u9 : Nat → Bool
  | _ => false
noncomputable def m9 : Nat → Bool
  | _ => false
noncomputable def g9 : Cfg := { N := 29, live := l9, cut := u9, mu := m9, ret := rets }
noncomputable def c9 : Go.Code := Go.Ab.bodyOf Go.Proofs.Try.f9
noncomputable def q9_0 : Nat → (AV → List AObj → Prop) → AQ := fun (n : Nat) (Post : AV → List AObj → Prop) => endQ Try.prog (resultsOf Try.f9) Post
noncomputable def q9_1 : Nat → (AV → List AObj → Prop) → AQ := fun (n : Nat) (Post : AV → List AObj → Prop) => seqQ (fun (s' : Slots) (H' : List AObj) => awp Try.prog g9 n (codeSnd (codeSnd (codeSnd c9))) s' H' (q9_0 n Post)) (q9_0 n Post)
noncomputable def q9_2 : Nat → (AV → List AObj → Prop) → AQ := fun (n : Nat) (Post : AV → List AObj → Prop) => blockQ 0 (q9_1 n Post)
noncomputable def c9_4 : Go.Code := codeFst (codeSnd (codeFst (codeSnd (codeSnd c9))))
theorem s9 : ∀ (l : List T.Need) (Post : AV → List AObj → Prop),
  condP (decide ((↑(List.length l) : Int) > (40 : Int))) (Post (AV.bool true) [])
      (AWP Try.prog 29 0 c9_4 [(0, AV.sl 2 (Seq.map T.encN ([], []) l) Tip.none), (3, AV.int IntKind.i64 (0 : Int))] [] (q9_2 0 Post)) →
    ASpec Try.prog 9 [AV.sl 2 (Seq.map T.encN ([], []) l) Tip.none] [] Post := fun l Post h => Go.Ab.ASpec.of_vc g9 Go.Proofs.Try.func9 (by kernel_rfl) (by kernel_rfl) (by kernel_rfl) (Go.Ab.kc (by kernel_rfl) h)
theorem v9_4 : ∀ (l : List T.Need) (i : Int) (n : Nat) (Post : AV → List AObj → Prop),
  condP (decide (i < (↑(List.length l) : Int)))
      (needP ((0 : Int) ≤ i ∧ i < (↑(List.length l) : Int))
        (condP (decide ((↑(List.length (Prod.snd (List.getD l (Int.toNat i) ([], [])))) : Int) > (40 : Int))) (Post (AV.bool true) [])
         (needP ((0 : Int) ≤ i ∧ i < (↑(List.length l) : Int))
         (condP (decide ((↑(ByteArray.size { data := List.toArray (Prod.fst (List.getD l (Int.toNat i) ([], []))) }) : Int) > (100 : Int))) (Post (AV.bool true) [])
         (AWP Try.prog 29 n c9_4 [(0, AV.sl 2 (Seq.map T.encN ([], []) l) Tip.none), (3, AV.int IntKind.i64 (IntKind.wrap IntKind.i64 (i + (1 : Int))))] []
         (q9_2 n Post))))))
      (Post (AV.bool false) []) →
    AWP Try.prog 29 n c9_4 [(0, AV.sl 2 (Seq.map T.encN ([], []) l) Tip.none), (3, AV.int IntKind.i64 i)] [] (q9_2 n Post) := fun l i n Post h => Go.Ab.AWP.loop' g9 (Cfg.live g9) c9_4 (by kernel_rfl) (by kernel_rfl) (Go.Ab.kc (by kernel_rfl) h)

end
end C
end

section
/- Printed: what the code of functions 89, 91, 94, 93, 97, 96, 95, 64, 112, 75 asks for, by the framework's own reading of it; each line is checked against the code. -/

set_option linter.unusedVariables false
set_option maxRecDepth 100000
set_option maxHeartbeats 4000000
open Go Go.Ab Go.Proofs
namespace W
noncomputable section

noncomputable def updC (args : List AV) (H : List AObj) (p e : Int) : List AObj := match args with
  | .ptr c _ :: _ => match H[c]? with
    | some (.cells [.ptr id off]) => V.upd3 [.ptr id off] H p e
    | _ => H
  | _ => H
noncomputable def tl (args : List AV) : List AV := match args with
  | _ :: r => r
  | _ => []
noncomputable def HR (bs : List UInt8) (p e : Int) : List AObj := [V.rd bs p e, .cells [.ptr 0 0], .cells [.fn 89 [.ptr 1 0]], .cells [.fn 91 [.ptr 1 0]], .cells [.fn 93 [.ptr 2 0, .ptr 1 0, .ptr 3 0]]]
noncomputable def retW : List (Nat × Ret) := [
  (18039, ⟨Unit, fun _ _ _ => .bool true, fun _ H _ => H⟩),
  (64, ⟨T.Mani × Int, fun _ _ x => .tup [.agg (T.encM x.1), .int .i64 x.2], fun _ H _ => H⟩),
  (75, ⟨T.Mani × Int, fun _ _ x => .tup [.agg (T.encM x.1), .int .i64 x.2], fun _ H _ => H⟩),
  (9184, ⟨List UInt8, fun _ _ x => .sl 1 (.map encB 0 x) .none, fun _ H _ => H⟩),
  (9172, ⟨ByteArray, fun _ _ x => .str x, fun _ H _ => H⟩),
  (89, ⟨ByteArray × Int × Int, fun _ _ x => .str x.1, fun a H x => updC a H x.2.1 x.2.2⟩),
  (91, ⟨T.Span × Int × Int, fun _ _ x => .agg (T.encS x.1), fun a H x => updC a H x.2.1 x.2.2⟩),
  (93, ⟨T.Need × Int × Int, fun _ _ x => .agg (T.encN x.1), fun a H x => updC (tl a) H x.2.1 x.2.2⟩),
  (96, ⟨T.Rel × Int × Int, fun _ _ x => .agg (T.encR x.1), fun a H x => updC a H x.2.1 x.2.2⟩),
  (94, ⟨List T.Span × Int × Int, fun _ _ x => .sl 2 (.map T.encS (0, 0) x.1) .none, fun a H x => V.upd3 a H x.2.1 x.2.2⟩),
  (97, ⟨List T.Need × Int × Int, fun _ _ x => .sl 2 (.map T.encN ([], []) x.1) .none, fun a H x => V.upd3 a H x.2.1 x.2.2⟩),
  (95, ⟨List T.Rel × Int × Int, fun _ _ x => .sl 2 (.map T.encR (0, []) x.1) .none, fun a H x => V.upd3 a H x.2.1 x.2.2⟩),
  (112, ⟨List T.Need × ByteArray × Int, fun _ _ x => .sl 2 (.map T.encN ([], []) x.1) .none, fun a H x => V.upd2 a H x.2.1 x.2.2⟩),
  (9264, ⟨ByteArray, fun _ _ x => .str x, fun _ H _ => H⟩)]
noncomputable def rets : FuncId → List Ret := lookupR (retW ++ C.retC ++ V.retL)

-- 89
noncomputable def l89 : Nat → List Nat
  | _ => []
noncomputable def u89 : Nat → Bool
  | _ => false
noncomputable def m89 : Nat → Bool
  | _ => false
noncomputable def g89 : Cfg := { N := 4, live := l89, cut := u89, mu := m89, ret := rets }
theorem s89 : ∀ (bs : List UInt8) (p e : Int) (Post : AV → List AObj → Prop),
  (ASpec Try.prog 90 [AV.ptr 0 0, AV.int IntKind.i64 (24 : Int)]
      [AObj.cells [AV.sl 1 (Seq.map encB (0 : UInt8) bs) Tip.none, AV.int IntKind.i64 p, AV.int IntKind.i64 e], AObj.cells [AV.ptr 0 0],
        AObj.cells [AV.fn (89 : FuncId) [AV.ptr 1 0]], AObj.cells [AV.fn (91 : FuncId) [AV.ptr 1 0]],
        AObj.cells [AV.fn (93 : FuncId) [AV.ptr 2 0, AV.ptr 1 0, AV.ptr 3 0]]]
      fun (r : AV) (H' : List AObj) =>
      ∃ (x : ByteArray × Int × Int),
        r = AV.str (Prod.fst x) ∧
         H' =
         [AObj.cells [AV.sl 1 (Seq.map encB (0 : UInt8) bs) Tip.none, AV.int IntKind.i64 (Prod.fst (Prod.snd x)), AV.int IntKind.i64 (Prod.snd (Prod.snd x))],
         AObj.cells [AV.ptr 0 0], AObj.cells [AV.fn (89 : FuncId) [AV.ptr 1 0]], AObj.cells [AV.fn (91 : FuncId) [AV.ptr 1 0]],
         AObj.cells [AV.fn (93 : FuncId) [AV.ptr 2 0, AV.ptr 1 0, AV.ptr 3 0]]] ∧
         Post (AV.str (Prod.fst x))
         [AObj.cells [AV.sl 1 (Seq.map encB (0 : UInt8) bs) Tip.none, AV.int IntKind.i64 (Prod.fst (Prod.snd x)), AV.int IntKind.i64 (Prod.snd (Prod.snd x))],
         AObj.cells [AV.ptr 0 0], AObj.cells [AV.fn (89 : FuncId) [AV.ptr 1 0]], AObj.cells [AV.fn (91 : FuncId) [AV.ptr 1 0]],
         AObj.cells [AV.fn (93 : FuncId) [AV.ptr 2 0, AV.ptr 1 0, AV.ptr 3 0]]]) →
    ASpec Try.prog 89 [AV.ptr 1 0] (HR bs p e) Post := fun bs p e Post h => Go.Ab.ASpec.of_vc g89 Go.Proofs.Try.func89 (by kernel_rfl) (by kernel_rfl) (by kernel_rfl) (Go.Ab.kc (by kernel_rfl) h)

-- 91
noncomputable def l91 : Nat → List Nat
  | _ => []
noncomputable def u91 : Nat → Bool
  | _ => false
noncomputable def m91 : Nat → Bool
  | _ => false
noncomputable def g91 : Cfg := { N := 11, live := l91, cut := u91, mu := m91, ret := rets }
theorem s91 : ∀ (bs : List UInt8) (p e : Int) (Post : AV → List AObj → Prop),
  (ASpec Try.prog 92 [AV.ptr 0 0, AV.int IntKind.i64 (1000000000 : Int)]
      [AObj.cells [AV.sl 1 (Seq.map encB (0 : UInt8) bs) Tip.none, AV.int IntKind.i64 p, AV.int IntKind.i64 e], AObj.cells [AV.ptr 0 0],
        AObj.cells [AV.fn (89 : FuncId) [AV.ptr 1 0]], AObj.cells [AV.fn (91 : FuncId) [AV.ptr 1 0]],
        AObj.cells [AV.fn (93 : FuncId) [AV.ptr 2 0, AV.ptr 1 0, AV.ptr 3 0]], AObj.cells [AV.int IntKind.i64 (0 : Int), AV.int IntKind.i64 (0 : Int)]]
      fun (r : AV) (H' : List AObj) =>
      ∃ (x : Int × Int × Int),
        r = AV.int IntKind.i64 (Prod.fst x) ∧
         H' =
         [AObj.cells [AV.sl 1 (Seq.map encB (0 : UInt8) bs) Tip.none, AV.int IntKind.i64 (Prod.fst (Prod.snd x)), AV.int IntKind.i64 (Prod.snd (Prod.snd x))],
         AObj.cells [AV.ptr 0 0], AObj.cells [AV.fn (89 : FuncId) [AV.ptr 1 0]], AObj.cells [AV.fn (91 : FuncId) [AV.ptr 1 0]],
         AObj.cells [AV.fn (93 : FuncId) [AV.ptr 2 0, AV.ptr 1 0, AV.ptr 3 0]],
         AObj.cells [AV.int IntKind.i64 (0 : Int), AV.int IntKind.i64 (0 : Int)]] ∧
         ASpec Try.prog 92 [AV.ptr 0 0, AV.int IntKind.i64 (1000000000 : Int)]
         [AObj.cells [AV.sl 1 (Seq.map encB (0 : UInt8) bs) Tip.none, AV.int IntKind.i64 (Prod.fst (Prod.snd x)), AV.int IntKind.i64 (Prod.snd (Prod.snd x))],
         AObj.cells [AV.ptr 0 0], AObj.cells [AV.fn (89 : FuncId) [AV.ptr 1 0]], AObj.cells [AV.fn (91 : FuncId) [AV.ptr 1 0]],
         AObj.cells [AV.fn (93 : FuncId) [AV.ptr 2 0, AV.ptr 1 0, AV.ptr 3 0]],
         AObj.cells [AV.int IntKind.i64 (0 : Int), AV.int IntKind.i64 (0 : Int)]]
         fun (r : AV) (H' : List AObj) =>
         ∃ (x_1 : Int × Int × Int),
         r = AV.int IntKind.i64 (Prod.fst x_1) ∧
         H' =
         [AObj.cells [AV.sl 1 (Seq.map encB (0 : UInt8) bs) Tip.none, AV.int IntKind.i64 (Prod.fst (Prod.snd x_1)), AV.int IntKind.i64 (Prod.snd (Prod.snd x_1))],
         AObj.cells [AV.ptr 0 0], AObj.cells [AV.fn (89 : FuncId) [AV.ptr 1 0]], AObj.cells [AV.fn (91 : FuncId) [AV.ptr 1 0]],
         AObj.cells [AV.fn (93 : FuncId) [AV.ptr 2 0, AV.ptr 1 0, AV.ptr 3 0]],
         AObj.cells [AV.int IntKind.i64 (0 : Int), AV.int IntKind.i64 (0 : Int)]] ∧
         Post (AV.agg [AV.int IntKind.i64 (Prod.fst x), AV.int IntKind.i64 (IntKind.wrap IntKind.i64 (Prod.fst x + Prod.fst x_1))])
         [AObj.cells [AV.sl 1 (Seq.map encB (0 : UInt8) bs) Tip.none, AV.int IntKind.i64 (Prod.fst (Prod.snd x_1)), AV.int IntKind.i64 (Prod.snd (Prod.snd x_1))],
         AObj.cells [AV.ptr 0 0], AObj.cells [AV.fn (89 : FuncId) [AV.ptr 1 0]], AObj.cells [AV.fn (91 : FuncId) [AV.ptr 1 0]],
         AObj.cells [AV.fn (93 : FuncId) [AV.ptr 2 0, AV.ptr 1 0, AV.ptr 3 0]],
         AObj.cells [AV.int IntKind.i64 (Prod.fst x), AV.int IntKind.i64 (IntKind.wrap IntKind.i64 (Prod.fst x + Prod.fst x_1))]]) →
    ASpec Try.prog 91 [AV.ptr 1 0] (HR bs p e) Post := fun bs p e Post h => Go.Ab.ASpec.of_vc g91 Go.Proofs.Try.func91 (by kernel_rfl) (by kernel_rfl) (by kernel_rfl) (Go.Ab.kc (by kernel_rfl) h)

-- 94
noncomputable def l94 : Nat → List Nat
  | 3 => [0, 2, 7, 8]
  | _ => []
noncomputable def u94 : Nat → Bool
  | _ => false
noncomputable def m94 : Nat → Bool
  | _ => false
noncomputable def g94 : Cfg := { N := 27, live := l94, cut := u94, mu := m94, ret := rets }
noncomputable def c94 : Go.Code := Go.Ab.bodyOf Go.Proofs.Try.f94
noncomputable def q94_0 : Nat → (AV → List AObj → Prop) → AQ := fun (n : Nat) (Post : AV → List AObj → Prop) => endQ Try.prog (resultsOf Try.f94) Post
noncomputable def q94_1 : Nat → (AV → List AObj → Prop) → AQ := fun (n : Nat) (Post : AV → List AObj → Prop) => seqQ (fun (s' : Slots) (H' : List AObj) => awp Try.prog g94 n (codeSnd (codeSnd (codeSnd c94))) s' H' (q94_0 n Post)) (q94_0 n Post)
noncomputable def q94_2 : Nat → (AV → List AObj → Prop) → AQ := fun (n : Nat) (Post : AV → List AObj → Prop) => blockQ 0 (q94_1 n Post)
noncomputable def c94_3 : Go.Code := codeFst (codeSnd (codeFst (codeSnd (codeSnd c94))))
theorem s94 : ∀ (bs : List UInt8) (p e most : Int) (Post : AV → List AObj → Prop),
  (ASpec Try.prog 92 [AV.ptr 0 0, AV.int IntKind.i64 most]
      [AObj.cells [AV.sl 1 (Seq.map encB (0 : UInt8) bs) Tip.none, AV.int IntKind.i64 p, AV.int IntKind.i64 e], AObj.cells [AV.ptr 0 0],
        AObj.cells [AV.fn (89 : FuncId) [AV.ptr 1 0]], AObj.cells [AV.fn (91 : FuncId) [AV.ptr 1 0]],
        AObj.cells [AV.fn (93 : FuncId) [AV.ptr 2 0, AV.ptr 1 0, AV.ptr 3 0]]]
      fun (r : AV) (H' : List AObj) =>
      ∃ (x : Int × Int × Int),
        r = AV.int IntKind.i64 (Prod.fst x) ∧
         H' =
         [AObj.cells [AV.sl 1 (Seq.map encB (0 : UInt8) bs) Tip.none, AV.int IntKind.i64 (Prod.fst (Prod.snd x)), AV.int IntKind.i64 (Prod.snd (Prod.snd x))],
         AObj.cells [AV.ptr 0 0], AObj.cells [AV.fn (89 : FuncId) [AV.ptr 1 0]], AObj.cells [AV.fn (91 : FuncId) [AV.ptr 1 0]],
         AObj.cells [AV.fn (93 : FuncId) [AV.ptr 2 0, AV.ptr 1 0, AV.ptr 3 0]]] ∧
         AWP Try.prog 27 5 c94_3
         [(0, AV.ptr 0 0), (2, AV.fn (91 : FuncId) [AV.ptr 1 0]), (7, AV.sl 0 (Seq.raw []) Tip.nil),
         (8, AV.int IntKind.i64 (Prod.fst x))]
         [AObj.cells [AV.sl 1 (Seq.map encB (0 : UInt8) bs) Tip.none, AV.int IntKind.i64 (Prod.fst (Prod.snd x)), AV.int IntKind.i64 (Prod.snd (Prod.snd x))],
         AObj.cells [AV.ptr 0 0], AObj.cells [AV.fn (89 : FuncId) [AV.ptr 1 0]], AObj.cells [AV.fn (91 : FuncId) [AV.ptr 1 0]],
         AObj.cells [AV.fn (93 : FuncId) [AV.ptr 2 0, AV.ptr 1 0, AV.ptr 3 0]]]
         (q94_2 5 Post)) →
    ASpec Try.prog 94 [AV.ptr 0 0, AV.int IntKind.i64 most, AV.fn (91 : FuncId) [AV.ptr 1 0]] (HR bs p e) Post := fun bs p e most Post h => Go.Ab.ASpec.of_vc g94 Go.Proofs.Try.func94 (by kernel_rfl) (by kernel_rfl) (by kernel_rfl) (Go.Ab.kc (by kernel_rfl) h)
theorem v94_3 : ∀ (bs : List UInt8) (p e : Int) (acc : List T.Span) (n : Int) (n_1 : Nat) (Post : AV → List AObj → Prop),
  condP (decide (n > (0 : Int)))
      (ASpec Try.prog 123 [AV.ptr 0 0]
        [AObj.cells [AV.sl 1 (Seq.map encB (0 : UInt8) bs) Tip.none, AV.int IntKind.i64 p, AV.int IntKind.i64 e], AObj.cells [AV.ptr 0 0],
         AObj.cells [AV.fn (89 : FuncId) [AV.ptr 1 0]], AObj.cells [AV.fn (91 : FuncId) [AV.ptr 1 0]],
         AObj.cells [AV.fn (93 : FuncId) [AV.ptr 2 0, AV.ptr 1 0, AV.ptr 3 0]], AObj.tok]
        fun (r : AV) (H' : List AObj) =>
        ∃ (x : Int),
         r = AV.int IntKind.i64 x ∧
         H' =
         [AObj.cells [AV.sl 1 (Seq.map encB (0 : UInt8) bs) Tip.none, AV.int IntKind.i64 p, AV.int IntKind.i64 e], AObj.cells [AV.ptr 0 0],
         AObj.cells [AV.fn (89 : FuncId) [AV.ptr 1 0]], AObj.cells [AV.fn (91 : FuncId) [AV.ptr 1 0]],
         AObj.cells [AV.fn (93 : FuncId) [AV.ptr 2 0, AV.ptr 1 0, AV.ptr 3 0]], AObj.tok] ∧
         condP (x == (0 : Int))
         (ASpec Try.prog 91 [AV.ptr 1 0]
         [AObj.cells [AV.sl 1 (Seq.map encB (0 : UInt8) bs) Tip.none, AV.int IntKind.i64 p, AV.int IntKind.i64 e], AObj.cells [AV.ptr 0 0],
         AObj.cells [AV.fn (89 : FuncId) [AV.ptr 1 0]], AObj.cells [AV.fn (91 : FuncId) [AV.ptr 1 0]],
         AObj.cells [AV.fn (93 : FuncId) [AV.ptr 2 0, AV.ptr 1 0, AV.ptr 3 0]], AObj.tok]
         fun (r : AV) (H' : List AObj) =>
         ∃ (x : T.Span × Int × Int),
         r = AV.agg [AV.int IntKind.i64 (Prod.fst (Prod.fst x)), AV.int IntKind.i64 (Prod.snd (Prod.fst x))] ∧
         H' =
         [AObj.cells [AV.sl 1 (Seq.map encB (0 : UInt8) bs) Tip.none, AV.int IntKind.i64 (Prod.fst (Prod.snd x)), AV.int IntKind.i64 (Prod.snd (Prod.snd x))],
         AObj.cells [AV.ptr 0 0], AObj.cells [AV.fn (89 : FuncId) [AV.ptr 1 0]], AObj.cells [AV.fn (91 : FuncId) [AV.ptr 1 0]],
         AObj.cells [AV.fn (93 : FuncId) [AV.ptr 2 0, AV.ptr 1 0, AV.ptr 3 0]], AObj.tok] ∧
         needP ((List.length acc + 1) * 16 ≤ 140737488351232)
         (AWP Try.prog 27 n_1 c94_3
         [(0, AV.ptr 0 0), (2, AV.fn (91 : FuncId) [AV.ptr 1 0]),
         (7,
         AV.sl 2
         (Seq.app (Seq.map T.encS ((0 : Int), (0 : Int)) acc) (Seq.raw [[AV.int IntKind.i64 (Prod.fst (Prod.fst x)), AV.int IntKind.i64 (Prod.snd (Prod.fst x))]]))
         (Tip.tok 6)),
         (8, AV.int IntKind.i64 (IntKind.wrap IntKind.i64 (n - (1 : Int))))]
         [AObj.cells [AV.sl 1 (Seq.map encB (0 : UInt8) bs) Tip.none, AV.int IntKind.i64 (Prod.fst (Prod.snd x)), AV.int IntKind.i64 (Prod.snd (Prod.snd x))],
         AObj.cells [AV.ptr 0 0], AObj.cells [AV.fn (89 : FuncId) [AV.ptr 1 0]], AObj.cells [AV.fn (91 : FuncId) [AV.ptr 1 0]],
         AObj.cells [AV.fn (93 : FuncId) [AV.ptr 2 0, AV.ptr 1 0, AV.ptr 3 0]], AObj.gone, AObj.tok]
         (q94_2 n_1 Post)))
         (Post (AV.sl 2 (Seq.map T.encS ((0 : Int), (0 : Int)) acc) (Tip.tok 5))
         [AObj.cells [AV.sl 1 (Seq.map encB (0 : UInt8) bs) Tip.none, AV.int IntKind.i64 p, AV.int IntKind.i64 e], AObj.cells [AV.ptr 0 0],
         AObj.cells [AV.fn (89 : FuncId) [AV.ptr 1 0]], AObj.cells [AV.fn (91 : FuncId) [AV.ptr 1 0]],
         AObj.cells [AV.fn (93 : FuncId) [AV.ptr 2 0, AV.ptr 1 0, AV.ptr 3 0]], AObj.tok]))
      (Post (AV.sl 2 (Seq.map T.encS ((0 : Int), (0 : Int)) acc) (Tip.tok 5))
        [AObj.cells [AV.sl 1 (Seq.map encB (0 : UInt8) bs) Tip.none, AV.int IntKind.i64 p, AV.int IntKind.i64 e], AObj.cells [AV.ptr 0 0],
         AObj.cells [AV.fn (89 : FuncId) [AV.ptr 1 0]], AObj.cells [AV.fn (91 : FuncId) [AV.ptr 1 0]],
         AObj.cells [AV.fn (93 : FuncId) [AV.ptr 2 0, AV.ptr 1 0, AV.ptr 3 0]], AObj.tok]) →
    AWP Try.prog 27 n_1 c94_3
      [(0, AV.ptr 0 0), (2, AV.fn (91 : FuncId) [AV.ptr 1 0]),
        (7, AV.sl 2 (Seq.map T.encS ((0 : Int), (0 : Int)) acc) (Tip.tok 5)), (8, AV.int IntKind.i64 n)]
      (HR bs p e ++ [AObj.tok]) (q94_2 n_1 Post) := fun bs p e acc n n Post h => Go.Ab.AWP.loop' g94 (Cfg.live g94) c94_3 (by kernel_rfl) (by kernel_rfl) (Go.Ab.kc (by kernel_rfl) h)

-- 93
noncomputable def l93 : Nat → List Nat
  | _ => []
noncomputable def u93 : Nat → Bool
  | _ => false
noncomputable def m93 : Nat → Bool
  | _ => false
noncomputable def g93 : Cfg := { N := 13, live := l93, cut := u93, mu := m93, ret := rets }
theorem s93 : ∀ (bs : List UInt8) (p e : Int) (Post : AV → List AObj → Prop),
  (ASpec Try.prog 89 [AV.ptr 1 0]
      [AObj.cells [AV.sl 1 (Seq.map encB (0 : UInt8) bs) Tip.none, AV.int IntKind.i64 p, AV.int IntKind.i64 e], AObj.cells [AV.ptr 0 0],
        AObj.cells [AV.fn (89 : FuncId) [AV.ptr 1 0]], AObj.cells [AV.fn (91 : FuncId) [AV.ptr 1 0]],
        AObj.cells [AV.fn (93 : FuncId) [AV.ptr 2 0, AV.ptr 1 0, AV.ptr 3 0]],
        AObj.cells [AV.str { data := #[] }, AV.sl 0 (Seq.raw []) Tip.nil]]
      fun (r : AV) (H' : List AObj) =>
      ∃ (x : ByteArray × Int × Int),
        r = AV.str (Prod.fst x) ∧
         H' =
         [AObj.cells [AV.sl 1 (Seq.map encB (0 : UInt8) bs) Tip.none, AV.int IntKind.i64 (Prod.fst (Prod.snd x)), AV.int IntKind.i64 (Prod.snd (Prod.snd x))],
         AObj.cells [AV.ptr 0 0], AObj.cells [AV.fn (89 : FuncId) [AV.ptr 1 0]], AObj.cells [AV.fn (91 : FuncId) [AV.ptr 1 0]],
         AObj.cells [AV.fn (93 : FuncId) [AV.ptr 2 0, AV.ptr 1 0, AV.ptr 3 0]],
         AObj.cells [AV.str { data := #[] }, AV.sl 0 (Seq.raw []) Tip.nil]] ∧
         ASpec Try.prog 94 [AV.ptr 0 0, AV.int IntKind.i64 (6 : Int), AV.fn (91 : FuncId) [AV.ptr 1 0]]
         [AObj.cells [AV.sl 1 (Seq.map encB (0 : UInt8) bs) Tip.none, AV.int IntKind.i64 (Prod.fst (Prod.snd x)), AV.int IntKind.i64 (Prod.snd (Prod.snd x))],
         AObj.cells [AV.ptr 0 0], AObj.cells [AV.fn (89 : FuncId) [AV.ptr 1 0]], AObj.cells [AV.fn (91 : FuncId) [AV.ptr 1 0]],
         AObj.cells [AV.fn (93 : FuncId) [AV.ptr 2 0, AV.ptr 1 0, AV.ptr 3 0]],
         AObj.cells [AV.str { data := #[] }, AV.sl 0 (Seq.raw []) Tip.nil], AObj.cells [AV.str (Prod.fst x), AV.sl 0 (Seq.raw []) Tip.nil]]
         fun (r : AV) (H' : List AObj) =>
         ∃ (x_1 : List T.Span × Int × Int),
         r = AV.sl 2 (Seq.map T.encS ((0 : Int), (0 : Int)) (Prod.fst x_1)) Tip.none ∧
         H' =
         [AObj.cells [AV.sl 1 (Seq.map encB (0 : UInt8) bs) Tip.none, AV.int IntKind.i64 (Prod.fst (Prod.snd x_1)), AV.int IntKind.i64 (Prod.snd (Prod.snd x_1))],
         AObj.cells [AV.ptr 0 0], AObj.cells [AV.fn (89 : FuncId) [AV.ptr 1 0]], AObj.cells [AV.fn (91 : FuncId) [AV.ptr 1 0]],
         AObj.cells [AV.fn (93 : FuncId) [AV.ptr 2 0, AV.ptr 1 0, AV.ptr 3 0]],
         AObj.cells [AV.str { data := #[] }, AV.sl 0 (Seq.raw []) Tip.nil], AObj.cells [AV.str (Prod.fst x), AV.sl 0 (Seq.raw []) Tip.nil]] ∧
         Post (AV.agg [AV.str (Prod.fst x), AV.sl 2 (Seq.map T.encS ((0 : Int), (0 : Int)) (Prod.fst x_1)) Tip.none])
         [AObj.cells [AV.sl 1 (Seq.map encB (0 : UInt8) bs) Tip.none, AV.int IntKind.i64 (Prod.fst (Prod.snd x_1)), AV.int IntKind.i64 (Prod.snd (Prod.snd x_1))],
         AObj.cells [AV.ptr 0 0], AObj.cells [AV.fn (89 : FuncId) [AV.ptr 1 0]], AObj.cells [AV.fn (91 : FuncId) [AV.ptr 1 0]],
         AObj.cells [AV.fn (93 : FuncId) [AV.ptr 2 0, AV.ptr 1 0, AV.ptr 3 0]],
         AObj.cells [AV.str (Prod.fst x), AV.sl 2 (Seq.map T.encS ((0 : Int), (0 : Int)) (Prod.fst x_1)) Tip.none],
         AObj.cells [AV.str (Prod.fst x), AV.sl 2 (Seq.map T.encS ((0 : Int), (0 : Int)) (Prod.fst x_1)) Tip.none]]) →
    ASpec Try.prog 93 [AV.ptr 2 0, AV.ptr 1 0, AV.ptr 3 0] (HR bs p e) Post := fun bs p e Post h => Go.Ab.ASpec.of_vc g93 Go.Proofs.Try.func93 (by kernel_rfl) (by kernel_rfl) (by kernel_rfl) (Go.Ab.kc (by kernel_rfl) h)

-- 97
noncomputable def l97 : Nat → List Nat
  | 3 => [0, 2, 7, 8]
  | _ => []
noncomputable def u97 : Nat → Bool
  | _ => false
noncomputable def m97 : Nat → Bool
  | _ => false
noncomputable def g97 : Cfg := { N := 27, live := l97, cut := u97, mu := m97, ret := rets }
noncomputable def c97 : Go.Code := Go.Ab.bodyOf Go.Proofs.Try.f97
noncomputable def q97_0 : Nat → (AV → List AObj → Prop) → AQ := fun (n : Nat) (Post : AV → List AObj → Prop) => endQ Try.prog (resultsOf Try.f97) Post
noncomputable def q97_1 : Nat → (AV → List AObj → Prop) → AQ := fun (n : Nat) (Post : AV → List AObj → Prop) => seqQ (fun (s' : Slots) (H' : List AObj) => awp Try.prog g97 n (codeSnd (codeSnd (codeSnd c97))) s' H' (q97_0 n Post)) (q97_0 n Post)
noncomputable def q97_2 : Nat → (AV → List AObj → Prop) → AQ := fun (n : Nat) (Post : AV → List AObj → Prop) => blockQ 0 (q97_1 n Post)
noncomputable def c97_3 : Go.Code := codeFst (codeSnd (codeFst (codeSnd (codeSnd c97))))
theorem s97 : ∀ (bs : List UInt8) (p e most : Int) (Post : AV → List AObj → Prop),
  (ASpec Try.prog 92 [AV.ptr 0 0, AV.int IntKind.i64 most]
      [AObj.cells [AV.sl 1 (Seq.map encB (0 : UInt8) bs) Tip.none, AV.int IntKind.i64 p, AV.int IntKind.i64 e], AObj.cells [AV.ptr 0 0],
        AObj.cells [AV.fn (89 : FuncId) [AV.ptr 1 0]], AObj.cells [AV.fn (91 : FuncId) [AV.ptr 1 0]],
        AObj.cells [AV.fn (93 : FuncId) [AV.ptr 2 0, AV.ptr 1 0, AV.ptr 3 0]]]
      fun (r : AV) (H' : List AObj) =>
      ∃ (x : Int × Int × Int),
        r = AV.int IntKind.i64 (Prod.fst x) ∧
         H' =
         [AObj.cells [AV.sl 1 (Seq.map encB (0 : UInt8) bs) Tip.none, AV.int IntKind.i64 (Prod.fst (Prod.snd x)), AV.int IntKind.i64 (Prod.snd (Prod.snd x))],
         AObj.cells [AV.ptr 0 0], AObj.cells [AV.fn (89 : FuncId) [AV.ptr 1 0]], AObj.cells [AV.fn (91 : FuncId) [AV.ptr 1 0]],
         AObj.cells [AV.fn (93 : FuncId) [AV.ptr 2 0, AV.ptr 1 0, AV.ptr 3 0]]] ∧
         AWP Try.prog 27 5 c97_3
         [(0, AV.ptr 0 0), (2, AV.fn (93 : FuncId) [AV.ptr 2 0, AV.ptr 1 0, AV.ptr 3 0]),
         (7, AV.sl 0 (Seq.raw []) Tip.nil), (8, AV.int IntKind.i64 (Prod.fst x))]
         [AObj.cells [AV.sl 1 (Seq.map encB (0 : UInt8) bs) Tip.none, AV.int IntKind.i64 (Prod.fst (Prod.snd x)), AV.int IntKind.i64 (Prod.snd (Prod.snd x))],
         AObj.cells [AV.ptr 0 0], AObj.cells [AV.fn (89 : FuncId) [AV.ptr 1 0]], AObj.cells [AV.fn (91 : FuncId) [AV.ptr 1 0]],
         AObj.cells [AV.fn (93 : FuncId) [AV.ptr 2 0, AV.ptr 1 0, AV.ptr 3 0]]]
         (q97_2 5 Post)) →
    ASpec Try.prog 97 [AV.ptr 0 0, AV.int IntKind.i64 most, AV.fn (93 : FuncId) [AV.ptr 2 0, AV.ptr 1 0, AV.ptr 3 0]]
      (HR bs p e) Post := fun bs p e most Post h => Go.Ab.ASpec.of_vc g97 Go.Proofs.Try.func97 (by kernel_rfl) (by kernel_rfl) (by kernel_rfl) (Go.Ab.kc (by kernel_rfl) h)
theorem v97_3 : ∀ (bs : List UInt8) (p e : Int) (acc : List T.Need) (n : Int) (n_1 : Nat) (Post : AV → List AObj → Prop),
  condP (decide (n > (0 : Int)))
      (ASpec Try.prog 123 [AV.ptr 0 0]
        [AObj.cells [AV.sl 1 (Seq.map encB (0 : UInt8) bs) Tip.none, AV.int IntKind.i64 p, AV.int IntKind.i64 e], AObj.cells [AV.ptr 0 0],
         AObj.cells [AV.fn (89 : FuncId) [AV.ptr 1 0]], AObj.cells [AV.fn (91 : FuncId) [AV.ptr 1 0]],
         AObj.cells [AV.fn (93 : FuncId) [AV.ptr 2 0, AV.ptr 1 0, AV.ptr 3 0]], AObj.tok]
        fun (r : AV) (H' : List AObj) =>
        ∃ (x : Int),
         r = AV.int IntKind.i64 x ∧
         H' =
         [AObj.cells [AV.sl 1 (Seq.map encB (0 : UInt8) bs) Tip.none, AV.int IntKind.i64 p, AV.int IntKind.i64 e], AObj.cells [AV.ptr 0 0],
         AObj.cells [AV.fn (89 : FuncId) [AV.ptr 1 0]], AObj.cells [AV.fn (91 : FuncId) [AV.ptr 1 0]],
         AObj.cells [AV.fn (93 : FuncId) [AV.ptr 2 0, AV.ptr 1 0, AV.ptr 3 0]], AObj.tok] ∧
         condP (x == (0 : Int))
         (ASpec Try.prog 93 [AV.ptr 2 0, AV.ptr 1 0, AV.ptr 3 0]
         [AObj.cells [AV.sl 1 (Seq.map encB (0 : UInt8) bs) Tip.none, AV.int IntKind.i64 p, AV.int IntKind.i64 e], AObj.cells [AV.ptr 0 0],
         AObj.cells [AV.fn (89 : FuncId) [AV.ptr 1 0]], AObj.cells [AV.fn (91 : FuncId) [AV.ptr 1 0]],
         AObj.cells [AV.fn (93 : FuncId) [AV.ptr 2 0, AV.ptr 1 0, AV.ptr 3 0]], AObj.tok]
         fun (r : AV) (H' : List AObj) =>
         ∃ (x : T.Need × Int × Int),
         r = AV.agg [AV.str { data := List.toArray (Prod.fst (Prod.fst x)) }, AV.sl 2 (Seq.map T.encS ((0 : Int), (0 : Int)) (Prod.snd (Prod.fst x))) Tip.none] ∧
         H' =
         [AObj.cells [AV.sl 1 (Seq.map encB (0 : UInt8) bs) Tip.none, AV.int IntKind.i64 (Prod.fst (Prod.snd x)), AV.int IntKind.i64 (Prod.snd (Prod.snd x))],
         AObj.cells [AV.ptr 0 0], AObj.cells [AV.fn (89 : FuncId) [AV.ptr 1 0]], AObj.cells [AV.fn (91 : FuncId) [AV.ptr 1 0]],
         AObj.cells [AV.fn (93 : FuncId) [AV.ptr 2 0, AV.ptr 1 0, AV.ptr 3 0]], AObj.tok] ∧
         needP ((List.length acc + 1) * 40 ≤ 140737488351232)
         (AWP Try.prog 27 n_1 c97_3
         [(0, AV.ptr 0 0), (2, AV.fn (93 : FuncId) [AV.ptr 2 0, AV.ptr 1 0, AV.ptr 3 0]),
         (7,
         AV.sl 2
         (Seq.app (Seq.map T.encN ([], []) acc)
         (Seq.raw [[AV.str { data := List.toArray (Prod.fst (Prod.fst x)) }, AV.sl 2 (Seq.map T.encS ((0 : Int), (0 : Int)) (Prod.snd (Prod.fst x))) Tip.none]]))
         (Tip.tok 6)),
         (8, AV.int IntKind.i64 (IntKind.wrap IntKind.i64 (n - (1 : Int))))]
         [AObj.cells [AV.sl 1 (Seq.map encB (0 : UInt8) bs) Tip.none, AV.int IntKind.i64 (Prod.fst (Prod.snd x)), AV.int IntKind.i64 (Prod.snd (Prod.snd x))],
         AObj.cells [AV.ptr 0 0], AObj.cells [AV.fn (89 : FuncId) [AV.ptr 1 0]], AObj.cells [AV.fn (91 : FuncId) [AV.ptr 1 0]],
         AObj.cells [AV.fn (93 : FuncId) [AV.ptr 2 0, AV.ptr 1 0, AV.ptr 3 0]], AObj.gone, AObj.tok]
         (q97_2 n_1 Post)))
         (Post (AV.sl 2 (Seq.map T.encN ([], []) acc) (Tip.tok 5))
         [AObj.cells [AV.sl 1 (Seq.map encB (0 : UInt8) bs) Tip.none, AV.int IntKind.i64 p, AV.int IntKind.i64 e], AObj.cells [AV.ptr 0 0],
         AObj.cells [AV.fn (89 : FuncId) [AV.ptr 1 0]], AObj.cells [AV.fn (91 : FuncId) [AV.ptr 1 0]],
         AObj.cells [AV.fn (93 : FuncId) [AV.ptr 2 0, AV.ptr 1 0, AV.ptr 3 0]], AObj.tok]))
      (Post (AV.sl 2 (Seq.map T.encN ([], []) acc) (Tip.tok 5))
        [AObj.cells [AV.sl 1 (Seq.map encB (0 : UInt8) bs) Tip.none, AV.int IntKind.i64 p, AV.int IntKind.i64 e], AObj.cells [AV.ptr 0 0],
         AObj.cells [AV.fn (89 : FuncId) [AV.ptr 1 0]], AObj.cells [AV.fn (91 : FuncId) [AV.ptr 1 0]],
         AObj.cells [AV.fn (93 : FuncId) [AV.ptr 2 0, AV.ptr 1 0, AV.ptr 3 0]], AObj.tok]) →
    AWP Try.prog 27 n_1 c97_3
      [(0, AV.ptr 0 0), (2, AV.fn (93 : FuncId) [AV.ptr 2 0, AV.ptr 1 0, AV.ptr 3 0]),
        (7, AV.sl 2 (Seq.map T.encN ([], []) acc) (Tip.tok 5)), (8, AV.int IntKind.i64 n)]
      (HR bs p e ++ [AObj.tok]) (q97_2 n_1 Post) := fun bs p e acc n n Post h => Go.Ab.AWP.loop' g97 (Cfg.live g97) c97_3 (by kernel_rfl) (by kernel_rfl) (Go.Ab.kc (by kernel_rfl) h)

-- 96
noncomputable def l96 : Nat → List Nat
  | _ => []
noncomputable def u96 : Nat → Bool
  | _ => false
noncomputable def m96 : Nat → Bool
  | _ => false
noncomputable def g96 : Cfg := { N := 12, live := l96, cut := u96, mu := m96, ret := rets }
theorem s96 : ∀ (bs : List UInt8) (p e : Int) (Post : AV → List AObj → Prop),
  (ASpec Try.prog 92 [AV.ptr 0 0, AV.int IntKind.i64 (1000000000 : Int)]
      [AObj.cells [AV.sl 1 (Seq.map encB (0 : UInt8) bs) Tip.none, AV.int IntKind.i64 p, AV.int IntKind.i64 e], AObj.cells [AV.ptr 0 0],
        AObj.cells [AV.fn (89 : FuncId) [AV.ptr 1 0]], AObj.cells [AV.fn (91 : FuncId) [AV.ptr 1 0]],
        AObj.cells [AV.fn (93 : FuncId) [AV.ptr 2 0, AV.ptr 1 0, AV.ptr 3 0]],
        AObj.cells [AV.int IntKind.i64 (0 : Int), AV.sl 0 (Seq.raw []) Tip.nil]]
      fun (r : AV) (H' : List AObj) =>
      ∃ (x : Int × Int × Int),
        r = AV.int IntKind.i64 (Prod.fst x) ∧
         H' =
         [AObj.cells [AV.sl 1 (Seq.map encB (0 : UInt8) bs) Tip.none, AV.int IntKind.i64 (Prod.fst (Prod.snd x)), AV.int IntKind.i64 (Prod.snd (Prod.snd x))],
         AObj.cells [AV.ptr 0 0], AObj.cells [AV.fn (89 : FuncId) [AV.ptr 1 0]], AObj.cells [AV.fn (91 : FuncId) [AV.ptr 1 0]],
         AObj.cells [AV.fn (93 : FuncId) [AV.ptr 2 0, AV.ptr 1 0, AV.ptr 3 0]],
         AObj.cells [AV.int IntKind.i64 (0 : Int), AV.sl 0 (Seq.raw []) Tip.nil]] ∧
         ASpec Try.prog 97
         [AV.ptr 0 0, AV.int IntKind.i64 (6 : Int), AV.fn (93 : FuncId) [AV.ptr 2 0, AV.ptr 1 0, AV.ptr 3 0]]
         [AObj.cells [AV.sl 1 (Seq.map encB (0 : UInt8) bs) Tip.none, AV.int IntKind.i64 (Prod.fst (Prod.snd x)), AV.int IntKind.i64 (Prod.snd (Prod.snd x))],
         AObj.cells [AV.ptr 0 0], AObj.cells [AV.fn (89 : FuncId) [AV.ptr 1 0]], AObj.cells [AV.fn (91 : FuncId) [AV.ptr 1 0]],
         AObj.cells [AV.fn (93 : FuncId) [AV.ptr 2 0, AV.ptr 1 0, AV.ptr 3 0]],
         AObj.cells [AV.int IntKind.i64 (0 : Int), AV.sl 0 (Seq.raw []) Tip.nil], AObj.cells [AV.int IntKind.i64 (Prod.fst x), AV.sl 0 (Seq.raw []) Tip.nil]]
         fun (r : AV) (H' : List AObj) =>
         ∃ (x_1 : List T.Need × Int × Int),
         r = AV.sl 2 (Seq.map T.encN ([], []) (Prod.fst x_1)) Tip.none ∧
         H' =
         [AObj.cells [AV.sl 1 (Seq.map encB (0 : UInt8) bs) Tip.none, AV.int IntKind.i64 (Prod.fst (Prod.snd x_1)), AV.int IntKind.i64 (Prod.snd (Prod.snd x_1))],
         AObj.cells [AV.ptr 0 0], AObj.cells [AV.fn (89 : FuncId) [AV.ptr 1 0]], AObj.cells [AV.fn (91 : FuncId) [AV.ptr 1 0]],
         AObj.cells [AV.fn (93 : FuncId) [AV.ptr 2 0, AV.ptr 1 0, AV.ptr 3 0]],
         AObj.cells [AV.int IntKind.i64 (0 : Int), AV.sl 0 (Seq.raw []) Tip.nil], AObj.cells [AV.int IntKind.i64 (Prod.fst x), AV.sl 0 (Seq.raw []) Tip.nil]] ∧
         Post (AV.agg [AV.int IntKind.i64 (Prod.fst x), AV.sl 2 (Seq.map T.encN ([], []) (Prod.fst x_1)) Tip.none])
         [AObj.cells [AV.sl 1 (Seq.map encB (0 : UInt8) bs) Tip.none, AV.int IntKind.i64 (Prod.fst (Prod.snd x_1)), AV.int IntKind.i64 (Prod.snd (Prod.snd x_1))],
         AObj.cells [AV.ptr 0 0], AObj.cells [AV.fn (89 : FuncId) [AV.ptr 1 0]], AObj.cells [AV.fn (91 : FuncId) [AV.ptr 1 0]],
         AObj.cells [AV.fn (93 : FuncId) [AV.ptr 2 0, AV.ptr 1 0, AV.ptr 3 0]],
         AObj.cells [AV.int IntKind.i64 (Prod.fst x), AV.sl 2 (Seq.map T.encN ([], []) (Prod.fst x_1)) Tip.none],
         AObj.cells [AV.int IntKind.i64 (Prod.fst x), AV.sl 2 (Seq.map T.encN ([], []) (Prod.fst x_1)) Tip.none]]) →
    ASpec Try.prog 96 [AV.ptr 1 0, AV.ptr 4 0] (HR bs p e) Post := fun bs p e Post h => Go.Ab.ASpec.of_vc g96 Go.Proofs.Try.func96 (by kernel_rfl) (by kernel_rfl) (by kernel_rfl) (Go.Ab.kc (by kernel_rfl) h)

-- 95
noncomputable def l95 : Nat → List Nat
  | 3 => [0, 2, 7, 8]
  | _ => []
noncomputable def u95 : Nat → Bool
  | _ => false
noncomputable def m95 : Nat → Bool
  | _ => false
noncomputable def g95 : Cfg := { N := 27, live := l95, cut := u95, mu := m95, ret := rets }
noncomputable def c95 : Go.Code := Go.Ab.bodyOf Go.Proofs.Try.f95
noncomputable def q95_0 : Nat → (AV → List AObj → Prop) → AQ := fun (n : Nat) (Post : AV → List AObj → Prop) => endQ Try.prog (resultsOf Try.f95) Post
noncomputable def q95_1 : Nat → (AV → List AObj → Prop) → AQ := fun (n : Nat) (Post : AV → List AObj → Prop) => seqQ (fun (s' : Slots) (H' : List AObj) => awp Try.prog g95 n (codeSnd (codeSnd (codeSnd c95))) s' H' (q95_0 n Post)) (q95_0 n Post)
noncomputable def q95_2 : Nat → (AV → List AObj → Prop) → AQ := fun (n : Nat) (Post : AV → List AObj → Prop) => blockQ 0 (q95_1 n Post)
noncomputable def c95_3 : Go.Code := codeFst (codeSnd (codeFst (codeSnd (codeSnd c95))))
theorem s95 : ∀ (bs : List UInt8) (p e most : Int) (Post : AV → List AObj → Prop),
  (ASpec Try.prog 92 [AV.ptr 0 0, AV.int IntKind.i64 most]
      [AObj.cells [AV.sl 1 (Seq.map encB (0 : UInt8) bs) Tip.none, AV.int IntKind.i64 p, AV.int IntKind.i64 e], AObj.cells [AV.ptr 0 0],
        AObj.cells [AV.fn (89 : FuncId) [AV.ptr 1 0]], AObj.cells [AV.fn (91 : FuncId) [AV.ptr 1 0]],
        AObj.cells [AV.fn (93 : FuncId) [AV.ptr 2 0, AV.ptr 1 0, AV.ptr 3 0]]]
      fun (r : AV) (H' : List AObj) =>
      ∃ (x : Int × Int × Int),
        r = AV.int IntKind.i64 (Prod.fst x) ∧
         H' =
         [AObj.cells [AV.sl 1 (Seq.map encB (0 : UInt8) bs) Tip.none, AV.int IntKind.i64 (Prod.fst (Prod.snd x)), AV.int IntKind.i64 (Prod.snd (Prod.snd x))],
         AObj.cells [AV.ptr 0 0], AObj.cells [AV.fn (89 : FuncId) [AV.ptr 1 0]], AObj.cells [AV.fn (91 : FuncId) [AV.ptr 1 0]],
         AObj.cells [AV.fn (93 : FuncId) [AV.ptr 2 0, AV.ptr 1 0, AV.ptr 3 0]]] ∧
         AWP Try.prog 27 5 c95_3
         [(0, AV.ptr 0 0), (2, AV.fn (96 : FuncId) [AV.ptr 1 0, AV.ptr 4 0]), (7, AV.sl 0 (Seq.raw []) Tip.nil),
         (8, AV.int IntKind.i64 (Prod.fst x))]
         [AObj.cells [AV.sl 1 (Seq.map encB (0 : UInt8) bs) Tip.none, AV.int IntKind.i64 (Prod.fst (Prod.snd x)), AV.int IntKind.i64 (Prod.snd (Prod.snd x))],
         AObj.cells [AV.ptr 0 0], AObj.cells [AV.fn (89 : FuncId) [AV.ptr 1 0]], AObj.cells [AV.fn (91 : FuncId) [AV.ptr 1 0]],
         AObj.cells [AV.fn (93 : FuncId) [AV.ptr 2 0, AV.ptr 1 0, AV.ptr 3 0]]]
         (q95_2 5 Post)) →
    ASpec Try.prog 95 [AV.ptr 0 0, AV.int IntKind.i64 most, AV.fn (96 : FuncId) [AV.ptr 1 0, AV.ptr 4 0]] (HR bs p e) Post := fun bs p e most Post h => Go.Ab.ASpec.of_vc g95 Go.Proofs.Try.func95 (by kernel_rfl) (by kernel_rfl) (by kernel_rfl) (Go.Ab.kc (by kernel_rfl) h)
theorem v95_3 : ∀ (bs : List UInt8) (p e : Int) (acc : List T.Rel) (n : Int) (n_1 : Nat) (Post : AV → List AObj → Prop),
  condP (decide (n > (0 : Int)))
      (ASpec Try.prog 123 [AV.ptr 0 0]
        [AObj.cells [AV.sl 1 (Seq.map encB (0 : UInt8) bs) Tip.none, AV.int IntKind.i64 p, AV.int IntKind.i64 e], AObj.cells [AV.ptr 0 0],
         AObj.cells [AV.fn (89 : FuncId) [AV.ptr 1 0]], AObj.cells [AV.fn (91 : FuncId) [AV.ptr 1 0]],
         AObj.cells [AV.fn (93 : FuncId) [AV.ptr 2 0, AV.ptr 1 0, AV.ptr 3 0]], AObj.tok]
        fun (r : AV) (H' : List AObj) =>
        ∃ (x : Int),
         r = AV.int IntKind.i64 x ∧
         H' =
         [AObj.cells [AV.sl 1 (Seq.map encB (0 : UInt8) bs) Tip.none, AV.int IntKind.i64 p, AV.int IntKind.i64 e], AObj.cells [AV.ptr 0 0],
         AObj.cells [AV.fn (89 : FuncId) [AV.ptr 1 0]], AObj.cells [AV.fn (91 : FuncId) [AV.ptr 1 0]],
         AObj.cells [AV.fn (93 : FuncId) [AV.ptr 2 0, AV.ptr 1 0, AV.ptr 3 0]], AObj.tok] ∧
         condP (x == (0 : Int))
         (ASpec Try.prog 96 [AV.ptr 1 0, AV.ptr 4 0]
         [AObj.cells [AV.sl 1 (Seq.map encB (0 : UInt8) bs) Tip.none, AV.int IntKind.i64 p, AV.int IntKind.i64 e], AObj.cells [AV.ptr 0 0],
         AObj.cells [AV.fn (89 : FuncId) [AV.ptr 1 0]], AObj.cells [AV.fn (91 : FuncId) [AV.ptr 1 0]],
         AObj.cells [AV.fn (93 : FuncId) [AV.ptr 2 0, AV.ptr 1 0, AV.ptr 3 0]], AObj.tok]
         fun (r : AV) (H' : List AObj) =>
         ∃ (x : T.Rel × Int × Int),
         r = AV.agg [AV.int IntKind.i64 (Prod.fst (Prod.fst x)), AV.sl 2 (Seq.map T.encN ([], []) (Prod.snd (Prod.fst x))) Tip.none] ∧
         H' =
         [AObj.cells [AV.sl 1 (Seq.map encB (0 : UInt8) bs) Tip.none, AV.int IntKind.i64 (Prod.fst (Prod.snd x)), AV.int IntKind.i64 (Prod.snd (Prod.snd x))],
         AObj.cells [AV.ptr 0 0], AObj.cells [AV.fn (89 : FuncId) [AV.ptr 1 0]], AObj.cells [AV.fn (91 : FuncId) [AV.ptr 1 0]],
         AObj.cells [AV.fn (93 : FuncId) [AV.ptr 2 0, AV.ptr 1 0, AV.ptr 3 0]], AObj.tok] ∧
         needP ((List.length acc + 1) * 32 ≤ 140737488351232)
         (AWP Try.prog 27 n_1 c95_3
         [(0, AV.ptr 0 0), (2, AV.fn (96 : FuncId) [AV.ptr 1 0, AV.ptr 4 0]),
         (7,
         AV.sl 2
         (Seq.app (Seq.map T.encR ((0 : Int), []) acc)
         (Seq.raw [[AV.int IntKind.i64 (Prod.fst (Prod.fst x)), AV.sl 2 (Seq.map T.encN ([], []) (Prod.snd (Prod.fst x))) Tip.none]]))
         (Tip.tok 6)),
         (8, AV.int IntKind.i64 (IntKind.wrap IntKind.i64 (n - (1 : Int))))]
         [AObj.cells [AV.sl 1 (Seq.map encB (0 : UInt8) bs) Tip.none, AV.int IntKind.i64 (Prod.fst (Prod.snd x)), AV.int IntKind.i64 (Prod.snd (Prod.snd x))],
         AObj.cells [AV.ptr 0 0], AObj.cells [AV.fn (89 : FuncId) [AV.ptr 1 0]], AObj.cells [AV.fn (91 : FuncId) [AV.ptr 1 0]],
         AObj.cells [AV.fn (93 : FuncId) [AV.ptr 2 0, AV.ptr 1 0, AV.ptr 3 0]], AObj.gone, AObj.tok]
         (q95_2 n_1 Post)))
         (Post (AV.sl 2 (Seq.map T.encR ((0 : Int), []) acc) (Tip.tok 5))
         [AObj.cells [AV.sl 1 (Seq.map encB (0 : UInt8) bs) Tip.none, AV.int IntKind.i64 p, AV.int IntKind.i64 e], AObj.cells [AV.ptr 0 0],
         AObj.cells [AV.fn (89 : FuncId) [AV.ptr 1 0]], AObj.cells [AV.fn (91 : FuncId) [AV.ptr 1 0]],
         AObj.cells [AV.fn (93 : FuncId) [AV.ptr 2 0, AV.ptr 1 0, AV.ptr 3 0]], AObj.tok]))
      (Post (AV.sl 2 (Seq.map T.encR ((0 : Int), []) acc) (Tip.tok 5))
        [AObj.cells [AV.sl 1 (Seq.map encB (0 : UInt8) bs) Tip.none, AV.int IntKind.i64 p, AV.int IntKind.i64 e], AObj.cells [AV.ptr 0 0],
         AObj.cells [AV.fn (89 : FuncId) [AV.ptr 1 0]], AObj.cells [AV.fn (91 : FuncId) [AV.ptr 1 0]],
         AObj.cells [AV.fn (93 : FuncId) [AV.ptr 2 0, AV.ptr 1 0, AV.ptr 3 0]], AObj.tok]) →
    AWP Try.prog 27 n_1 c95_3
      [(0, AV.ptr 0 0), (2, AV.fn (96 : FuncId) [AV.ptr 1 0, AV.ptr 4 0]),
        (7, AV.sl 2 (Seq.map T.encR ((0 : Int), []) acc) (Tip.tok 5)), (8, AV.int IntKind.i64 n)]
      (HR bs p e ++ [AObj.tok]) (q95_2 n_1 Post) := fun bs p e acc n n Post h => Go.Ab.AWP.loop' g95 (Cfg.live g95) c95_3 (by kernel_rfl) (by kernel_rfl) (Go.Ab.kc (by kernel_rfl) h)

-- 64
noncomputable def l64 : Nat → List Nat
  | _ => []
noncomputable def u64 : Nat → Bool
  | _ => false
noncomputable def m64 : Nat → Bool
  | _ => false
noncomputable def g64 : Cfg := { N := 40, live := l64, cut := u64, mu := m64, ret := rets }
theorem s64 : ∀ (bs : List UInt8) (Post : AV → List AObj → Prop),
  condP (decide ((↑(List.length bs) : Int) > (8192 : Int)))
      (Post (AV.tup [AV.agg [AV.str { data := #[] }, AV.sl 0 (Seq.raw []) Tip.nil], AV.int IntKind.i64 (4 : Int)]) [AObj.cells [AV.str { data := #[] }, AV.sl 0 (Seq.raw []) Tip.nil]])
      (ASpec Try.prog 88 [AV.sl 1 (Seq.map encB (0 : UInt8) bs) Tip.none] [AObj.cells [AV.str { data := #[] }, AV.sl 0 (Seq.raw []) Tip.nil]] fun (r : AV) (H' : List AObj) =>
        ∃ (x : List UInt8),
         r = AV.ptr 1 0 ∧
         H' =
         [AObj.cells [AV.str { data := #[] }, AV.sl 0 (Seq.raw []) Tip.nil],
         AObj.cells [AV.sl 1 (Seq.map encB (0 : UInt8) x) Tip.none, AV.int IntKind.i64 (0 : Int), AV.int IntKind.i64 (0 : Int)]] ∧
         ASpec Try.prog 89 [AV.ptr 2 0]
         [AObj.cells [AV.str { data := #[] }, AV.sl 0 (Seq.raw []) Tip.nil],
         AObj.cells [AV.sl 1 (Seq.map encB (0 : UInt8) x) Tip.none, AV.int IntKind.i64 (0 : Int), AV.int IntKind.i64 (0 : Int)], AObj.cells [AV.ptr 1 0],
         AObj.cells [AV.fn 89 [AV.ptr 2 0]], AObj.cells [AV.fn 91 [AV.ptr 2 0]],
         AObj.cells [AV.fn 93 [AV.ptr 3 0, AV.ptr 2 0, AV.ptr 4 0]]]
         fun (r : AV) (H' : List AObj) =>
         ∃ (x_1 : ByteArray × Int × Int),
         r = AV.str (Prod.fst x_1) ∧
         H' =
         [AObj.cells [AV.str { data := #[] }, AV.sl 0 (Seq.raw []) Tip.nil],
         AObj.cells [AV.sl 1 (Seq.map encB (0 : UInt8) x) Tip.none, AV.int IntKind.i64 (Prod.fst (Prod.snd x_1)), AV.int IntKind.i64 (Prod.snd (Prod.snd x_1))],
         AObj.cells [AV.ptr 1 0], AObj.cells [AV.fn 89 [AV.ptr 2 0]], AObj.cells [AV.fn 91 [AV.ptr 2 0]],
         AObj.cells [AV.fn 93 [AV.ptr 3 0, AV.ptr 2 0, AV.ptr 4 0]]] ∧
         ASpec Try.prog 95 [AV.ptr 1 0, AV.int IntKind.i64 (8 : Int), AV.fn 96 [AV.ptr 2 0, AV.ptr 5 0]]
         [AObj.cells [AV.str { data := #[] }, AV.sl 0 (Seq.raw []) Tip.nil],
         AObj.cells [AV.sl 1 (Seq.map encB (0 : UInt8) x) Tip.none, AV.int IntKind.i64 (Prod.fst (Prod.snd x_1)), AV.int IntKind.i64 (Prod.snd (Prod.snd x_1))],
         AObj.cells [AV.ptr 1 0], AObj.cells [AV.fn 89 [AV.ptr 2 0]], AObj.cells [AV.fn 91 [AV.ptr 2 0]],
         AObj.cells [AV.fn 93 [AV.ptr 3 0, AV.ptr 2 0, AV.ptr 4 0]],
         AObj.cells [AV.str (Prod.fst x_1), AV.sl 0 (Seq.raw []) Tip.nil]]
         fun (r : AV) (H' : List AObj) =>
         ∃ (x_2 : List T.Rel × Int × Int),
         r = AV.sl 2 (Seq.map T.encR ((0 : Int), []) (Prod.fst x_2)) Tip.none ∧
         H' =
         [AObj.cells [AV.str { data := #[] }, AV.sl 0 (Seq.raw []) Tip.nil],
         AObj.cells [AV.sl 1 (Seq.map encB (0 : UInt8) x) Tip.none, AV.int IntKind.i64 (Prod.fst (Prod.snd x_2)), AV.int IntKind.i64 (Prod.snd (Prod.snd x_2))],
         AObj.cells [AV.ptr 1 0], AObj.cells [AV.fn 89 [AV.ptr 2 0]], AObj.cells [AV.fn 91 [AV.ptr 2 0]],
         AObj.cells [AV.fn 93 [AV.ptr 3 0, AV.ptr 2 0, AV.ptr 4 0]],
         AObj.cells [AV.str (Prod.fst x_1), AV.sl 0 (Seq.raw []) Tip.nil]] ∧
         ASpec Try.prog 98 [AV.ptr 1 0]
         [AObj.cells [AV.str { data := #[] }, AV.sl 0 (Seq.raw []) Tip.nil],
         AObj.cells [AV.sl 1 (Seq.map encB (0 : UInt8) x) Tip.none, AV.int IntKind.i64 (Prod.fst (Prod.snd x_2)), AV.int IntKind.i64 (Prod.snd (Prod.snd x_2))],
         AObj.cells [AV.ptr 1 0], AObj.cells [AV.fn 89 [AV.ptr 2 0]], AObj.cells [AV.fn 91 [AV.ptr 2 0]],
         AObj.cells [AV.fn 93 [AV.ptr 3 0, AV.ptr 2 0, AV.ptr 4 0]],
         AObj.cells [AV.str (Prod.fst x_1), AV.sl 2 (Seq.map T.encR ((0 : Int), []) (Prod.fst x_2)) Tip.none]]
         fun (r : AV) (H' : List AObj) =>
         ∃ (x_3 : Int),
         r = AV.int IntKind.i64 x_3 ∧
         H' =
         [AObj.cells [AV.str { data := #[] }, AV.sl 0 (Seq.raw []) Tip.nil],
         AObj.cells
         [AV.sl 1 (Seq.map encB (0 : UInt8) x) Tip.none, AV.int IntKind.i64 (Prod.fst (Prod.snd x_2)), AV.int IntKind.i64 (Prod.snd (Prod.snd x_2))],
         AObj.cells [AV.ptr 1 0], AObj.cells [AV.fn 89 [AV.ptr 2 0]],
         AObj.cells [AV.fn 91 [AV.ptr 2 0]],
         AObj.cells [AV.fn 93 [AV.ptr 3 0, AV.ptr 2 0, AV.ptr 4 0]],
         AObj.cells [AV.str (Prod.fst x_1), AV.sl 2 (Seq.map T.encR ((0 : Int), []) (Prod.fst x_2)) Tip.none]] ∧
         condP (x_3 == (0 : Int))
         (ASpec Try.prog 99 [AV.agg [AV.str (Prod.fst x_1), AV.sl 2 (Seq.map T.encR ((0 : Int), []) (Prod.fst x_2)) Tip.none]]
         [AObj.cells [AV.str { data := #[] }, AV.sl 0 (Seq.raw []) Tip.nil],
         AObj.cells
         [AV.sl 1 (Seq.map encB (0 : UInt8) x) Tip.none, AV.int IntKind.i64 (Prod.fst (Prod.snd x_2)), AV.int IntKind.i64 (Prod.snd (Prod.snd x_2))],
         AObj.cells [AV.ptr 1 0], AObj.cells [AV.fn 89 [AV.ptr 2 0]],
         AObj.cells [AV.fn 91 [AV.ptr 2 0]],
         AObj.cells [AV.fn 93 [AV.ptr 3 0, AV.ptr 2 0, AV.ptr 4 0]],
         AObj.cells [AV.str (Prod.fst x_1), AV.sl 2 (Seq.map T.encR ((0 : Int), []) (Prod.fst x_2)) Tip.none]]
         fun (r : AV) (H' : List AObj) =>
         ∃ (x_4 : Bool),
         r = AV.bool x_4 ∧
         H' =
         [AObj.cells [AV.str { data := #[] }, AV.sl 0 (Seq.raw []) Tip.nil],
         AObj.cells
         [AV.sl 1 (Seq.map encB (0 : UInt8) x) Tip.none, AV.int IntKind.i64 (Prod.fst (Prod.snd x_2)),
         AV.int IntKind.i64 (Prod.snd (Prod.snd x_2))],
         AObj.cells [AV.ptr 1 0], AObj.cells [AV.fn 89 [AV.ptr 2 0]],
         AObj.cells [AV.fn 91 [AV.ptr 2 0]],
         AObj.cells [AV.fn 93 [AV.ptr 3 0, AV.ptr 2 0, AV.ptr 4 0]],
         AObj.cells [AV.str (Prod.fst x_1), AV.sl 2 (Seq.map T.encR ((0 : Int), []) (Prod.fst x_2)) Tip.none]] ∧
         condP (!x_4)
         (Post (AV.tup [AV.agg [AV.str { data := #[] }, AV.sl 0 (Seq.raw []) Tip.nil], AV.int IntKind.i64 (3 : Int)])
         [AObj.cells [AV.str { data := #[] }, AV.sl 0 (Seq.raw []) Tip.nil],
         AObj.cells
         [AV.sl 1 (Seq.map encB (0 : UInt8) x) Tip.none, AV.int IntKind.i64 (Prod.fst (Prod.snd x_2)),
         AV.int IntKind.i64 (Prod.snd (Prod.snd x_2))],
         AObj.cells [AV.ptr 1 0], AObj.cells [AV.fn 89 [AV.ptr 2 0]],
         AObj.cells [AV.fn 91 [AV.ptr 2 0]],
         AObj.cells [AV.fn 93 [AV.ptr 3 0, AV.ptr 2 0, AV.ptr 4 0]],
         AObj.cells [AV.str (Prod.fst x_1), AV.sl 2 (Seq.map T.encR ((0 : Int), []) (Prod.fst x_2)) Tip.none]])
         (condP (x_3 != (0 : Int))
         (Post (AV.tup [AV.agg [AV.str { data := #[] }, AV.sl 0 (Seq.raw []) Tip.nil], AV.int IntKind.i64 x_3])
         [AObj.cells [AV.str { data := #[] }, AV.sl 0 (Seq.raw []) Tip.nil],
         AObj.cells
         [AV.sl 1 (Seq.map encB (0 : UInt8) x) Tip.none, AV.int IntKind.i64 (Prod.fst (Prod.snd x_2)),
         AV.int IntKind.i64 (Prod.snd (Prod.snd x_2))],
         AObj.cells [AV.ptr 1 0], AObj.cells [AV.fn 89 [AV.ptr 2 0]],
         AObj.cells [AV.fn 91 [AV.ptr 2 0]],
         AObj.cells [AV.fn 93 [AV.ptr 3 0, AV.ptr 2 0, AV.ptr 4 0]],
         AObj.cells [AV.str (Prod.fst x_1), AV.sl 2 (Seq.map T.encR ((0 : Int), []) (Prod.fst x_2)) Tip.none]])
         (Post
         (AV.tup [AV.agg [AV.str (Prod.fst x_1), AV.sl 2 (Seq.map T.encR ((0 : Int), []) (Prod.fst x_2)) Tip.none], AV.int IntKind.i64 (0 : Int)])
         [AObj.cells [AV.str (Prod.fst x_1), AV.sl 2 (Seq.map T.encR ((0 : Int), []) (Prod.fst x_2)) Tip.none],
         AObj.cells
         [AV.sl 1 (Seq.map encB (0 : UInt8) x) Tip.none, AV.int IntKind.i64 (Prod.fst (Prod.snd x_2)),
         AV.int IntKind.i64 (Prod.snd (Prod.snd x_2))],
         AObj.cells [AV.ptr 1 0], AObj.cells [AV.fn 89 [AV.ptr 2 0]],
         AObj.cells [AV.fn 91 [AV.ptr 2 0]],
         AObj.cells [AV.fn 93 [AV.ptr 3 0, AV.ptr 2 0, AV.ptr 4 0]],
         AObj.cells [AV.str (Prod.fst x_1), AV.sl 2 (Seq.map T.encR ((0 : Int), []) (Prod.fst x_2)) Tip.none]])))
         (condP (x_3 != (0 : Int))
         (Post (AV.tup [AV.agg [AV.str { data := #[] }, AV.sl 0 (Seq.raw []) Tip.nil], AV.int IntKind.i64 x_3])
         [AObj.cells [AV.str { data := #[] }, AV.sl 0 (Seq.raw []) Tip.nil],
         AObj.cells
         [AV.sl 1 (Seq.map encB (0 : UInt8) x) Tip.none, AV.int IntKind.i64 (Prod.fst (Prod.snd x_2)), AV.int IntKind.i64 (Prod.snd (Prod.snd x_2))],
         AObj.cells [AV.ptr 1 0], AObj.cells [AV.fn 89 [AV.ptr 2 0]],
         AObj.cells [AV.fn 91 [AV.ptr 2 0]],
         AObj.cells [AV.fn 93 [AV.ptr 3 0, AV.ptr 2 0, AV.ptr 4 0]],
         AObj.cells [AV.str (Prod.fst x_1), AV.sl 2 (Seq.map T.encR ((0 : Int), []) (Prod.fst x_2)) Tip.none]])
         (Post (AV.tup [AV.agg [AV.str (Prod.fst x_1), AV.sl 2 (Seq.map T.encR ((0 : Int), []) (Prod.fst x_2)) Tip.none], AV.int IntKind.i64 (0 : Int)])
         [AObj.cells [AV.str (Prod.fst x_1), AV.sl 2 (Seq.map T.encR ((0 : Int), []) (Prod.fst x_2)) Tip.none],
         AObj.cells
         [AV.sl 1 (Seq.map encB (0 : UInt8) x) Tip.none, AV.int IntKind.i64 (Prod.fst (Prod.snd x_2)), AV.int IntKind.i64 (Prod.snd (Prod.snd x_2))],
         AObj.cells [AV.ptr 1 0], AObj.cells [AV.fn 89 [AV.ptr 2 0]],
         AObj.cells [AV.fn 91 [AV.ptr 2 0]],
         AObj.cells [AV.fn 93 [AV.ptr 3 0, AV.ptr 2 0, AV.ptr 4 0]],
         AObj.cells [AV.str (Prod.fst x_1), AV.sl 2 (Seq.map T.encR ((0 : Int), []) (Prod.fst x_2)) Tip.none]]))) →
    ASpec Try.prog 64 [AV.sl 1 (Seq.map encB (0 : UInt8) bs) Tip.none] [] Post := fun bs Post h => Go.Ab.ASpec.of_vc g64 Go.Proofs.Try.func64 (by kernel_rfl) (by kernel_rfl) (by kernel_rfl) (Go.Ab.kc (by kernel_rfl) h)

-- 112
noncomputable def l112 : Nat → List Nat
  | 4 => [0, 3, 4, 5]
  | 9 => [0, 3, 4, 5, 6, 7, 8]
  | _ => []
noncomputable def u112 : Nat → Bool
  | _ => false
noncomputable def m112 : Nat → Bool
  | _ => false
noncomputable def g112 : Cfg := { N := 47, live := l112, cut := u112, mu := m112, ret := rets }
noncomputable def c112 : Go.Code := Go.Ab.bodyOf Go.Proofs.Try.f112
noncomputable def q112_0 : Nat → (AV → List AObj → Prop) → AQ := fun (n : Nat) (Post : AV → List AObj → Prop) => endQ Try.prog (resultsOf Try.f112) Post
noncomputable def q112_1 : Nat → (AV → List AObj → Prop) → AQ := fun (n : Nat) (Post : AV → List AObj → Prop) => seqQ (fun (s' : Slots) (H' : List AObj) => awp Try.prog g112 n (codeSnd (codeSnd (codeSnd (codeSnd c112)))) s' H' (q112_0 n Post)) (q112_0 n Post)
noncomputable def q112_2 : Nat → (AV → List AObj → Prop) → AQ := fun (n : Nat) (Post : AV → List AObj → Prop) => blockQ 0 (q112_1 n Post)
noncomputable def c112_4 : Go.Code := codeFst (codeSnd (codeFst (codeSnd (codeSnd (codeSnd c112)))))
theorem s112 : ∀ (s : ByteArray) (e : Int) (Post : AV → List AObj → Prop),
  (ASpec Try.prog 111 [AV.ptr 0 0, AV.int IntKind.i64 (6 : Int)] [AObj.cells [AV.str s, AV.int IntKind.i64 e]] fun (r : AV) (H' : List AObj) =>
      ∃ (x : Int × ByteArray × Int),
        r = AV.int IntKind.i64 (Prod.fst x) ∧
         H' = [AObj.cells [AV.str (Prod.fst (Prod.snd x)), AV.int IntKind.i64 (Prod.snd (Prod.snd x))]] ∧
         AWP Try.prog 47 1 c112_4
         [(0, AV.ptr 0 0), (3, AV.sl 0 (Seq.raw []) Tip.nil), (4, AV.int IntKind.i64 (Prod.fst x)), (5, AV.int IntKind.i64 (0 : Int))]
         [AObj.cells [AV.str (Prod.fst (Prod.snd x)), AV.int IntKind.i64 (Prod.snd (Prod.snd x))]] (q112_2 1 Post)) →
    ASpec Try.prog 112 [AV.ptr 0 0] [AObj.cells [AV.str s, AV.int IntKind.i64 e]] Post := fun s e Post h => Go.Ab.ASpec.of_vc g112 Go.Proofs.Try.func112 (by kernel_rfl) (by kernel_rfl) (by kernel_rfl) (Go.Ab.kc (by kernel_rfl) h)
noncomputable def q112_3 : Nat → (AV → List AObj → Prop) → AQ := fun (n : Nat) (Post : AV → List AObj → Prop) => loopQ Try.prog 47 n c112_4 (q112_2 n Post) (Cfg.live g112)
noncomputable def q112_4 : Nat → (AV → List AObj → Prop) → AQ := fun (n : Nat) (Post : AV → List AObj → Prop) => seqQ (fun (s' : Slots) (H' : List AObj) => awp Try.prog g112 n (codeSnd (codeSnd (codeFst c112_4))) s' H' (q112_3 n Post)) (q112_3 n Post)
noncomputable def q112_5 : Nat → (AV → List AObj → Prop) → AQ := fun (n : Nat) (Post : AV → List AObj → Prop) => blockQ 1 (q112_4 n Post)
noncomputable def q112_6 : Nat → (AV → List AObj → Prop) → AQ := fun (n : Nat) (Post : AV → List AObj → Prop) => seqQ (fun (s' : Slots) (H' : List AObj) => awp Try.prog g112 n (codeSnd (codeSnd (codeSnd (codeFst (codeFst (codeSnd (codeFst c112_4))))))) s' H' (q112_5 n Post)) (q112_5 n Post)
noncomputable def q112_7 : Nat → (AV → List AObj → Prop) → AQ := fun (n : Nat) (Post : AV → List AObj → Prop) => blockQ 2 (q112_6 n Post)
noncomputable def c112_9 : Go.Code := codeFst (codeSnd (codeFst (codeSnd (codeSnd (codeFst (codeFst (codeSnd (codeFst c112_4))))))))
theorem v112_4 : ∀ (s : ByteArray) (e : Int) (acc : List T.Need) (n i : Int) (n_1 : Nat) (Post : AV → List AObj → Prop),
  condP (decide (i < n))
      (ASpec Try.prog 110 [AV.ptr 0 0, AV.int IntKind.i64 (24 : Int)] [AObj.cells [AV.str s, AV.int IntKind.i64 e], AObj.tok] fun (r : AV) (H' : List AObj) =>
        ∃ (x : ByteArray × ByteArray × Int),
         r = AV.str (Prod.fst x) ∧
         H' = [AObj.cells [AV.str (Prod.fst (Prod.snd x)), AV.int IntKind.i64 (Prod.snd (Prod.snd x))], AObj.tok] ∧
         ASpec Try.prog 111 [AV.ptr 0 0, AV.int IntKind.i64 (6 : Int)]
         [AObj.cells [AV.str (Prod.fst (Prod.snd x)), AV.int IntKind.i64 (Prod.snd (Prod.snd x))], AObj.tok, AObj.cells [AV.str (Prod.fst x), AV.sl 0 (Seq.raw []) Tip.nil]]
         fun (r : AV) (H' : List AObj) =>
         ∃ (x_1 : Int × ByteArray × Int),
         r = AV.int IntKind.i64 (Prod.fst x_1) ∧
         H' =
         [AObj.cells [AV.str (Prod.fst (Prod.snd x_1)), AV.int IntKind.i64 (Prod.snd (Prod.snd x_1))], AObj.tok,
         AObj.cells [AV.str (Prod.fst x), AV.sl 0 (Seq.raw []) Tip.nil]] ∧
         AWP Try.prog 47 n_1 c112_9
         [(0, AV.ptr 0 0), (3, AV.sl 2 (Seq.map T.encN ([], []) acc) (Tip.tok 1)), (4, AV.int IntKind.i64 n),
         (5, AV.int IntKind.i64 i), (6, AV.ptr 2 0), (7, AV.int IntKind.i64 (Prod.fst x_1)), (8, AV.int IntKind.i64 (0 : Int))]
         [AObj.cells [AV.str (Prod.fst (Prod.snd x_1)), AV.int IntKind.i64 (Prod.snd (Prod.snd x_1))], AObj.tok, AObj.cells [AV.str (Prod.fst x), AV.sl 0 (Seq.raw []) Tip.nil]]
         (q112_7 n_1 Post))
      (Post (AV.sl 2 (Seq.map T.encN ([], []) acc) (Tip.tok 1)) [AObj.cells [AV.str s, AV.int IntKind.i64 e], AObj.tok]) →
    AWP Try.prog 47 n_1 c112_4
      [(0, AV.ptr 0 0), (3, AV.sl 2 (Seq.map T.encN ([], []) acc) (Tip.tok 1)), (4, AV.int IntKind.i64 n), (5, AV.int IntKind.i64 i)]
      [AObj.cells [AV.str s, AV.int IntKind.i64 e], AObj.tok] (q112_2 n_1 Post) := fun s e acc n i n Post h => Go.Ab.AWP.loop' g112 (Cfg.live g112) c112_4 (by kernel_rfl) (by kernel_rfl) (Go.Ab.kc (by kernel_rfl) h)
theorem v112_9 : ∀ (s : ByteArray) (e : Int) (acc : List T.Need) (n i : Int) (nm : ByteArray) (sp : List T.Span) (k j : Int) (n_1 : Nat) (Post : AV → List AObj → Prop),
  condP (decide (j < k))
      (ASpec Try.prog 111 [AV.ptr 0 0, AV.int IntKind.i64 (1000000000 : Int)]
        [AObj.cells [AV.str s, AV.int IntKind.i64 e], AObj.tok, AObj.cells [AV.str nm, AV.sl 2 (Seq.map T.encS ((0 : Int), (0 : Int)) sp) (Tip.tok 3)], AObj.tok]
        fun (r : AV) (H' : List AObj) =>
        ∃ (x : Int × ByteArray × Int),
         r = AV.int IntKind.i64 (Prod.fst x) ∧
         H' =
         [AObj.cells [AV.str (Prod.fst (Prod.snd x)), AV.int IntKind.i64 (Prod.snd (Prod.snd x))], AObj.tok,
         AObj.cells [AV.str nm, AV.sl 2 (Seq.map T.encS ((0 : Int), (0 : Int)) sp) (Tip.tok 3)], AObj.tok] ∧
         ASpec Try.prog 111 [AV.ptr 0 0, AV.int IntKind.i64 (1000000000 : Int)]
         [AObj.cells [AV.str (Prod.fst (Prod.snd x)), AV.int IntKind.i64 (Prod.snd (Prod.snd x))], AObj.tok,
         AObj.cells [AV.str nm, AV.sl 2 (Seq.map T.encS ((0 : Int), (0 : Int)) sp) (Tip.tok 3)], AObj.tok]
         fun (r : AV) (H' : List AObj) =>
         ∃ (x_1 : Int × ByteArray × Int),
         r = AV.int IntKind.i64 (Prod.fst x_1) ∧
         H' =
         [AObj.cells [AV.str (Prod.fst (Prod.snd x_1)), AV.int IntKind.i64 (Prod.snd (Prod.snd x_1))], AObj.tok,
         AObj.cells [AV.str nm, AV.sl 2 (Seq.map T.encS ((0 : Int), (0 : Int)) sp) (Tip.tok 3)], AObj.tok] ∧
         needP ((List.length sp + 1) * 16 ≤ 140737488351232)
         (AWP Try.prog 47 n_1 c112_9
         [(0, AV.ptr 0 0), (3, AV.sl 2 (Seq.map T.encN ([], []) acc) (Tip.tok 1)), (4, AV.int IntKind.i64 n),
         (5, AV.int IntKind.i64 i), (6, AV.ptr 2 0), (7, AV.int IntKind.i64 k),
         (8, AV.int IntKind.i64 (IntKind.wrap IntKind.i64 (j + (1 : Int))))]
         [AObj.cells [AV.str (Prod.fst (Prod.snd x_1)), AV.int IntKind.i64 (Prod.snd (Prod.snd x_1))], AObj.tok,
         AObj.cells
         [AV.str nm,
         AV.sl 2
         (Seq.app (Seq.map T.encS ((0 : Int), (0 : Int)) sp)
         (Seq.raw [[AV.int IntKind.i64 (Prod.fst x), AV.int IntKind.i64 (IntKind.wrap IntKind.i64 (Prod.fst x + Prod.fst x_1))]]))
         (Tip.tok 4)],
         AObj.gone, AObj.tok]
         (q112_7 n_1 Post)))
      (needP ((List.length acc + 1) * 40 ≤ 140737488351232)
        (AWP Try.prog 47 n_1 c112_4
         [(0, AV.ptr 0 0),
         (3,
         AV.sl 2 (Seq.app (Seq.map T.encN ([], []) acc) (Seq.raw [[AV.str nm, AV.sl 2 (Seq.map T.encS ((0 : Int), (0 : Int)) sp) (Tip.tok 3)]])) (Tip.tok 4)),
         (4, AV.int IntKind.i64 n), (5, AV.int IntKind.i64 (IntKind.wrap IntKind.i64 (i + (1 : Int))))]
         [AObj.cells [AV.str s, AV.int IntKind.i64 e], AObj.gone, AObj.cells [AV.str nm, AV.sl 2 (Seq.map T.encS ((0 : Int), (0 : Int)) sp) (Tip.tok 3)], AObj.tok, AObj.tok]
         (q112_2 n_1 Post))) →
    AWP Try.prog 47 n_1 c112_9
      [(0, AV.ptr 0 0), (3, AV.sl 2 (Seq.map T.encN ([], []) acc) (Tip.tok 1)), (4, AV.int IntKind.i64 n), (5, AV.int IntKind.i64 i),
        (6, AV.ptr 2 0), (7, AV.int IntKind.i64 k), (8, AV.int IntKind.i64 j)]
      [AObj.cells [AV.str s, AV.int IntKind.i64 e], AObj.tok, AObj.cells [AV.str nm, AV.sl 2 (Seq.map T.encS ((0 : Int), (0 : Int)) sp) (Tip.tok 3)], AObj.tok] (q112_7 n_1 Post) := fun s e acc n i nm sp k j n Post h => Go.Ab.AWP.loop' g112 (Cfg.live g112) c112_9 (by kernel_rfl) (by kernel_rfl) (Go.Ab.kc (by kernel_rfl) h)

-- 75
noncomputable def l75 : Nat → List Nat
  | 7 => [2, 4, 5, 6, 7]
  | _ => []
noncomputable def u75 : Nat → Bool
  | _ => false
noncomputable def m75 : Nat → Bool
  | _ => false
noncomputable def g75 : Cfg := { N := 53, live := l75, cut := u75, mu := m75, ret := rets }
noncomputable def c75 : Go.Code := Go.Ab.bodyOf Go.Proofs.Try.f75
noncomputable def q75_0 : Nat → (AV → List AObj → Prop) → AQ := fun (n : Nat) (Post : AV → List AObj → Prop) => endQ Try.prog (resultsOf Try.f75) Post
noncomputable def q75_1 : Nat → (AV → List AObj → Prop) → AQ := fun (n : Nat) (Post : AV → List AObj → Prop) => seqQ (fun (s' : Slots) (H' : List AObj) => awp Try.prog g75 n (codeSnd (codeSnd (codeSnd (codeSnd (codeSnd (codeSnd c75)))))) s' H' (q75_0 n Post)) (q75_0 n Post)
noncomputable def q75_2 : Nat → (AV → List AObj → Prop) → AQ := fun (n : Nat) (Post : AV → List AObj → Prop) => blockQ 0 (q75_1 n Post)
noncomputable def c75_7 : Go.Code := codeFst (codeSnd (codeFst (codeSnd (codeSnd (codeSnd (codeSnd (codeSnd c75)))))))
theorem s75 : ∀ (s : ByteArray) (Post : AV → List AObj → Prop),
  condP (decide ((↑(ByteArray.size s) : Int) > (8192 : Int)))
      (Post (AV.tup [AV.agg [AV.str { data := #[] }, AV.sl 0 (Seq.raw []) Tip.nil], AV.int IntKind.i64 (4 : Int)]) [AObj.cells [AV.str { data := #[] }, AV.sl 0 (Seq.raw []) Tip.nil]])
      (ASpec Try.prog 110 [AV.ptr 1 0, AV.int IntKind.i64 (24 : Int)]
        [AObj.cells [AV.str { data := #[] }, AV.sl 0 (Seq.raw []) Tip.nil], AObj.cells [AV.str s, AV.int IntKind.i64 (0 : Int)]] fun (r : AV) (H' : List AObj) =>
        ∃ (x : ByteArray × ByteArray × Int),
         r = AV.str (Prod.fst x) ∧
         H' = [AObj.cells [AV.str { data := #[] }, AV.sl 0 (Seq.raw []) Tip.nil], AObj.cells [AV.str (Prod.fst (Prod.snd x)), AV.int IntKind.i64 (Prod.snd (Prod.snd x))]] ∧
         ASpec Try.prog 111 [AV.ptr 1 0, AV.int IntKind.i64 (8 : Int)]
         [AObj.cells [AV.str { data := #[] }, AV.sl 0 (Seq.raw []) Tip.nil], AObj.cells [AV.str (Prod.fst (Prod.snd x)), AV.int IntKind.i64 (Prod.snd (Prod.snd x))],
         AObj.cells [AV.str (Prod.fst x), AV.sl 0 (Seq.raw []) Tip.nil]]
         fun (r : AV) (H' : List AObj) =>
         ∃ (x_1 : Int × ByteArray × Int),
         r = AV.int IntKind.i64 (Prod.fst x_1) ∧
         H' =
         [AObj.cells [AV.str { data := #[] }, AV.sl 0 (Seq.raw []) Tip.nil], AObj.cells [AV.str (Prod.fst (Prod.snd x_1)), AV.int IntKind.i64 (Prod.snd (Prod.snd x_1))],
         AObj.cells [AV.str (Prod.fst x), AV.sl 0 (Seq.raw []) Tip.nil]] ∧
         AWP Try.prog 53 0 c75_7
         [(2, AV.ptr 0 0), (4, AV.ptr 1 0), (5, AV.ptr 2 0), (6, AV.int IntKind.i64 (Prod.fst x_1)),
         (7, AV.int IntKind.i64 (0 : Int))]
         [AObj.cells [AV.str { data := #[] }, AV.sl 0 (Seq.raw []) Tip.nil], AObj.cells [AV.str (Prod.fst (Prod.snd x_1)), AV.int IntKind.i64 (Prod.snd (Prod.snd x_1))],
         AObj.cells [AV.str (Prod.fst x), AV.sl 0 (Seq.raw []) Tip.nil]]
         (q75_2 0 Post)) →
    ASpec Try.prog 75 [AV.str s] [] Post := fun s Post h => Go.Ab.ASpec.of_vc g75 Go.Proofs.Try.func75 (by kernel_rfl) (by kernel_rfl) (by kernel_rfl) (Go.Ab.kc (by kernel_rfl) h)
theorem v75_7 : ∀ (s : ByteArray) (e : Int) (nm : ByteArray) (acc : List T.Rel) (n i : Int) (n_1 : Nat) (Post : AV → List AObj → Prop),
  condP (decide (i < n))
      (ASpec Try.prog 111 [AV.ptr 1 0, AV.int IntKind.i64 (1000000000 : Int)]
        [AObj.cells [AV.str { data := #[] }, AV.sl 0 (Seq.raw []) Tip.nil], AObj.cells [AV.str s, AV.int IntKind.i64 e],
         AObj.cells [AV.str nm, AV.sl 2 (Seq.map T.encR ((0 : Int), []) acc) (Tip.tok 3)], AObj.tok]
        fun (r : AV) (H' : List AObj) =>
        ∃ (x : Int × ByteArray × Int),
         r = AV.int IntKind.i64 (Prod.fst x) ∧
         H' =
         [AObj.cells [AV.str { data := #[] }, AV.sl 0 (Seq.raw []) Tip.nil], AObj.cells [AV.str (Prod.fst (Prod.snd x)), AV.int IntKind.i64 (Prod.snd (Prod.snd x))],
         AObj.cells [AV.str nm, AV.sl 2 (Seq.map T.encR ((0 : Int), []) acc) (Tip.tok 3)], AObj.tok] ∧
         ASpec Try.prog 112 [AV.ptr 1 0]
         [AObj.cells [AV.str { data := #[] }, AV.sl 0 (Seq.raw []) Tip.nil], AObj.cells [AV.str (Prod.fst (Prod.snd x)), AV.int IntKind.i64 (Prod.snd (Prod.snd x))],
         AObj.cells [AV.str nm, AV.sl 2 (Seq.map T.encR ((0 : Int), []) acc) (Tip.tok 3)], AObj.tok,
         AObj.cells [AV.int IntKind.i64 (Prod.fst x), AV.sl 0 (Seq.raw []) Tip.nil]]
         fun (r : AV) (H' : List AObj) =>
         ∃ (x_1 : List T.Need × ByteArray × Int),
         r = AV.sl 2 (Seq.map T.encN ([], []) (Prod.fst x_1)) Tip.none ∧
         H' =
         [AObj.cells [AV.str { data := #[] }, AV.sl 0 (Seq.raw []) Tip.nil], AObj.cells [AV.str (Prod.fst (Prod.snd x_1)), AV.int IntKind.i64 (Prod.snd (Prod.snd x_1))],
         AObj.cells [AV.str nm, AV.sl 2 (Seq.map T.encR ((0 : Int), []) acc) (Tip.tok 3)], AObj.tok,
         AObj.cells [AV.int IntKind.i64 (Prod.fst x), AV.sl 0 (Seq.raw []) Tip.nil]] ∧
         needP ((List.length acc + 1) * 32 ≤ 140737488351232)
         (AWP Try.prog 53 n_1 c75_7
         [(2, AV.ptr 0 0), (4, AV.ptr 1 0), (5, AV.ptr 2 0), (6, AV.int IntKind.i64 n),
         (7, AV.int IntKind.i64 (IntKind.wrap IntKind.i64 (i + (1 : Int))))]
         [AObj.cells [AV.str { data := #[] }, AV.sl 0 (Seq.raw []) Tip.nil], AObj.cells [AV.str (Prod.fst (Prod.snd x_1)), AV.int IntKind.i64 (Prod.snd (Prod.snd x_1))],
         AObj.cells
         [AV.str nm,
         AV.sl 2
         (Seq.app (Seq.map T.encR ((0 : Int), []) acc) (Seq.raw [[AV.int IntKind.i64 (Prod.fst x), AV.sl 2 (Seq.map T.encN ([], []) (Prod.fst x_1)) Tip.none]]))
         (Tip.tok 5)],
         AObj.gone, AObj.cells [AV.int IntKind.i64 (Prod.fst x), AV.sl 2 (Seq.map T.encN ([], []) (Prod.fst x_1)) Tip.none], AObj.tok]
         (q75_2 n_1 Post)))
      (ASpec Try.prog 113 [AV.ptr 1 0]
        [AObj.cells [AV.str { data := #[] }, AV.sl 0 (Seq.raw []) Tip.nil], AObj.cells [AV.str s, AV.int IntKind.i64 e],
         AObj.cells [AV.str nm, AV.sl 2 (Seq.map T.encR ((0 : Int), []) acc) (Tip.tok 3)], AObj.tok]
        fun (r : AV) (H' : List AObj) =>
        ∃ (x : Int),
         r = AV.int IntKind.i64 x ∧
         H' =
         [AObj.cells [AV.str { data := #[] }, AV.sl 0 (Seq.raw []) Tip.nil], AObj.cells [AV.str s, AV.int IntKind.i64 e],
         AObj.cells [AV.str nm, AV.sl 2 (Seq.map T.encR ((0 : Int), []) acc) (Tip.tok 3)], AObj.tok] ∧
         condP (x == (0 : Int))
         (ASpec Try.prog 114 [AV.agg [AV.str nm, AV.sl 2 (Seq.map T.encR ((0 : Int), []) acc) (Tip.tok 3)]]
         [AObj.cells [AV.str { data := #[] }, AV.sl 0 (Seq.raw []) Tip.nil], AObj.cells [AV.str s, AV.int IntKind.i64 e],
         AObj.cells [AV.str nm, AV.sl 2 (Seq.map T.encR ((0 : Int), []) acc) (Tip.tok 3)], AObj.tok]
         fun (r : AV) (H' : List AObj) =>
         ∃ (x_1 : Bool),
         r = AV.bool x_1 ∧
         H' =
         [AObj.cells [AV.str { data := #[] }, AV.sl 0 (Seq.raw []) Tip.nil], AObj.cells [AV.str s, AV.int IntKind.i64 e],
         AObj.cells [AV.str nm, AV.sl 2 (Seq.map T.encR ((0 : Int), []) acc) (Tip.tok 3)], AObj.tok] ∧
         condP (!x_1)
         (Post (AV.tup [AV.agg [AV.str { data := #[] }, AV.sl 0 (Seq.raw []) Tip.nil], AV.int IntKind.i64 (3 : Int)])
         [AObj.cells [AV.str { data := #[] }, AV.sl 0 (Seq.raw []) Tip.nil], AObj.cells [AV.str s, AV.int IntKind.i64 e],
         AObj.cells [AV.str nm, AV.sl 2 (Seq.map T.encR ((0 : Int), []) acc) (Tip.tok 3)], AObj.tok])
         (condP (x != (0 : Int))
         (Post (AV.tup [AV.agg [AV.str { data := #[] }, AV.sl 0 (Seq.raw []) Tip.nil], AV.int IntKind.i64 x])
         [AObj.cells [AV.str { data := #[] }, AV.sl 0 (Seq.raw []) Tip.nil], AObj.cells [AV.str s, AV.int IntKind.i64 e],
         AObj.cells [AV.str nm, AV.sl 2 (Seq.map T.encR ((0 : Int), []) acc) (Tip.tok 3)], AObj.tok])
         (Post (AV.tup [AV.agg [AV.str nm, AV.sl 2 (Seq.map T.encR ((0 : Int), []) acc) (Tip.tok 3)], AV.int IntKind.i64 (0 : Int)])
         [AObj.cells [AV.str nm, AV.sl 2 (Seq.map T.encR ((0 : Int), []) acc) (Tip.tok 3)], AObj.cells [AV.str s, AV.int IntKind.i64 e],
         AObj.cells [AV.str nm, AV.sl 2 (Seq.map T.encR ((0 : Int), []) acc) (Tip.tok 3)], AObj.tok])))
         (condP (x != (0 : Int))
         (Post (AV.tup [AV.agg [AV.str { data := #[] }, AV.sl 0 (Seq.raw []) Tip.nil], AV.int IntKind.i64 x])
         [AObj.cells [AV.str { data := #[] }, AV.sl 0 (Seq.raw []) Tip.nil], AObj.cells [AV.str s, AV.int IntKind.i64 e],
         AObj.cells [AV.str nm, AV.sl 2 (Seq.map T.encR ((0 : Int), []) acc) (Tip.tok 3)], AObj.tok])
         (Post (AV.tup [AV.agg [AV.str nm, AV.sl 2 (Seq.map T.encR ((0 : Int), []) acc) (Tip.tok 3)], AV.int IntKind.i64 (0 : Int)])
         [AObj.cells [AV.str nm, AV.sl 2 (Seq.map T.encR ((0 : Int), []) acc) (Tip.tok 3)], AObj.cells [AV.str s, AV.int IntKind.i64 e],
         AObj.cells [AV.str nm, AV.sl 2 (Seq.map T.encR ((0 : Int), []) acc) (Tip.tok 3)], AObj.tok]))) →
    AWP Try.prog 53 n_1 c75_7
      [(2, AV.ptr 0 0), (4, AV.ptr 1 0), (5, AV.ptr 2 0), (6, AV.int IntKind.i64 n), (7, AV.int IntKind.i64 i)]
      [AObj.cells [AV.str { data := #[] }, AV.sl 0 (Seq.raw []) Tip.nil], AObj.cells [AV.str s, AV.int IntKind.i64 e],
        AObj.cells [AV.str nm, AV.sl 2 (Seq.map T.encR ((0 : Int), []) acc) (Tip.tok 3)], AObj.tok]
      (q75_2 n_1 Post) := fun s e nm acc n i n Post h => Go.Ab.AWP.loop' g75 (Cfg.live g75) c75_7 (by kernel_rfl) (by kernel_rfl) (Go.Ab.kc (by kernel_rfl) h)

end
end W
end

section
/- Entries, and what an index knows. -/

open Go Go.Ab Go.Proofs
namespace T
/-- name, body -/
abbrev Ent := List UInt8 × List UInt8
noncomputable def encEn (x : Ent) : List AV := [.str ⟨x.1.toArray⟩, .sl 1 (.map encB 0 x.2) .none]
/-- a manifest, or a name that is broken -/
abbrev Known := Option Mani
noncomputable def encK : Known → AV
  | some m => .iface 116 (.agg (encM m))
  | none => .iface 126 (.agg [])
noncomputable def EK : Enc Known := ⟨encK, fun a K => optionP a (fun m => K (.iface 116 (.agg (encM m)))) (K (.iface 126 (.agg []))), fun a K h => by cases a <;> exact h⟩
abbrev Kn := List (ByteArray × Known)
noncomputable def HX (es : Kn) : List AObj := [.mp (.typed EK es), .cells [.map 0]]
end T
end

section
/- Printed: what the code of functions 8, 37, 29, 41, 20, 155, 156, 48, 115, 76, 59 asks for, by the framework's own reading of it; each line is checked against the code. -/

set_option linter.unusedVariables false
set_option maxRecDepth 100000
set_option maxHeartbeats 4000000
open Go Go.Ab Go.Proofs
namespace X
noncomputable section

noncomputable def updI (args : List AV) (H : List AObj) (es : T.Kn) : List AObj := match args with
  | .ptr p _ :: _ => match H[p]? with
    | some (.cells [.map q]) => H.set q (.mp (.typed T.EK es))
    | _ => H
  | _ => H
noncomputable def retX : List (Nat × Ret) := [
  (8, ⟨Bool, fun _ _ x => .bool x, fun _ H _ => H⟩), (29, ⟨Bool, fun _ _ x => .bool x, fun _ H _ => H⟩),
  (9111, ⟨Unit, fun _ _ _ => .bool true, fun _ H _ => H⟩),
  (155, ⟨Unit, fun _ _ _ => .bool true, fun _ H _ => H⟩),
  (156, ⟨Unit, fun _ _ _ => .bool false, fun _ H _ => H⟩),
  (37, ⟨Unit, fun _ H _ => .ptr (H.length + 1) 0, fun _ H _ => H ++ [.mp (.typed T.EK []), .cells [.map H.length]]⟩),
  (41, ⟨T.Mani × Bool, fun _ _ x => .tup [.agg (T.encM x.1), .bool x.2], fun _ H _ => H⟩),
  (154, ⟨Int, fun _ _ x => .int .i64 x, fun _ H _ => H⟩),
  (20, ⟨Int × T.Kn, fun _ _ x => .int .i64 x.1, fun a H x => updI a H x.2⟩),
  (59, ⟨T.Mani, fun _ _ x => .agg (T.encM x), fun _ H _ => H⟩),
  (76, ⟨T.Rel, fun _ _ x => .agg (T.encR x), fun _ H _ => H⟩),
  (115, ⟨List T.Span, fun _ _ x => .sl 2 (.map T.encS (0, 0) x) .none, fun _ H _ => H⟩),
  (48, ⟨T.Mani, fun _ _ x => .iface 116 (.agg (T.encM x)), fun _ H _ => H⟩),
  (48, ⟨Unit, fun _ _ _ => .iface 126 (.agg []), fun _ H _ => H⟩)]
noncomputable def rets : FuncId → List Ret := lookupR (retX ++ W.retW ++ C.retC ++ V.retL)

-- 8
noncomputable def l8 : Nat → List Nat
  | 4 => [0, 3]
  | _ => []
noncomputable def u8 : Nat → Bool
  | _ => false
noncomputable def m8 : Nat → Bool
  | _ => false
noncomputable def g8 : Cfg := { N := 29, live := l8, cut := u8, mu := m8, ret := rets }
noncomputable def c8 : Go.Code := Go.Ab.bodyOf Go.Proofs.Try.f8
noncomputable def q8_0 : Nat → (AV → List AObj → Prop) → AQ := fun (n : Nat) (Post : AV → List AObj → Prop) => endQ Try.prog (resultsOf Try.f8) Post
noncomputable def q8_1 : Nat → (AV → List AObj → Prop) → AQ := fun (n : Nat) (Post : AV → List AObj → Prop) => seqQ (fun (s' : Slots) (H' : List AObj) => awp Try.prog g8 n (codeSnd (codeSnd (codeSnd c8))) s' H' (q8_0 n Post)) (q8_0 n Post)
noncomputable def q8_2 : Nat → (AV → List AObj → Prop) → AQ := fun (n : Nat) (Post : AV → List AObj → Prop) => blockQ 0 (q8_1 n Post)
noncomputable def c8_4 : Go.Code := codeFst (codeSnd (codeFst (codeSnd (codeSnd c8))))
theorem s8 : ∀ (l : List T.Ent) (Post : AV → List AObj → Prop),
  condP (decide ((↑(List.length l) : Int) > (30 : Int))) (Post (AV.bool true) [])
      (AWP Try.prog 29 0 c8_4 [(0, AV.sl 2 (Seq.map T.encEn ([], []) l) Tip.none), (3, AV.int IntKind.i64 (0 : Int))] [] (q8_2 0 Post)) →
    ASpec Try.prog 8 [AV.sl 2 (Seq.map T.encEn ([], []) l) Tip.none] [] Post := fun l Post h => Go.Ab.ASpec.of_vc g8 Go.Proofs.Try.func8 (by kernel_rfl) (by kernel_rfl) (by kernel_rfl) (Go.Ab.kc (by kernel_rfl) h)
theorem v8_4 : ∀ (l : List T.Ent) (i : Int) (n : Nat) (Post : AV → List AObj → Prop),
  condP (decide (i < (↑(List.length l) : Int)))
      (needP ((0 : Int) ≤ i ∧ i < (↑(List.length l) : Int))
        (condP (decide ((↑(ByteArray.size { data := List.toArray (Prod.fst (List.getD l (Int.toNat i) ([], []))) }) : Int) > (200 : Int))) (Post (AV.bool true) [])
         (needP ((0 : Int) ≤ i ∧ i < (↑(List.length l) : Int))
         (condP (decide ((↑(List.length (Prod.snd (List.getD l (Int.toNat i) ([], [])))) : Int) > (9000 : Int))) (Post (AV.bool true) [])
         (AWP Try.prog 29 n c8_4 [(0, AV.sl 2 (Seq.map T.encEn ([], []) l) Tip.none), (3, AV.int IntKind.i64 (IntKind.wrap IntKind.i64 (i + (1 : Int))))] []
         (q8_2 n Post))))))
      (Post (AV.bool false) []) →
    AWP Try.prog 29 n c8_4 [(0, AV.sl 2 (Seq.map T.encEn ([], []) l) Tip.none), (3, AV.int IntKind.i64 i)] [] (q8_2 n Post) := fun l i n Post h => Go.Ab.AWP.loop' g8 (Cfg.live g8) c8_4 (by kernel_rfl) (by kernel_rfl) (Go.Ab.kc (by kernel_rfl) h)

-- 37
noncomputable def l37 : Nat → List Nat
  | _ => []
noncomputable def u37 : Nat → Bool
  | _ => false
noncomputable def m37 : Nat → Bool
  | _ => false
noncomputable def g37 : Cfg := { N := 4, live := l37, cut := u37, mu := m37, ret := rets }
theorem s37 : ∀ (Post : AV → List AObj → Prop), Post (AV.ptr 1 0) [AObj.mp MM.nil, AObj.cells [AV.map 0]] → ASpec Try.prog 37 [] [] Post := fun Post h => Go.Ab.ASpec.of_vc g37 Go.Proofs.Try.func37 (by kernel_rfl) (by kernel_rfl) (by kernel_rfl) (Go.Ab.kc (by kernel_rfl) h)

-- 29
noncomputable def l29 : Nat → List Nat
  | _ => []
noncomputable def u29 : Nat → Bool
  | _ => false
noncomputable def m29 : Nat → Bool
  | _ => false
noncomputable def g29 : Cfg := { N := 19, live := l29, cut := u29, mu := m29, ret := rets }
theorem s29 : ∀ (es : T.Kn) (s : ByteArray) (Post : AV → List AObj → Prop),
  optionP (findM es s)
      (fun (x : T.Known) =>
        optionP x (fun (x : T.Mani) => Post (AV.bool true) [AObj.mp (MM.typed T.EK es), AObj.cells [AV.map 0]])
         (Post (AV.bool true) [AObj.mp (MM.typed T.EK es), AObj.cells [AV.map 0]]))
      (Post (AV.bool false) [AObj.mp (MM.typed T.EK es), AObj.cells [AV.map 0]]) →
    ASpec Try.prog 29 [AV.ptr 1 0, AV.str s] (T.HX es) Post := fun es s Post h => Go.Ab.ASpec.of_vc g29 Go.Proofs.Try.func29 (by kernel_rfl) (by kernel_rfl) (by kernel_rfl) (Go.Ab.kc (by kernel_rfl) h)

-- 41
noncomputable def l41 : Nat → List Nat
  | _ => []
noncomputable def u41 : Nat → Bool
  | _ => false
noncomputable def m41 : Nat → Bool
  | _ => false
noncomputable def g41 : Cfg := { N := 35, live := l41, cut := u41, mu := m41, ret := rets }
theorem s41 : ∀ (es : T.Kn) (s : ByteArray) (Post : AV → List AObj → Prop),
  (ASpec Try.prog 29 [AV.ptr 1 0, AV.str s]
      [AObj.mp (MM.typed T.EK es), AObj.cells [AV.map 0], AObj.cells [AV.str { data := #[] }, AV.sl 0 (Seq.raw []) Tip.nil],
        AObj.cells [AV.str s, AV.sl 0 (Seq.raw []) Tip.nil]]
      fun (r : AV) (H' : List AObj) =>
      ∃ (x : Bool),
        r = AV.bool x ∧
         H' =
         [AObj.mp (MM.typed T.EK es), AObj.cells [AV.map 0], AObj.cells [AV.str { data := #[] }, AV.sl 0 (Seq.raw []) Tip.nil],
         AObj.cells [AV.str s, AV.sl 0 (Seq.raw []) Tip.nil]] ∧
         condP (!x)
         (Post (AV.tup [AV.agg [AV.str s, AV.sl 0 (Seq.raw []) Tip.nil], AV.bool false])
         [AObj.mp (MM.typed T.EK es), AObj.cells [AV.map 0], AObj.cells [AV.str s, AV.sl 0 (Seq.raw []) Tip.nil], AObj.cells [AV.str s, AV.sl 0 (Seq.raw []) Tip.nil]])
         (optionP (findM es s)
         (fun (x : T.Known) =>
         optionP x
         (fun (x : T.Mani) =>
         ASpec Try.prog 155 [AV.agg [AV.str { data := List.toArray (Prod.fst x) }, AV.sl 2 (Seq.map T.encR ((0 : Int), []) (Prod.snd x)) Tip.none]]
         [AObj.mp (MM.typed T.EK es), AObj.cells [AV.map 0], AObj.cells [AV.str { data := #[] }, AV.sl 0 (Seq.raw []) Tip.nil],
         AObj.cells [AV.str s, AV.sl 0 (Seq.raw []) Tip.nil]]
         fun (r : AV) (H' : List AObj) =>
         ∃ (x : Unit),
         r = AV.bool true ∧
         H' =
         [AObj.mp (MM.typed T.EK es), AObj.cells [AV.map 0], AObj.cells [AV.str { data := #[] }, AV.sl 0 (Seq.raw []) Tip.nil],
         AObj.cells [AV.str s, AV.sl 0 (Seq.raw []) Tip.nil]] ∧
         optionP (findM es s)
         (fun (x : T.Known) =>
         optionP x
         (fun (x : T.Mani) =>
         ASpec Try.prog 59 [AV.agg [AV.str { data := List.toArray (Prod.fst x) }, AV.sl 2 (Seq.map T.encR ((0 : Int), []) (Prod.snd x)) Tip.none]]
         [AObj.mp (MM.typed T.EK es), AObj.cells [AV.map 0], AObj.cells [AV.str { data := #[] }, AV.sl 0 (Seq.raw []) Tip.nil],
         AObj.cells [AV.str s, AV.sl 0 (Seq.raw []) Tip.nil],
         AObj.cells [AV.str { data := List.toArray (Prod.fst x) }, AV.sl 2 (Seq.map T.encR ((0 : Int), []) (Prod.snd x)) Tip.none]]
         fun (r : AV) (H' : List AObj) =>
         ∃ (x_1 : List UInt8 × List T.Rel),
         r = AV.agg [AV.str { data := List.toArray (Prod.fst x_1) }, AV.sl 2 (Seq.map T.encR ((0 : Int), []) (Prod.snd x_1)) Tip.none] ∧
         H' =
         [AObj.mp (MM.typed T.EK es), AObj.cells [AV.map 0], AObj.cells [AV.str { data := #[] }, AV.sl 0 (Seq.raw []) Tip.nil],
         AObj.cells [AV.str s, AV.sl 0 (Seq.raw []) Tip.nil],
         AObj.cells [AV.str { data := List.toArray (Prod.fst x) }, AV.sl 2 (Seq.map T.encR ((0 : Int), []) (Prod.snd x)) Tip.none]] ∧
         Post
         (AV.tup
         [AV.agg [AV.str { data := List.toArray (Prod.fst x_1) }, AV.sl 2 (Seq.map T.encR ((0 : Int), []) (Prod.snd x_1)) Tip.none], AV.bool true])
         [AObj.mp (MM.typed T.EK es), AObj.cells [AV.map 0],
         AObj.cells [AV.str { data := List.toArray (Prod.fst x_1) }, AV.sl 2 (Seq.map T.encR ((0 : Int), []) (Prod.snd x_1)) Tip.none],
         AObj.cells [AV.str s, AV.sl 0 (Seq.raw []) Tip.nil],
         AObj.cells [AV.str { data := List.toArray (Prod.fst x) }, AV.sl 2 (Seq.map T.encR ((0 : Int), []) (Prod.snd x)) Tip.none]])
         False)
         False)
         (ASpec Try.prog 156 [AV.agg []]
         [AObj.mp (MM.typed T.EK es), AObj.cells [AV.map 0], AObj.cells [AV.str { data := #[] }, AV.sl 0 (Seq.raw []) Tip.nil],
         AObj.cells [AV.str s, AV.sl 0 (Seq.raw []) Tip.nil]]
         fun (r : AV) (H' : List AObj) =>
         ∃ (x : Unit),
         r = AV.bool false ∧
         H' =
         [AObj.mp (MM.typed T.EK es), AObj.cells [AV.map 0], AObj.cells [AV.str { data := #[] }, AV.sl 0 (Seq.raw []) Tip.nil],
         AObj.cells [AV.str s, AV.sl 0 (Seq.raw []) Tip.nil]] ∧
         Post (AV.tup [AV.agg [AV.str s, AV.sl 0 (Seq.raw []) Tip.nil], AV.bool false])
         [AObj.mp (MM.typed T.EK es), AObj.cells [AV.map 0], AObj.cells [AV.str s, AV.sl 0 (Seq.raw []) Tip.nil],
         AObj.cells [AV.str s, AV.sl 0 (Seq.raw []) Tip.nil]]))
         False)) →
    ASpec Try.prog 41 [AV.ptr 1 0, AV.str s] (T.HX es) Post := fun es s Post h => Go.Ab.ASpec.of_vc g41 Go.Proofs.Try.func41 (by kernel_rfl) (by kernel_rfl) (by kernel_rfl) (Go.Ab.kc (by kernel_rfl) h)

-- 20
noncomputable def l20 : Nat → List Nat
  | _ => []
noncomputable def u20 : Nat → Bool
  | _ => false
noncomputable def m20 : Nat → Bool
  | _ => false
noncomputable def g20 : Cfg := { N := 32, live := l20, cut := u20, mu := m20, ret := rets }
theorem s20 : ∀ (es : T.Kn) (s : ByteArray) (bs : List UInt8) (Post : AV → List AObj → Prop),
  (ASpec Try.prog 47 [AV.str s] [AObj.mp (MM.typed T.EK es), AObj.cells [AV.map 0]] fun (r : AV) (H' : List AObj) =>
      ∃ (x : Bool),
        r = AV.bool x ∧
         H' = [AObj.mp (MM.typed T.EK es), AObj.cells [AV.map 0]] ∧
         condP (!x) (Post (AV.int IntKind.i64 (1 : Int)) [AObj.mp (MM.typed T.EK es), AObj.cells [AV.map 0]])
         (condP (decide ((↑(List.length bs) : Int) > (8192 : Int))) (Post (AV.int IntKind.i64 (1 : Int)) [AObj.mp (MM.typed T.EK es), AObj.cells [AV.map 0]])
         (ASpec Try.prog 29 [AV.ptr 1 0, AV.str s] [AObj.mp (MM.typed T.EK es), AObj.cells [AV.map 0]] fun (r : AV) (H' : List AObj) =>
         ∃ (x : Bool),
         r = AV.bool x ∧
         H' = [AObj.mp (MM.typed T.EK es), AObj.cells [AV.map 0]] ∧
         condP x (Post (AV.int IntKind.i64 (6 : Int)) [AObj.mp (MM.typed T.EK es), AObj.cells [AV.map 0]])
         (ASpec Try.prog 48 [AV.str s, AV.sl 1 (Seq.map encB (0 : UInt8) bs) Tip.none] [AObj.mp (MM.typed T.EK es), AObj.cells [AV.map 0]]
         fun (r : AV) (H' : List AObj) =>
         (∃ (x : List UInt8 × List T.Rel),
         r = AV.iface (116 : TypeId) (AV.agg [AV.str { data := List.toArray (Prod.fst x) }, AV.sl 2 (Seq.map T.encR ((0 : Int), []) (Prod.snd x)) Tip.none]) ∧
         H' = [AObj.mp (MM.typed T.EK es), AObj.cells [AV.map 0]] ∧
         (AV.map 0 = AV.map 0 ∧ [AObj.mp (MM.typed T.EK es), AObj.cells [AV.map 0]] = [AObj.mp (MM.typed T.EK es), AObj.cells [AV.map 0]]) ∧
         Post (AV.int IntKind.i64 (0 : Int))
         [AObj.mp
         (MM.put (MM.typed T.EK es) s
         (AV.iface (116 : TypeId)
         (AV.agg [AV.str { data := List.toArray (Prod.fst x) }, AV.sl 2 (Seq.map T.encR ((0 : Int), []) (Prod.snd x)) Tip.none]))),
         AObj.cells [AV.map 0]]) ∨
         ∃ (x : Unit),
         r = AV.iface (126 : TypeId) (AV.agg []) ∧
         H' = [AObj.mp (MM.typed T.EK es), AObj.cells [AV.map 0]] ∧
         (AV.map 0 = AV.map 0 ∧ [AObj.mp (MM.typed T.EK es), AObj.cells [AV.map 0]] = [AObj.mp (MM.typed T.EK es), AObj.cells [AV.map 0]]) ∧
         Post (AV.int IntKind.i64 (0 : Int)) [AObj.mp (MM.put (MM.typed T.EK es) s (AV.iface (126 : TypeId) (AV.agg []))), AObj.cells [AV.map 0]])))) →
    ASpec Try.prog 20 [AV.ptr 1 0, AV.str s, AV.sl 1 (Seq.map encB (0 : UInt8) bs) Tip.none] (T.HX es) Post := fun es s bs Post h => Go.Ab.ASpec.of_vc g20 Go.Proofs.Try.func20 (by kernel_rfl) (by kernel_rfl) (by kernel_rfl) (Go.Ab.kc (by kernel_rfl) h)

-- 155
noncomputable def l155 : Nat → List Nat
  | _ => []
noncomputable def u155 : Nat → Bool
  | _ => false
noncomputable def m155 : Nat → Bool
  | _ => false
noncomputable def g155 : Cfg := { N := 3, live := l155, cut := u155, mu := m155, ret := rets }
theorem s155 : ∀ (m : T.Mani) (Post : AV → List AObj → Prop),
  Post (AV.bool true) [AObj.cells [AV.str { data := List.toArray (Prod.fst m) }, AV.sl 2 (Seq.map T.encR ((0 : Int), []) (Prod.snd m)) Tip.none]] →
    ASpec Try.prog 155 [AV.agg (T.encM m)] [] Post := fun m Post h => Go.Ab.ASpec.of_vc g155 Go.Proofs.Try.func155 (by kernel_rfl) (by kernel_rfl) (by kernel_rfl) (Go.Ab.kc (by kernel_rfl) h)

-- 156
noncomputable def l156 : Nat → List Nat
  | _ => []
noncomputable def u156 : Nat → Bool
  | _ => false
noncomputable def m156 : Nat → Bool
  | _ => false
noncomputable def g156 : Cfg := { N := 3, live := l156, cut := u156, mu := m156, ret := rets }
theorem s156 : ∀ (Post : AV → List AObj → Prop), Post (AV.bool false) [AObj.cells []] → ASpec Try.prog 156 [AV.agg []] [] Post := fun Post h => Go.Ab.ASpec.of_vc g156 Go.Proofs.Try.func156 (by kernel_rfl) (by kernel_rfl) (by kernel_rfl) (Go.Ab.kc (by kernel_rfl) h)

-- 48
noncomputable def l48 : Nat → List Nat
  | _ => []
noncomputable def u48 : Nat → Bool
  | _ => false
noncomputable def m48 : Nat → Bool
  | _ => false
noncomputable def g48 : Cfg := { N := 25, live := l48, cut := u48, mu := m48, ret := rets }
theorem s48 : ∀ (s : ByteArray) (bs : List UInt8) (Post : AV → List AObj → Prop),
  (ASpec Try.prog 64 [AV.sl 1 (Seq.map encB (0 : UInt8) bs) Tip.none] [] fun (r : AV) (H' : List AObj) =>
      ∃ (x : T.Mani × Int),
        r =
         AV.tup
         [AV.agg [AV.str { data := List.toArray (Prod.fst (Prod.fst x)) }, AV.sl 2 (Seq.map T.encR ((0 : Int), []) (Prod.snd (Prod.fst x))) Tip.none], AV.int IntKind.i64 (Prod.snd x)] ∧
         H' = [] ∧
         condP (Prod.snd x != (0 : Int))
         (Post (AV.iface 126 (AV.agg []))
         [AObj.cells [AV.str { data := List.toArray (Prod.fst (Prod.fst x)) }, AV.sl 2 (Seq.map T.encR ((0 : Int), []) (Prod.snd (Prod.fst x))) Tip.none]])
         (condP (!ByteArray.toList { data := List.toArray (Prod.fst (Prod.fst x)) } == ByteArray.toList s)
         (Post (AV.iface 126 (AV.agg []))
         [AObj.cells [AV.str { data := List.toArray (Prod.fst (Prod.fst x)) }, AV.sl 2 (Seq.map T.encR ((0 : Int), []) (Prod.snd (Prod.fst x))) Tip.none]])
         (Post (AV.iface 116 (AV.agg [AV.str { data := List.toArray (Prod.fst (Prod.fst x)) }, AV.sl 2 (Seq.map T.encR ((0 : Int), []) (Prod.snd (Prod.fst x))) Tip.none]))
         [AObj.cells [AV.str { data := List.toArray (Prod.fst (Prod.fst x)) }, AV.sl 2 (Seq.map T.encR ((0 : Int), []) (Prod.snd (Prod.fst x))) Tip.none]]))) →
    ASpec Try.prog 48 [AV.str s, AV.sl 1 (Seq.map encB (0 : UInt8) bs) Tip.none] [] Post := fun s bs Post h => Go.Ab.ASpec.of_vc g48 Go.Proofs.Try.func48 (by kernel_rfl) (by kernel_rfl) (by kernel_rfl) (Go.Ab.kc (by kernel_rfl) h)

-- 115
noncomputable def l115 : Nat → List Nat
  | _ => []
noncomputable def u115 : Nat → Bool
  | _ => false
noncomputable def m115 : Nat → Bool
  | _ => false
noncomputable def g115 : Cfg := { N := 8, live := l115, cut := u115, mu := m115, ret := rets }
theorem s115 : ∀ (l : List T.Span) (Post : AV → List AObj → Prop),
  (∀ (b : Bool),
      (b = true → Seq.toList (Seq.map T.encS ((0 : Int), (0 : Int)) l) = []) →
        condP b (Post (AV.sl 0 (Seq.raw []) Tip.nil) [])
         (needP (∀ (x : T.Span), List.all (T.encS x) oneAV = true)
         (needP ((0 + List.length l) * 16 ≤ 140737488351232)
         (Post (AV.sl 2 (Seq.app (Seq.raw []) (Seq.map T.encS ((0 : Int), (0 : Int)) l)) (Tip.tok 0)) [AObj.tok])))) →
    ASpec Try.prog 115 [AV.sl 2 (Seq.map T.encS ((0 : Int), (0 : Int)) l) Tip.none] [] Post := fun l Post h => Go.Ab.ASpec.of_vc g115 Go.Proofs.Try.func115 (by kernel_rfl) (by kernel_rfl) (by kernel_rfl) (Go.Ab.kc (by kernel_rfl) h)

-- 76
noncomputable def l76 : Nat → List Nat
  | 3 => [2, 3, 10, 11, 12]
  | _ => []
noncomputable def u76 : Nat → Bool
  | _ => false
noncomputable def m76 : Nat → Bool
  | _ => false
noncomputable def g76 : Cfg := { N := 29, live := l76, cut := u76, mu := m76, ret := rets }
noncomputable def c76 : Go.Code := Go.Ab.bodyOf Go.Proofs.Try.f76
noncomputable def q76_0 : Nat → (AV → List AObj → Prop) → AQ := fun (n : Nat) (Post : AV → List AObj → Prop) => endQ Try.prog (resultsOf Try.f76) Post
noncomputable def q76_1 : Nat → (AV → List AObj → Prop) → AQ := fun (n : Nat) (Post : AV → List AObj → Prop) => seqQ (fun (s' : Slots) (H' : List AObj) => awp Try.prog g76 n (codeSnd (codeSnd (codeSnd c76))) s' H' (q76_0 n Post)) (q76_0 n Post)
noncomputable def q76_2 : Nat → (AV → List AObj → Prop) → AQ := fun (n : Nat) (Post : AV → List AObj → Prop) => blockQ 0 (q76_1 n Post)
noncomputable def c76_3 : Go.Code := codeFst (codeSnd (codeFst (codeSnd (codeSnd c76))))
theorem s76 : ∀ (r : T.Rel) (Post : AV → List AObj → Prop),
  AWP Try.prog 29 0 c76_3
      [(2, AV.ptr 1 0), (3, AV.ptr 2 0), (10, AV.sl 2 (Seq.map T.encN ([], []) (Prod.snd r)) Tip.none),
        (11, AV.int IntKind.i64 (↑(List.length (Prod.snd r)) : Int)), (12, AV.int IntKind.i64 (0 : Int))]
      [AObj.cells [AV.int IntKind.i64 (Prod.fst r), AV.sl 2 (Seq.map T.encN ([], []) (Prod.snd r)) Tip.none], AObj.cells [AV.int IntKind.i64 (0 : Int), AV.sl 0 (Seq.raw []) Tip.nil],
        AObj.cells [AV.int IntKind.i64 (Prod.fst r), AV.sl 0 (Seq.raw []) Tip.nil]]
      (q76_2 0 Post) →
    ASpec Try.prog 76 [AV.agg (T.encR r)] [] Post := fun r Post h => Go.Ab.ASpec.of_vc g76 Go.Proofs.Try.func76 (by kernel_rfl) (by kernel_rfl) (by kernel_rfl) (Go.Ab.kc (by kernel_rfl) h)
theorem v76_3 : ∀ (v : Int) (acc l : List T.Need) (n i : Int) (n_1 : Nat) (Post : AV → List AObj → Prop),
  condP (decide (i < n))
      (needP ((0 : Int) ≤ i ∧ i < (↑(List.length l) : Int))
        (ASpec Try.prog 115 [AV.sl 2 (Seq.map T.encS ((0 : Int), (0 : Int)) (Prod.snd (List.getD l (Int.toNat i) ([], [])))) Tip.none]
         [AObj.cells [AV.int IntKind.i64 (0 : Int), AV.sl 0 (Seq.raw []) Tip.nil], AObj.cells [AV.int IntKind.i64 v, AV.sl 2 (Seq.map T.encN ([], []) acc) (Tip.tok 2)],
         AObj.tok,
         AObj.cells
         [AV.str { data := List.toArray (Prod.fst (List.getD l (Int.toNat i) ([], []))) },
         AV.sl 2 (Seq.map T.encS ((0 : Int), (0 : Int)) (Prod.snd (List.getD l (Int.toNat i) ([], [])))) Tip.none]]
         fun (r : AV) (H' : List AObj) =>
         ∃ (x : List T.Span),
         r = AV.sl 2 (Seq.map T.encS ((0 : Int), (0 : Int)) x) Tip.none ∧
         H' =
         [AObj.cells [AV.int IntKind.i64 (0 : Int), AV.sl 0 (Seq.raw []) Tip.nil],
         AObj.cells [AV.int IntKind.i64 v, AV.sl 2 (Seq.map T.encN ([], []) acc) (Tip.tok 2)], AObj.tok,
         AObj.cells
         [AV.str { data := List.toArray (Prod.fst (List.getD l (Int.toNat i) ([], []))) },
         AV.sl 2 (Seq.map T.encS ((0 : Int), (0 : Int)) (Prod.snd (List.getD l (Int.toNat i) ([], [])))) Tip.none]] ∧
         (AV.str { data := List.toArray (Prod.fst (List.getD l (Int.toNat i) ([], []))) } = AV.str { data := List.toArray (Prod.fst (List.getD l (Int.toNat i) ([], []))) } ∧
         [AObj.cells [AV.int IntKind.i64 (0 : Int), AV.sl 0 (Seq.raw []) Tip.nil],
         AObj.cells [AV.int IntKind.i64 v, AV.sl 2 (Seq.map T.encN ([], []) acc) (Tip.tok 2)], AObj.tok,
         AObj.cells
         [AV.str { data := List.toArray (Prod.fst (List.getD l (Int.toNat i) ([], []))) },
         AV.sl 2 (Seq.map T.encS ((0 : Int), (0 : Int)) (Prod.snd (List.getD l (Int.toNat i) ([], [])))) Tip.none]] =
         [AObj.cells [AV.int IntKind.i64 (0 : Int), AV.sl 0 (Seq.raw []) Tip.nil],
         AObj.cells [AV.int IntKind.i64 v, AV.sl 2 (Seq.map T.encN ([], []) acc) (Tip.tok 2)], AObj.tok,
         AObj.cells
         [AV.str { data := List.toArray (Prod.fst (List.getD l (Int.toNat i) ([], []))) },
         AV.sl 2 (Seq.map T.encS ((0 : Int), (0 : Int)) (Prod.snd (List.getD l (Int.toNat i) ([], [])))) Tip.none]]) ∧
         (AV.sl 2 (Seq.map T.encN ([], []) acc) (Tip.tok 2) = AV.sl 2 (Seq.map T.encN ([], []) acc) (Tip.tok 2) ∧
         [AObj.cells [AV.int IntKind.i64 (0 : Int), AV.sl 0 (Seq.raw []) Tip.nil],
         AObj.cells [AV.int IntKind.i64 v, AV.sl 2 (Seq.map T.encN ([], []) acc) (Tip.tok 2)], AObj.tok,
         AObj.cells
         [AV.str { data := List.toArray (Prod.fst (List.getD l (Int.toNat i) ([], []))) },
         AV.sl 2 (Seq.map T.encS ((0 : Int), (0 : Int)) (Prod.snd (List.getD l (Int.toNat i) ([], [])))) Tip.none]] =
         [AObj.cells [AV.int IntKind.i64 (0 : Int), AV.sl 0 (Seq.raw []) Tip.nil],
         AObj.cells [AV.int IntKind.i64 v, AV.sl 2 (Seq.map T.encN ([], []) acc) (Tip.tok 2)], AObj.tok,
         AObj.cells
         [AV.str { data := List.toArray (Prod.fst (List.getD l (Int.toNat i) ([], []))) },
         AV.sl 2 (Seq.map T.encS ((0 : Int), (0 : Int)) (Prod.snd (List.getD l (Int.toNat i) ([], [])))) Tip.none]]) ∧
         needP ((List.length acc + 1) * 40 ≤ 140737488351232)
         (AWP Try.prog 29 n_1 c76_3
         [(2, AV.ptr 0 0), (3, AV.ptr 1 0), (10, AV.sl 2 (Seq.map T.encN ([], []) l) Tip.none),
         (11, AV.int IntKind.i64 n), (12, AV.int IntKind.i64 (IntKind.wrap IntKind.i64 (i + (1 : Int))))]
         [AObj.cells [AV.int IntKind.i64 (0 : Int), AV.sl 0 (Seq.raw []) Tip.nil],
         AObj.cells
         [AV.int IntKind.i64 v,
         AV.sl 2
         (Seq.app (Seq.map T.encN ([], []) acc)
         (Seq.raw [[AV.str { data := List.toArray (Prod.fst (List.getD l (Int.toNat i) ([], []))) }, AV.sl 2 (Seq.map T.encS ((0 : Int), (0 : Int)) x) Tip.none]]))
         (Tip.tok 4)],
         AObj.gone,
         AObj.cells
         [AV.str { data := List.toArray (Prod.fst (List.getD l (Int.toNat i) ([], []))) },
         AV.sl 2 (Seq.map T.encS ((0 : Int), (0 : Int)) (Prod.snd (List.getD l (Int.toNat i) ([], [])))) Tip.none],
         AObj.tok]
         (q76_2 n_1 Post))))
      (Post (AV.agg [AV.int IntKind.i64 v, AV.sl 2 (Seq.map T.encN ([], []) acc) (Tip.tok 2)])
        [AObj.cells [AV.int IntKind.i64 v, AV.sl 2 (Seq.map T.encN ([], []) acc) (Tip.tok 2)],
         AObj.cells [AV.int IntKind.i64 v, AV.sl 2 (Seq.map T.encN ([], []) acc) (Tip.tok 2)], AObj.tok]) →
    AWP Try.prog 29 n_1 c76_3
      [(2, AV.ptr 0 0), (3, AV.ptr 1 0), (10, AV.sl 2 (Seq.map T.encN ([], []) l) Tip.none), (11, AV.int IntKind.i64 n),
        (12, AV.int IntKind.i64 i)]
      [AObj.cells [AV.int IntKind.i64 (0 : Int), AV.sl 0 (Seq.raw []) Tip.nil], AObj.cells [AV.int IntKind.i64 v, AV.sl 2 (Seq.map T.encN ([], []) acc) (Tip.tok 2)], AObj.tok]
      (q76_2 n_1 Post) := fun v acc l n i n Post h => Go.Ab.AWP.loop' g76 (Cfg.live g76) c76_3 (by kernel_rfl) (by kernel_rfl) (Go.Ab.kc (by kernel_rfl) h)

-- 59
noncomputable def l59 : Nat → List Nat
  | 3 => [2, 3, 10, 11, 12]
  | _ => []
noncomputable def u59 : Nat → Bool
  | _ => false
noncomputable def m59 : Nat → Bool
  | _ => false
noncomputable def g59 : Cfg := { N := 25, live := l59, cut := u59, mu := m59, ret := rets }
noncomputable def c59 : Go.Code := Go.Ab.bodyOf Go.Proofs.Try.f59
noncomputable def q59_0 : Nat → (AV → List AObj → Prop) → AQ := fun (n : Nat) (Post : AV → List AObj → Prop) => endQ Try.prog (resultsOf Try.f59) Post
noncomputable def q59_1 : Nat → (AV → List AObj → Prop) → AQ := fun (n : Nat) (Post : AV → List AObj → Prop) => seqQ (fun (s' : Slots) (H' : List AObj) => awp Try.prog g59 n (codeSnd (codeSnd (codeSnd c59))) s' H' (q59_0 n Post)) (q59_0 n Post)
noncomputable def q59_2 : Nat → (AV → List AObj → Prop) → AQ := fun (n : Nat) (Post : AV → List AObj → Prop) => blockQ 0 (q59_1 n Post)
noncomputable def c59_3 : Go.Code := codeFst (codeSnd (codeFst (codeSnd (codeSnd c59))))
theorem s59 : ∀ (m : T.Mani) (Post : AV → List AObj → Prop),
  AWP Try.prog 25 0 c59_3
      [(2, AV.ptr 1 0), (3, AV.ptr 2 0), (10, AV.sl 2 (Seq.map T.encR ((0 : Int), []) (Prod.snd m)) Tip.none),
        (11, AV.int IntKind.i64 (↑(List.length (Prod.snd m)) : Int)), (12, AV.int IntKind.i64 (0 : Int))]
      [AObj.cells [AV.str { data := List.toArray (Prod.fst m) }, AV.sl 2 (Seq.map T.encR ((0 : Int), []) (Prod.snd m)) Tip.none],
        AObj.cells [AV.str { data := #[] }, AV.sl 0 (Seq.raw []) Tip.nil], AObj.cells [AV.str { data := List.toArray (Prod.fst m) }, AV.sl 0 (Seq.raw []) Tip.nil]]
      (q59_2 0 Post) →
    ASpec Try.prog 59 [AV.agg (T.encM m)] [] Post := fun m Post h => Go.Ab.ASpec.of_vc g59 Go.Proofs.Try.func59 (by kernel_rfl) (by kernel_rfl) (by kernel_rfl) (Go.Ab.kc (by kernel_rfl) h)
theorem v59_3 : ∀ (s : ByteArray) (acc l : List T.Rel) (n i : Int) (n_1 : Nat) (Post : AV → List AObj → Prop),
  condP (decide (i < n))
      (needP ((0 : Int) ≤ i ∧ i < (↑(List.length l) : Int))
        (ASpec Try.prog 76
         [AV.agg
         [AV.int IntKind.i64 (Prod.fst (List.getD l (Int.toNat i) ((0 : Int), []))), AV.sl 2 (Seq.map T.encN ([], []) (Prod.snd (List.getD l (Int.toNat i) ((0 : Int), [])))) Tip.none]]
         [AObj.cells [AV.str { data := #[] }, AV.sl 0 (Seq.raw []) Tip.nil], AObj.cells [AV.str s, AV.sl 2 (Seq.map T.encR ((0 : Int), []) acc) (Tip.tok 2)], AObj.tok,
         AObj.cells
         [AV.int IntKind.i64 (Prod.fst (List.getD l (Int.toNat i) ((0 : Int), []))), AV.sl 2 (Seq.map T.encN ([], []) (Prod.snd (List.getD l (Int.toNat i) ((0 : Int), [])))) Tip.none]]
         fun (r : AV) (H' : List AObj) =>
         ∃ (x : Int × List T.Need),
         r = AV.agg [AV.int IntKind.i64 (Prod.fst x), AV.sl 2 (Seq.map T.encN ([], []) (Prod.snd x)) Tip.none] ∧
         H' =
         [AObj.cells [AV.str { data := #[] }, AV.sl 0 (Seq.raw []) Tip.nil], AObj.cells [AV.str s, AV.sl 2 (Seq.map T.encR ((0 : Int), []) acc) (Tip.tok 2)], AObj.tok,
         AObj.cells
         [AV.int IntKind.i64 (Prod.fst (List.getD l (Int.toNat i) ((0 : Int), []))),
         AV.sl 2 (Seq.map T.encN ([], []) (Prod.snd (List.getD l (Int.toNat i) ((0 : Int), [])))) Tip.none]] ∧
         (AV.sl 2 (Seq.map T.encR ((0 : Int), []) acc) (Tip.tok 2) = AV.sl 2 (Seq.map T.encR ((0 : Int), []) acc) (Tip.tok 2) ∧
         [AObj.cells [AV.str { data := #[] }, AV.sl 0 (Seq.raw []) Tip.nil], AObj.cells [AV.str s, AV.sl 2 (Seq.map T.encR ((0 : Int), []) acc) (Tip.tok 2)],
         AObj.tok,
         AObj.cells
         [AV.int IntKind.i64 (Prod.fst (List.getD l (Int.toNat i) ((0 : Int), []))),
         AV.sl 2 (Seq.map T.encN ([], []) (Prod.snd (List.getD l (Int.toNat i) ((0 : Int), [])))) Tip.none]] =
         [AObj.cells [AV.str { data := #[] }, AV.sl 0 (Seq.raw []) Tip.nil], AObj.cells [AV.str s, AV.sl 2 (Seq.map T.encR ((0 : Int), []) acc) (Tip.tok 2)],
         AObj.tok,
         AObj.cells
         [AV.int IntKind.i64 (Prod.fst (List.getD l (Int.toNat i) ((0 : Int), []))),
         AV.sl 2 (Seq.map T.encN ([], []) (Prod.snd (List.getD l (Int.toNat i) ((0 : Int), [])))) Tip.none]]) ∧
         needP ((List.length acc + 1) * 32 ≤ 140737488351232)
         (AWP Try.prog 25 n_1 c59_3
         [(2, AV.ptr 0 0), (3, AV.ptr 1 0), (10, AV.sl 2 (Seq.map T.encR ((0 : Int), []) l) Tip.none),
         (11, AV.int IntKind.i64 n), (12, AV.int IntKind.i64 (IntKind.wrap IntKind.i64 (i + (1 : Int))))]
         [AObj.cells [AV.str { data := #[] }, AV.sl 0 (Seq.raw []) Tip.nil],
         AObj.cells
         [AV.str s,
         AV.sl 2
         (Seq.app (Seq.map T.encR ((0 : Int), []) acc) (Seq.raw [[AV.int IntKind.i64 (Prod.fst x), AV.sl 2 (Seq.map T.encN ([], []) (Prod.snd x)) Tip.none]]))
         (Tip.tok 4)],
         AObj.gone,
         AObj.cells
         [AV.int IntKind.i64 (Prod.fst (List.getD l (Int.toNat i) ((0 : Int), []))),
         AV.sl 2 (Seq.map T.encN ([], []) (Prod.snd (List.getD l (Int.toNat i) ((0 : Int), [])))) Tip.none],
         AObj.tok]
         (q59_2 n_1 Post))))
      (Post (AV.agg [AV.str s, AV.sl 2 (Seq.map T.encR ((0 : Int), []) acc) (Tip.tok 2)])
        [AObj.cells [AV.str s, AV.sl 2 (Seq.map T.encR ((0 : Int), []) acc) (Tip.tok 2)],
         AObj.cells [AV.str s, AV.sl 2 (Seq.map T.encR ((0 : Int), []) acc) (Tip.tok 2)], AObj.tok]) →
    AWP Try.prog 25 n_1 c59_3
      [(2, AV.ptr 0 0), (3, AV.ptr 1 0), (10, AV.sl 2 (Seq.map T.encR ((0 : Int), []) l) Tip.none), (11, AV.int IntKind.i64 n),
        (12, AV.int IntKind.i64 i)]
      [AObj.cells [AV.str { data := #[] }, AV.sl 0 (Seq.raw []) Tip.nil], AObj.cells [AV.str s, AV.sl 2 (Seq.map T.encR ((0 : Int), []) acc) (Tip.tok 2)], AObj.tok]
      (q59_2 n_1 Post) := fun s acc l n i n Post h => Go.Ab.AWP.loop' g59 (Cfg.live g59) c59_3 (by kernel_rfl) (by kernel_rfl) (Go.Ab.kc (by kernel_rfl) h)

end
end X
end

section
/- Names as cells. -/

open Go Go.Ab Go.Proofs
namespace T
noncomputable def encL (x : List UInt8) : List AV := [.str ⟨x.toArray⟩]
end T
end

section
/- Printed: what the code of functions 8, 57, 15 asks for, by the framework's own reading of it; each line is checked against the code. -/

set_option linter.unusedVariables false
set_option maxRecDepth 100000
set_option maxHeartbeats 4000000
open Go Go.Ab Go.Proofs
namespace Dp
noncomputable section

noncomputable def retD : List (Nat × Ret) := [
  (9058, ⟨Bool, fun _ _ x => .bool x, fun _ H _ => H⟩),
  (9038, ⟨Bool, fun _ _ x => .bool x, fun _ H _ => H⟩),
  (9183, ⟨Int × Bool, fun _ _ x => .tup [.int .i64 x.1, .bool x.2], fun _ H _ => H⟩),
  (9278, ⟨Int × Bool, fun _ _ x => .tup [.int .i64 x.1, .bool x.2], fun _ H _ => H⟩),
  (9279, ⟨Int, fun _ _ x => .int .i64 x, fun _ H _ => H⟩),
  (9280, ⟨Int, fun _ _ x => .int .i64 x, fun _ H _ => H⟩),
  (9061, ⟨List UInt8, fun _ _ x => .sl 1 (.map encB 0 x) .none, fun _ H _ => H⟩),
  (9166, ⟨List UInt8, fun _ _ x => .sl 1 (.map encB 0 x) .none, fun _ H _ => H⟩),
  (9059, ⟨T.Mani × Bool, fun _ _ x => .tup [.agg (T.encM x.1), .bool x.2], fun _ H _ => H⟩),
  (57, ⟨T.Mani × Bool, fun _ _ x => .tup [.agg (T.encM x.1), .bool x.2], fun _ H _ => H⟩),
  (9060, ⟨T.Mani × Bool, fun _ _ x => .tup [.agg (T.encM x.1), .bool x.2], fun _ H _ => H⟩),
  (9064, ⟨List (List UInt8), fun _ _ x => .sl 1 (.map T.encL [] x) .none, fun _ H _ => H⟩),
  (9065, ⟨List (List UInt8), fun _ _ x => .sl 1 (.map T.encL [] x) .none, fun _ H _ => H⟩),
  (15, ⟨Bool, fun _ _ x => .bool x, fun _ H _ => H⟩),
  (9067, ⟨List T.Ent × Bool, fun _ _ x => .tup [.sl 2 (.map T.encEn ([], []) x.1) .none, .bool x.2], fun _ H _ => H⟩),
  (9068, ⟨List T.Ent × Bool, fun _ _ x => .tup [.sl 2 (.map T.encEn ([], []) x.1) .none, .bool x.2], fun _ H _ => H⟩),
  (9069, ⟨Bool, fun _ _ x => .bool x, fun _ H _ => H⟩),
  (8, ⟨Bool, fun _ _ x => .bool x, fun _ H _ => H⟩),
  (9047, ⟨ByteArray, fun _ _ x => .str x, fun _ H _ => H⟩),
  (9057, ⟨Unit, fun _ _ _ => .bool true, fun _ H _ => H⟩)]
noncomputable def rets : FuncId → List Ret := lookupR (retD ++ W.retW ++ C.retC ++ V.retL)

-- 8
noncomputable def l57 : Nat → List Nat
  | _ => []
noncomputable def u57 : Nat → Bool
  | _ => false
noncomputable def m57 : Nat → Bool
  | _ => false
noncomputable def g57 : Cfg := { N := 24, live := l57, cut := u57, mu := m57, ret := rets }
theorem s57 : ∀ (s b : List UInt8) (Post : AV → List AObj → Prop),
  (ASpec Try.prog 75 [AV.str { data := List.toArray b }] [AObj.cells [AV.str { data := #[] }, AV.sl 0 (Seq.raw []) Tip.nil]] fun (r : AV) (H' : List AObj) =>
      ∃ (x : T.Mani × Int),
        r =
         AV.tup
         [AV.agg [AV.str { data := List.toArray (Prod.fst (Prod.fst x)) }, AV.sl 2 (Seq.map T.encR ((0 : Int), []) (Prod.snd (Prod.fst x))) Tip.none], AV.int IntKind.i64 (Prod.snd x)] ∧
         H' = [AObj.cells [AV.str { data := #[] }, AV.sl 0 (Seq.raw []) Tip.nil]] ∧
         condP (Prod.snd x != (0 : Int))
         (Post (AV.tup [AV.agg [AV.str { data := List.toArray s }, AV.sl 0 (Seq.raw []) Tip.nil], AV.bool false])
         [AObj.cells [AV.str { data := List.toArray s }, AV.sl 0 (Seq.raw []) Tip.nil],
         AObj.cells [AV.str { data := List.toArray (Prod.fst (Prod.fst x)) }, AV.sl 2 (Seq.map T.encR ((0 : Int), []) (Prod.snd (Prod.fst x))) Tip.none]])
         (condP (!ByteArray.toList { data := List.toArray (Prod.fst (Prod.fst x)) } == ByteArray.toList { data := List.toArray s })
         (Post (AV.tup [AV.agg [AV.str { data := List.toArray s }, AV.sl 0 (Seq.raw []) Tip.nil], AV.bool false])
         [AObj.cells [AV.str { data := List.toArray s }, AV.sl 0 (Seq.raw []) Tip.nil],
         AObj.cells [AV.str { data := List.toArray (Prod.fst (Prod.fst x)) }, AV.sl 2 (Seq.map T.encR ((0 : Int), []) (Prod.snd (Prod.fst x))) Tip.none]])
         (Post (AV.tup [AV.agg [AV.str { data := List.toArray (Prod.fst (Prod.fst x)) }, AV.sl 2 (Seq.map T.encR ((0 : Int), []) (Prod.snd (Prod.fst x))) Tip.none], AV.bool true])
         [AObj.cells [AV.str { data := List.toArray (Prod.fst (Prod.fst x)) }, AV.sl 2 (Seq.map T.encR ((0 : Int), []) (Prod.snd (Prod.fst x))) Tip.none],
         AObj.cells [AV.str { data := List.toArray (Prod.fst (Prod.fst x)) }, AV.sl 2 (Seq.map T.encR ((0 : Int), []) (Prod.snd (Prod.fst x))) Tip.none]]))) →
    ASpec Try.prog 57 [AV.str { data := List.toArray s }, AV.str { data := List.toArray b }] [] Post := fun s b Post h => Go.Ab.ASpec.of_vc g57 Go.Proofs.Try.func57 (by kernel_rfl) (by kernel_rfl) (by kernel_rfl) (Go.Ab.kc (by kernel_rfl) h)

-- 15
end
end Dp
end

section
/- What the document's index knows, as cells. -/

open Go Go.Ab Go.Proofs
namespace T
/-- a manifest, and whether it is good -/
abbrev Kd := Mani × Bool
abbrev noKd : Kd := (([], []), false)
noncomputable def encKd (x : Kd) : List AV := [.str ⟨x.1.1.toArray⟩, .sl 2 (.map T.encR (0, []) x.1.2) .none, .bool x.2]
noncomputable def encXd (l : List Kd) : List AV := [.sl 3 (.map encKd noKd l) .none]
end T
end

section
/- Printed: what the code of functions 58, 39, 44, 38, 13, 12 asks for, by the framework's own reading of it; each line is checked against the code. -/

set_option linter.unusedVariables false
set_option maxRecDepth 100000
set_option maxHeartbeats 4000000
open Go Go.Ab Go.Proofs
namespace Xd
noncomputable section

noncomputable def addP (args : List AV) (H : List AObj) (o : AObj) : List AObj := match args with
  | .ptr id _ :: _ => H.set id o
  | _ => H
noncomputable def retXd : List (Nat × Ret) := [
  (58, ⟨Int, fun _ _ x => .int .i64 x, fun _ H _ => H⟩), (39, ⟨Bool, fun _ _ x => .bool x, fun _ H _ => H⟩), (44, ⟨T.Mani × Bool, fun _ _ x => .tup [.agg (T.encM x.1), .bool x.2], fun _ H _ => H⟩), (9222, ⟨List (List UInt8), fun _ _ x => .sl 1 (.map T.encL [] x) .none, fun _ H _ => H⟩), (9223, ⟨Bool, fun _ _ x => .bool x, fun _ H _ => H⟩), (9062, ⟨Bool, fun _ _ x => .bool x, fun _ H _ => H⟩),
  (38, ⟨Int × List T.Kd, fun _ _ x => .int .i64 x.1, fun a H x => addP a H (.cells (T.encXd x.2))⟩),
  (13, ⟨List T.Kd, fun _ _ x => .agg (T.encXd x), fun _ H _ => H⟩),
  (12, ⟨T.Kn, fun _ H _ => .ptr (H.length + 1) 0, fun _ H x => H ++ [.mp (.typed T.EK x), .cells [.map H.length]]⟩),
  (9220, ⟨T.Kn, fun _ H _ => .map H.length, fun _ H x => H ++ [.mp (.typed T.EK x)]⟩),
  (9115, ⟨T.Kn, fun _ H _ => .ptr (H.length + 1) 0, fun _ H x => H ++ [.mp (.typed T.EK x), .cells [.map H.length]]⟩),
  (9115, ⟨Unit, fun _ _ _ => .nilp, fun _ H _ => H⟩)]
noncomputable def rets : FuncId → List Ret := fun f => match lookupR retXd f with
  | [] => match X.rets f with
    | [] => Dp.rets f
    | l => l
  | l => l

-- 58
noncomputable def l58 : Nat → List Nat
  | 2 => [1, 2, 5]
  | _ => []
noncomputable def u58 : Nat → Bool
  | _ => false
noncomputable def m58 : Nat → Bool
  | _ => false
noncomputable def g58 : Cfg := { N := 23, live := l58, cut := u58, mu := m58, ret := rets }
noncomputable def c58 : Go.Code := Go.Ab.bodyOf Go.Proofs.Try.f58
noncomputable def q58_0 : Nat → (AV → List AObj → Prop) → AQ := fun (n : Nat) (Post : AV → List AObj → Prop) => endQ Try.prog (resultsOf Try.f58) Post
noncomputable def q58_1 : Nat → (AV → List AObj → Prop) → AQ := fun (n : Nat) (Post : AV → List AObj → Prop) => seqQ (fun (s' : Slots) (H' : List AObj) => awp Try.prog g58 n (codeSnd (codeSnd c58)) s' H' (q58_0 n Post)) (q58_0 n Post)
noncomputable def q58_2 : Nat → (AV → List AObj → Prop) → AQ := fun (n : Nat) (Post : AV → List AObj → Prop) => blockQ 0 (q58_1 n Post)
noncomputable def c58_2 : Go.Code := codeFst (codeSnd (codeFst (codeSnd c58)))
theorem s58 : ∀ (l : List T.Kd) (s : List UInt8) (Post : AV → List AObj → Prop),
  AWP Try.prog 23 0 c58_2 [(1, AV.str { data := List.toArray s }), (2, AV.ptr 0 0), (5, AV.int IntKind.i64 (0 : Int))]
      [AObj.cells [AV.sl 3 (Seq.map T.encKd T.noKd l) Tip.none]] (q58_2 0 Post) →
    ASpec Try.prog 58 [AV.agg (T.encXd l), AV.str { data := List.toArray s }] [] Post := fun l s Post h => Go.Ab.ASpec.of_vc g58 Go.Proofs.Try.func58 (by kernel_rfl) (by kernel_rfl) (by kernel_rfl) (Go.Ab.kc (by kernel_rfl) h)
theorem v58_2 : ∀ (l : List T.Kd) (s : List UInt8) (i : Int) (n : Nat) (Post : AV → List AObj → Prop),
  condP (decide (i < (↑(List.length l) : Int)))
      (needP ((0 : Int) ≤ i ∧ i < (↑(List.length l) : Int))
        (condP (ByteArray.toList { data := List.toArray (Prod.fst (Prod.fst (List.getD l (Int.toNat i) T.noKd))) } == ByteArray.toList { data := List.toArray s })
         (Post (AV.int IntKind.i64 i) [AObj.cells [AV.sl 3 (Seq.map T.encKd T.noKd l) Tip.none]])
         (AWP Try.prog 23 n c58_2
         [(1, AV.str { data := List.toArray s }), (2, AV.ptr 0 0), (5, AV.int IntKind.i64 (IntKind.wrap IntKind.i64 (i + (1 : Int))))]
         [AObj.cells [AV.sl 3 (Seq.map T.encKd T.noKd l) Tip.none]] (q58_2 n Post))))
      (Post (AV.int IntKind.i64 (-1 : Int)) [AObj.cells [AV.sl 3 (Seq.map T.encKd T.noKd l) Tip.none]]) →
    AWP Try.prog 23 n c58_2 [(1, AV.str { data := List.toArray s }), (2, AV.ptr 0 0), (5, AV.int IntKind.i64 i)] [AObj.cells (T.encXd l)] (q58_2 n Post) := fun l s i n Post h => Go.Ab.AWP.loop' g58 (Cfg.live g58) c58_2 (by kernel_rfl) (by kernel_rfl) (Go.Ab.kc (by kernel_rfl) h)

-- 39
noncomputable def l39 : Nat → List Nat
  | _ => []
noncomputable def u39 : Nat → Bool
  | _ => false
noncomputable def m39 : Nat → Bool
  | _ => false
noncomputable def g39 : Cfg := { N := 9, live := l39, cut := u39, mu := m39, ret := rets }
theorem s39 : ∀ (l : List T.Kd) (s : List UInt8) (Post : AV → List AObj → Prop),
  (ASpec Try.prog 58 [AV.agg [AV.sl 3 (Seq.map T.encKd T.noKd l) Tip.none], AV.str { data := List.toArray s }] [AObj.cells [AV.sl 3 (Seq.map T.encKd T.noKd l) Tip.none]]
      fun (r : AV) (H' : List AObj) =>
      ∃ (x : Int),
        r = AV.int IntKind.i64 x ∧
         H' = [AObj.cells [AV.sl 3 (Seq.map T.encKd T.noKd l) Tip.none]] ∧ Post (AV.bool (decide (x ≥ (0 : Int)))) [AObj.cells [AV.sl 3 (Seq.map T.encKd T.noKd l) Tip.none]]) →
    ASpec Try.prog 39 [AV.agg (T.encXd l), AV.str { data := List.toArray s }] [] Post := fun l s Post h => Go.Ab.ASpec.of_vc g39 Go.Proofs.Try.func39 (by kernel_rfl) (by kernel_rfl) (by kernel_rfl) (Go.Ab.kc (by kernel_rfl) h)

-- 44
noncomputable def l38 : Nat → List Nat
  | 9 => [0, 1, 7, 8, 9, 10, 11]
  | 15 => [0, 7, 8, 9, 10]
  | _ => []
noncomputable def u38 : Nat → Bool
  | 15 => true
  | _ => false
noncomputable def m38 : Nat → Bool
  | _ => false
noncomputable def g38 : Cfg := { N := 83, live := l38, cut := u38, mu := m38, ret := rets }
noncomputable def c38 : Go.Code := Go.Ab.bodyOf Go.Proofs.Try.f38
noncomputable def q38_0 : Nat → (AV → List AObj → Prop) → AQ := fun (n : Nat) (Post : AV → List AObj → Prop) => endQ Try.prog (resultsOf Try.f38) Post
noncomputable def c38_15 : Go.Code := codeSnd (codeSnd (codeSnd (codeSnd (codeSnd (codeSnd (codeSnd c38))))))
noncomputable def q38_1 : Nat → (AV → List AObj → Prop) → AQ := fun (n : Nat) (Post : AV → List AObj → Prop) => seqQ (fun (s' : Slots) (H' : List AObj) => AWP Try.prog (Cfg.N g38) n c38_15 (restrict s' (Cfg.live g38 15)) H' (q38_0 n Post)) (q38_0 n Post)
noncomputable def q38_2 : Nat → (AV → List AObj → Prop) → AQ := fun (n : Nat) (Post : AV → List AObj → Prop) => blockQ 0 (q38_1 n Post)
noncomputable def c38_9 : Go.Code := codeFst (codeSnd (codeFst (codeSnd (codeSnd (codeSnd (codeSnd (codeSnd (codeSnd c38))))))))
theorem s38 : ∀ (l : List T.Kd) (s b : List UInt8) (Post : AV → List AObj → Prop),
  (ASpec Try.prog 35 [AV.str { data := List.toArray s }] [AObj.cells [AV.sl 3 (Seq.map T.encKd T.noKd l) Tip.none]] fun (r : AV) (H' : List AObj) =>
      ∃ (x : Bool),
        r = AV.bool x ∧
         H' = [AObj.cells [AV.sl 3 (Seq.map T.encKd T.noKd l) Tip.none]] ∧
         condP (!x) (Post (AV.int IntKind.i64 (1 : Int)) [AObj.cells [AV.sl 3 (Seq.map T.encKd T.noKd l) Tip.none]])
         (condP (decide ((↑(ByteArray.size { data := List.toArray b }) : Int) > (8192 : Int)))
         (Post (AV.int IntKind.i64 (1 : Int)) [AObj.cells [AV.sl 3 (Seq.map T.encKd T.noKd l) Tip.none]])
         (ASpec Try.prog 39 [AV.agg [AV.sl 3 (Seq.map T.encKd T.noKd l) Tip.none], AV.str { data := List.toArray s }]
         [AObj.cells [AV.sl 3 (Seq.map T.encKd T.noKd l) Tip.none]] fun (r : AV) (H' : List AObj) =>
         ∃ (x : Bool),
         r = AV.bool x ∧
         H' = [AObj.cells [AV.sl 3 (Seq.map T.encKd T.noKd l) Tip.none]] ∧
         condP x (Post (AV.int IntKind.i64 (6 : Int)) [AObj.cells [AV.sl 3 (Seq.map T.encKd T.noKd l) Tip.none]])
         (ASpec Try.prog 57 [AV.str { data := List.toArray s }, AV.str { data := List.toArray b }] [AObj.cells [AV.sl 3 (Seq.map T.encKd T.noKd l) Tip.none]]
         fun (r : AV) (H' : List AObj) =>
         ∃ (x : T.Mani × Bool),
         r =
         AV.tup
         [AV.agg [AV.str { data := List.toArray (Prod.fst (Prod.fst x)) }, AV.sl 2 (Seq.map T.encR ((0 : Int), []) (Prod.snd (Prod.fst x))) Tip.none],
         AV.bool (Prod.snd x)] ∧
         H' = [AObj.cells [AV.sl 3 (Seq.map T.encKd T.noKd l) Tip.none]] ∧
         AWP Try.prog 83 1 c38_9
         [(0, AV.ptr 0 0), (1, AV.str { data := List.toArray s }), (7, AV.ptr 1 0),
         (8, AV.bool (Prod.snd x)), (9, AV.sl 0 (Seq.raw []) Tip.nil), (10, AV.bool false), (11, AV.int IntKind.i64 (0 : Int))]
         [AObj.cells [AV.sl 3 (Seq.map T.encKd T.noKd l) Tip.none],
         AObj.cells [AV.str { data := List.toArray (Prod.fst (Prod.fst x)) }, AV.sl 2 (Seq.map T.encR ((0 : Int), []) (Prod.snd (Prod.fst x))) Tip.none]]
         (q38_2 1 Post))))) →
    ASpec Try.prog 38 [AV.ptr 0 0, AV.str { data := List.toArray s }, AV.str { data := List.toArray b }] [AObj.cells (T.encXd l)] Post := fun l s b Post h => Go.Ab.ASpec.of_vc g38 Go.Proofs.Try.func38 (by kernel_rfl) (by kernel_rfl) (by kernel_rfl) (Go.Ab.kc (by kernel_rfl) h)
theorem v38_9 : ∀ (l o : List T.Kd) (s : List UInt8) (m : T.Mani) (g b : Bool) (i : Int) (n : Nat) (Post : AV → List AObj → Prop),
  condP (decide (i < (↑(List.length l) : Int)))
      (condP (!b)
        (needP ((0 : Int) ≤ i ∧ i < (↑(List.length l) : Int))
         (condP (Op.bytesLess (ByteArray.toList { data := List.toArray s }) (ByteArray.toList { data := List.toArray (Prod.fst (Prod.fst (List.getD l (Int.toNat i) T.noKd))) }))
         (needP ((List.length o + 1) * 48 ≤ 140737488351232)
         (needP ((0 : Int) ≤ i ∧ i < (↑(List.length l) : Int))
         (needP ((List.length o + 1 + 1) * 48 ≤ 140737488351232)
         (AWP Try.prog 83 n c38_9
         [(0, AV.ptr 0 0), (1, AV.str { data := List.toArray s }), (7, AV.ptr 1 0), (8, AV.bool g),
         (9,
         AV.sl 3
         (Seq.app
         (Seq.app (Seq.map T.encKd T.noKd o)
         (Seq.raw [[AV.str { data := List.toArray (Prod.fst m) }, AV.sl 2 (Seq.map T.encR ((0 : Int), []) (Prod.snd m)) Tip.none, AV.bool g]]))
         (Seq.raw
         [[AV.str { data := List.toArray (Prod.fst (Prod.fst (List.getD l (Int.toNat i) T.noKd))) },
         AV.sl 2 (Seq.map T.encR ((0 : Int), []) (Prod.snd (Prod.fst (List.getD l (Int.toNat i) T.noKd)))) Tip.none,
         AV.bool (Prod.snd (List.getD l (Int.toNat i) T.noKd))]]))
         (Tip.tok 4)),
         (10, AV.bool true), (11, AV.int IntKind.i64 (IntKind.wrap IntKind.i64 (i + (1 : Int))))]
         [AObj.cells [AV.sl 3 (Seq.map T.encKd T.noKd l) Tip.none],
         AObj.cells [AV.str { data := List.toArray (Prod.fst m) }, AV.sl 2 (Seq.map T.encR ((0 : Int), []) (Prod.snd m)) Tip.none], AObj.gone, AObj.gone, AObj.tok]
         (q38_2 n Post)))))
         (needP ((0 : Int) ≤ i ∧ i < (↑(List.length l) : Int))
         (needP ((List.length o + 1) * 48 ≤ 140737488351232)
         (AWP Try.prog 83 n c38_9
         [(0, AV.ptr 0 0), (1, AV.str { data := List.toArray s }), (7, AV.ptr 1 0), (8, AV.bool g),
         (9,
         AV.sl 3
         (Seq.app (Seq.map T.encKd T.noKd o)
         (Seq.raw
         [[AV.str { data := List.toArray (Prod.fst (Prod.fst (List.getD l (Int.toNat i) T.noKd))) },
         AV.sl 2 (Seq.map T.encR ((0 : Int), []) (Prod.snd (Prod.fst (List.getD l (Int.toNat i) T.noKd)))) Tip.none,
         AV.bool (Prod.snd (List.getD l (Int.toNat i) T.noKd))]]))
         (Tip.tok 3)),
         (10, AV.bool b), (11, AV.int IntKind.i64 (IntKind.wrap IntKind.i64 (i + (1 : Int))))]
         [AObj.cells [AV.sl 3 (Seq.map T.encKd T.noKd l) Tip.none],
         AObj.cells [AV.str { data := List.toArray (Prod.fst m) }, AV.sl 2 (Seq.map T.encR ((0 : Int), []) (Prod.snd m)) Tip.none], AObj.gone, AObj.tok]
         (q38_2 n Post))))))
        (needP ((0 : Int) ≤ i ∧ i < (↑(List.length l) : Int))
         (needP ((List.length o + 1) * 48 ≤ 140737488351232)
         (AWP Try.prog 83 n c38_9
         [(0, AV.ptr 0 0), (1, AV.str { data := List.toArray s }), (7, AV.ptr 1 0), (8, AV.bool g),
         (9,
         AV.sl 3
         (Seq.app (Seq.map T.encKd T.noKd o)
         (Seq.raw
         [[AV.str { data := List.toArray (Prod.fst (Prod.fst (List.getD l (Int.toNat i) T.noKd))) },
         AV.sl 2 (Seq.map T.encR ((0 : Int), []) (Prod.snd (Prod.fst (List.getD l (Int.toNat i) T.noKd)))) Tip.none,
         AV.bool (Prod.snd (List.getD l (Int.toNat i) T.noKd))]]))
         (Tip.tok 3)),
         (10, AV.bool b), (11, AV.int IntKind.i64 (IntKind.wrap IntKind.i64 (i + (1 : Int))))]
         [AObj.cells [AV.sl 3 (Seq.map T.encKd T.noKd l) Tip.none],
         AObj.cells [AV.str { data := List.toArray (Prod.fst m) }, AV.sl 2 (Seq.map T.encR ((0 : Int), []) (Prod.snd m)) Tip.none], AObj.gone, AObj.tok]
         (q38_2 n Post)))))
      (AWP Try.prog 83 n c38_15
        [(0, AV.ptr 0 0), (7, AV.ptr 1 0), (8, AV.bool g), (9, AV.sl 3 (Seq.map T.encKd T.noKd o) (Tip.tok 2)),
         (10, AV.bool b)]
        [AObj.cells [AV.sl 3 (Seq.map T.encKd T.noKd l) Tip.none],
         AObj.cells [AV.str { data := List.toArray (Prod.fst m) }, AV.sl 2 (Seq.map T.encR ((0 : Int), []) (Prod.snd m)) Tip.none], AObj.tok]
        (q38_0 n Post)) →
    AWP Try.prog 83 n c38_9
      [(0, AV.ptr 0 0), (1, AV.str { data := List.toArray s }), (7, AV.ptr 1 0), (8, AV.bool g),
        (9, AV.sl 3 (Seq.map T.encKd T.noKd o) (Tip.tok 2)), (10, AV.bool b), (11, AV.int IntKind.i64 i)]
      [AObj.cells (T.encXd l), AObj.cells (T.encM m), AObj.tok] (q38_2 n Post) := fun l o s m g b i n Post h => Go.Ab.AWP.loop' g38 (Cfg.live g38) c38_9 (by kernel_rfl) (by kernel_rfl) (Go.Ab.kc (by kernel_rfl) h)
theorem v38_15 : ∀ (l o : List T.Kd) (m : T.Mani) (g b : Bool) (n : Nat) (Post : AV → List AObj → Prop),
  condP (!b)
      (needP ((List.length o + 1) * 48 ≤ 140737488351232)
        (Post (AV.int IntKind.i64 (0 : Int))
         [AObj.cells
         [AV.sl 3
         (Seq.app (Seq.map T.encKd T.noKd o) (Seq.raw [[AV.str { data := List.toArray (Prod.fst m) }, AV.sl 2 (Seq.map T.encR ((0 : Int), []) (Prod.snd m)) Tip.none, AV.bool g]]))
         (Tip.tok 3)],
         AObj.cells [AV.str { data := List.toArray (Prod.fst m) }, AV.sl 2 (Seq.map T.encR ((0 : Int), []) (Prod.snd m)) Tip.none], AObj.gone, AObj.tok]))
      (Post (AV.int IntKind.i64 (0 : Int))
        [AObj.cells [AV.sl 3 (Seq.map T.encKd T.noKd o) (Tip.tok 2)],
         AObj.cells [AV.str { data := List.toArray (Prod.fst m) }, AV.sl 2 (Seq.map T.encR ((0 : Int), []) (Prod.snd m)) Tip.none], AObj.tok]) →
    AWP Try.prog 83 n c38_15
      [(0, AV.ptr 0 0), (7, AV.ptr 1 0), (8, AV.bool g), (9, AV.sl 3 (Seq.map T.encKd T.noKd o) (Tip.tok 2)),
        (10, AV.bool b)]
      [AObj.cells (T.encXd l), AObj.cells (T.encM m), AObj.tok] (q38_0 n Post) := fun l o m g b n Post h => Go.Ab.awp_sound g38 n _ _ _ _ (Go.Ab.kc (by kernel_rfl) h)

-- 13
noncomputable def l13 : Nat → List Nat
  | 3 => [0, 2, 3, 4]
  | _ => []
noncomputable def u13 : Nat → Bool
  | _ => false
noncomputable def m13 : Nat → Bool
  | _ => false
noncomputable def g13 : Cfg := { N := 25, live := l13, cut := u13, mu := m13, ret := rets }
noncomputable def c13 : Go.Code := Go.Ab.bodyOf Go.Proofs.Try.f13
noncomputable def q13_0 : Nat → (AV → List AObj → Prop) → AQ := fun (n : Nat) (Post : AV → List AObj → Prop) => endQ Try.prog (resultsOf Try.f13) Post
noncomputable def q13_1 : Nat → (AV → List AObj → Prop) → AQ := fun (n : Nat) (Post : AV → List AObj → Prop) => seqQ (fun (s' : Slots) (H' : List AObj) => awp Try.prog g13 n (codeSnd (codeSnd (codeSnd c13))) s' H' (q13_0 n Post)) (q13_0 n Post)
noncomputable def q13_2 : Nat → (AV → List AObj → Prop) → AQ := fun (n : Nat) (Post : AV → List AObj → Prop) => blockQ 0 (q13_1 n Post)
noncomputable def c13_3 : Go.Code := codeFst (codeSnd (codeFst (codeSnd (codeSnd c13))))
theorem s13 : ∀ (e : List T.Ent) (Post : AV → List AObj → Prop),
  AWP Try.prog 25 0 c13_3
      [(0, AV.sl 2 (Seq.map T.encEn ([], []) e) Tip.none), (2, AV.ptr 0 0), (3, AV.ptr 1 0), (4, AV.int IntKind.i64 (0 : Int))]
      [AObj.cells [AV.sl 0 (Seq.raw []) Tip.nil], AObj.cells [AV.sl 0 (Seq.raw []) Tip.nil]] (q13_2 0 Post) →
    ASpec Try.prog 13 [AV.sl 2 (Seq.map T.encEn ([], []) e) Tip.none] [] Post := fun e Post h => Go.Ab.ASpec.of_vc g13 Go.Proofs.Try.func13 (by kernel_rfl) (by kernel_rfl) (by kernel_rfl) (Go.Ab.kc (by kernel_rfl) h)
theorem v13_3 : ∀ (e : List T.Ent) (l : List T.Kd) (i : Int) (n : Nat) (Post : AV → List AObj → Prop),
  condP (decide (i < (↑(List.length e) : Int)))
      (needP ((0 : Int) ≤ i ∧ i < (↑(List.length e) : Int))
        (needP ((0 : Int) ≤ i ∧ i < (↑(List.length e) : Int))
         (needP (allBytes (Seq.map encB (0 : UInt8) (Prod.snd (List.getD e (Int.toNat i) ([], [])))))
         (ASpec Try.prog 38
         [AV.ptr 1 0, AV.str { data := List.toArray (Prod.fst (List.getD e (Int.toNat i) ([], []))) },
         AV.str (bytesOf (Seq.map encB (0 : UInt8) (Prod.snd (List.getD e (Int.toNat i) ([], [])))))]
         [AObj.cells [AV.sl 0 (Seq.raw []) Tip.nil], AObj.cells [AV.sl 3 (Seq.map T.encKd T.noKd l) Tip.none]] fun (r : AV) (H' : List AObj) =>
         ∃ (x : Int × List T.Kd),
         r = AV.int IntKind.i64 (Prod.fst x) ∧
         H' = [AObj.cells [AV.sl 0 (Seq.raw []) Tip.nil], AObj.cells [AV.sl 3 (Seq.map T.encKd T.noKd (Prod.snd x)) Tip.none]] ∧
         AWP Try.prog 25 n c13_3
         [(0, AV.sl 2 (Seq.map T.encEn ([], []) e) Tip.none), (2, AV.ptr 0 0), (3, AV.ptr 1 0),
         (4, AV.int IntKind.i64 (IntKind.wrap IntKind.i64 (i + (1 : Int))))]
         [AObj.cells [AV.sl 0 (Seq.raw []) Tip.nil], AObj.cells [AV.sl 3 (Seq.map T.encKd T.noKd (Prod.snd x)) Tip.none]] (q13_2 n Post)))))
      (Post (AV.agg [AV.sl 3 (Seq.map T.encKd T.noKd l) Tip.none])
        [AObj.cells [AV.sl 3 (Seq.map T.encKd T.noKd l) Tip.none], AObj.cells [AV.sl 3 (Seq.map T.encKd T.noKd l) Tip.none]]) →
    AWP Try.prog 25 n c13_3
      [(0, AV.sl 2 (Seq.map T.encEn ([], []) e) Tip.none), (2, AV.ptr 0 0), (3, AV.ptr 1 0), (4, AV.int IntKind.i64 i)]
      [AObj.cells [AV.sl 0 (Seq.raw []) Tip.nil], AObj.cells (T.encXd l)] (q13_2 n Post) := fun e l i n Post h => Go.Ab.AWP.loop' g13 (Cfg.live g13) c13_3 (by kernel_rfl) (by kernel_rfl) (Go.Ab.kc (by kernel_rfl) h)

-- 12
noncomputable def l12 : Nat → List Nat
  | 3 => [3, 7, 8, 9]
  | _ => []
noncomputable def u12 : Nat → Bool
  | _ => false
noncomputable def m12 : Nat → Bool
  | _ => false
noncomputable def g12 : Cfg := { N := 21, live := l12, cut := u12, mu := m12, ret := rets }
noncomputable def c12 : Go.Code := Go.Ab.bodyOf Go.Proofs.Try.f12
noncomputable def q12_0 : Nat → (AV → List AObj → Prop) → AQ := fun (n : Nat) (Post : AV → List AObj → Prop) => endQ Try.prog (resultsOf Try.f12) Post
noncomputable def q12_1 : Nat → (AV → List AObj → Prop) → AQ := fun (n : Nat) (Post : AV → List AObj → Prop) => seqQ (fun (s' : Slots) (H' : List AObj) => awp Try.prog g12 n (codeSnd (codeSnd (codeSnd c12))) s' H' (q12_0 n Post)) (q12_0 n Post)
noncomputable def q12_2 : Nat → (AV → List AObj → Prop) → AQ := fun (n : Nat) (Post : AV → List AObj → Prop) => blockQ 0 (q12_1 n Post)
noncomputable def c12_3 : Go.Code := codeFst (codeSnd (codeFst (codeSnd (codeSnd c12))))
theorem s12 : ∀ (e : List T.Ent) (Post : AV → List AObj → Prop),
  (ASpec Try.prog 37 [] [] fun (r : AV) (H' : List AObj) =>
      ∃ (x : Unit),
        r = AV.ptr 1 0 ∧
         H' = [AObj.mp (MM.typed T.EK []), AObj.cells [AV.map 0]] ∧
         AWP Try.prog 21 0 c12_3
         [(3, AV.ptr 1 0), (7, AV.sl 2 (Seq.map T.encEn ([], []) e) Tip.none), (8, AV.int IntKind.i64 (↑(List.length e) : Int)),
         (9, AV.int IntKind.i64 (0 : Int))]
         [AObj.mp (MM.typed T.EK []), AObj.cells [AV.map 0]] (q12_2 0 Post)) →
    ASpec Try.prog 12 [AV.sl 2 (Seq.map T.encEn ([], []) e) Tip.none] [] Post := fun e Post h => Go.Ab.ASpec.of_vc g12 Go.Proofs.Try.func12 (by kernel_rfl) (by kernel_rfl) (by kernel_rfl) (Go.Ab.kc (by kernel_rfl) h)
theorem v12_3 : ∀ (e : List T.Ent) (es : T.Kn) (n i : Int) (n_1 : Nat) (Post : AV → List AObj → Prop),
  condP (decide (i < n))
      (needP ((0 : Int) ≤ i ∧ i < (↑(List.length e) : Int))
        (ASpec Try.prog 20
         [AV.ptr 1 0, AV.str { data := List.toArray (Prod.fst (List.getD e (Int.toNat i) ([], []))) },
         AV.sl 1 (Seq.map encB (0 : UInt8) (Prod.snd (List.getD e (Int.toNat i) ([], [])))) Tip.none]
         [AObj.mp (MM.typed T.EK es), AObj.cells [AV.map 0],
         AObj.cells
         [AV.str { data := List.toArray (Prod.fst (List.getD e (Int.toNat i) ([], []))) }, AV.sl 1 (Seq.map encB (0 : UInt8) (Prod.snd (List.getD e (Int.toNat i) ([], [])))) Tip.none]]
         fun (r : AV) (H' : List AObj) =>
         ∃ (x : Int × T.Kn),
         r = AV.int IntKind.i64 (Prod.fst x) ∧
         H' =
         [AObj.mp (MM.typed T.EK (Prod.snd x)), AObj.cells [AV.map 0],
         AObj.cells
         [AV.str { data := List.toArray (Prod.fst (List.getD e (Int.toNat i) ([], []))) },
         AV.sl 1 (Seq.map encB (0 : UInt8) (Prod.snd (List.getD e (Int.toNat i) ([], [])))) Tip.none]] ∧
         AWP Try.prog 21 n_1 c12_3
         [(3, AV.ptr 1 0), (7, AV.sl 2 (Seq.map T.encEn ([], []) e) Tip.none), (8, AV.int IntKind.i64 n),
         (9, AV.int IntKind.i64 (IntKind.wrap IntKind.i64 (i + (1 : Int))))]
         [AObj.mp (MM.typed T.EK (Prod.snd x)), AObj.cells [AV.map 0],
         AObj.cells
         [AV.str { data := List.toArray (Prod.fst (List.getD e (Int.toNat i) ([], []))) },
         AV.sl 1 (Seq.map encB (0 : UInt8) (Prod.snd (List.getD e (Int.toNat i) ([], [])))) Tip.none]]
         (q12_2 n_1 Post)))
      (Post (AV.ptr 1 0) [AObj.mp (MM.typed T.EK es), AObj.cells [AV.map 0]]) →
    AWP Try.prog 21 n_1 c12_3
      [(3, AV.ptr 1 0), (7, AV.sl 2 (Seq.map T.encEn ([], []) e) Tip.none), (8, AV.int IntKind.i64 n), (9, AV.int IntKind.i64 i)] (T.HX es)
      (q12_2 n_1 Post) := fun e es n i n Post h => Go.Ab.AWP.loop' g12 (Cfg.live g12) c12_3 (by kernel_rfl) (by kernel_rfl) (Go.Ab.kc (by kernel_rfl) h)

end
end Xd
end

section
/- Printed: what the code of functions 21, 45, 17, 14, 22, 11, 3, 4 asks for, by the framework's own reading of it; each line is checked against the code. -/

set_option linter.unusedVariables false
set_option maxRecDepth 100000
set_option maxHeartbeats 4000000
open Go Go.Ab Go.Proofs
namespace Rr
noncomputable section

noncomputable def retRr : List (Nat × Ret) := [
  (16, ⟨List (List UInt8), fun _ _ x => .sl 1 (.map T.encL [] x) .none, fun _ H _ => H⟩),
  (18, ⟨List (List UInt8), fun _ _ x => .sl 1 (.map T.encL [] x) .none, fun _ H _ => H⟩),
  (14, ⟨List (List UInt8), fun _ _ x => .sl 1 (.map T.encL [] x) .none, fun _ H _ => H⟩),
  (17, ⟨List (List UInt8), fun _ _ x => .sl 1 (.map T.encL [] x) .none, fun _ H _ => H⟩),
  (21, ⟨List (List UInt8), fun _ _ x => .sl 1 (.map T.encL [] x) .none, fun _ H _ => H⟩),
  (45, ⟨List (List UInt8), fun _ _ x => .sl 1 (.map T.encL [] x) .none, fun _ H _ => H⟩),
  (19, ⟨Bool, fun _ _ x => .bool x, fun _ H _ => H⟩),
  (22, ⟨Bool, fun _ _ x => .bool x, fun _ H _ => H⟩),
  (11, ⟨Unit, fun _ _ _ => .bool true, fun _ H _ => H⟩)]
noncomputable def rets : FuncId → List Ret := fun f => match lookupR retRr f with
  | [] => Xd.rets f
  | l => l

-- 21
end
end Rr
end

section
/- Lists of names, and what is asked of want, as cells. -/

open Go Go.Ab Go.Proofs
namespace T
noncomputable def encLs (x : List (List UInt8)) : List AV := [.sl 1 (.map T.encL [] x) .none]
end T
end

section
/- Printed: what the code of functions 25, 26, 49, 27, 65, 28, 50, 66, 23, 24, 5, 6 asks for, by the framework's own reading of it; each line is checked against the code. -/

set_option linter.unusedVariables false
set_option maxRecDepth 100000
set_option maxHeartbeats 4000000
open Go Go.Ab Go.Proofs
namespace Wn
noncomputable section

noncomputable def retWn : List (Nat × Ret) := [
  (25, ⟨List (List UInt8), fun _ _ x => .sl 1 (.map T.encL [] x) .none, fun _ H _ => H⟩),
  (26, ⟨List (List UInt8), fun _ _ x => .sl 1 (.map T.encL [] x) .none, fun _ H _ => H⟩),
  (27, ⟨List (List UInt8), fun _ _ x => .sl 1 (.map T.encL [] x) .none, fun _ H _ => H⟩),
  (28, ⟨List (List UInt8), fun _ _ x => .sl 1 (.map T.encL [] x) .none, fun _ H _ => H⟩),
  (50, ⟨Bool, fun _ _ x => .bool x, fun _ H _ => H⟩),
  (23, ⟨Bool, fun _ _ x => .bool x, fun _ H _ => H⟩),
  (66, ⟨Int, fun _ _ x => .int .i64 x, fun _ H _ => H⟩),
  (47, ⟨Bool, fun _ _ x => .bool x, fun _ H _ => H⟩),
  (35, ⟨Bool, fun _ _ x => .bool x, fun _ H _ => H⟩),
  (49, ⟨Unit, fun _ H _ => .fn 65 [.ptr H.length 0], fun a H _ => H ++ [.cells [a.getD 0 .bad]]⟩),
  (yieldKey, ⟨Unit, fun _ _ _ => .bool true, fun _ H _ => H⟩),
  (yieldKey, ⟨List (List UInt8), fun _ _ _ => .bool true, fun _ H x => ((H.set 3 .gone).set 0 (.cells [.sl 1 (.map T.encL [] x) (.tok H.length)])) ++ [.tok]⟩),
  (24, ⟨Unit, fun _ _ _ => .bool true, fun _ H _ => H⟩)]
noncomputable def rets : FuncId → List Ret := fun f => match lookupR retWn f with
  | [] => Rr.rets f
  | l => l

-- 25
noncomputable def m25 : Nat → Bool
  | _ => false
noncomputable def l27 : Nat → List Nat
  | 4 => [3, 7]
  | 6 => [3]
  | _ => []
noncomputable def u27 : Nat → Bool
  | 6 => true
  | _ => false
noncomputable def m27 : Nat → Bool
  | _ => false
noncomputable def g27r : Cfg := { N := 17, live := l27, cut := u27, mu := m27, ret := rets, rnd := true }
noncomputable def c27 : Go.Code := Go.Ab.bodyOf Go.Proofs.Try.f27
noncomputable def c27_4 : Go.Code := codeFst (codeFst (codeSnd (codeFst (codeSnd (codeSnd c27)))))
noncomputable def c27_4a : Go.Code := codeAsg (codeFst (codeSnd (codeFst (codeSnd (codeSnd c27)))))
theorem v27_4 : ∀ (v : List (List (List UInt8))) (r : List (List UInt8)) (s : List UInt8) (o o' : AObj) (n : Nat) (Post : AV → List AObj → Prop) (Qr : AQ),
  needP (o = o)
      (ASpec Try.prog 50 [AV.sl 1 (Seq.map T.encL [] r) (Tip.tok 3), AV.str { data := List.toArray s }]
        [AObj.cells [AV.sl 1 (Seq.map T.encL [] r) (Tip.tok 3)], AObj.cells [AV.sl 1 (Seq.map T.encLs [] v) Tip.none], o', AObj.tok] fun (r_1 : AV) (H' : List AObj) =>
        ∃ (x : Bool),
         r_1 = AV.bool x ∧
         H' = [AObj.cells [AV.sl 1 (Seq.map T.encL [] r) (Tip.tok 3)], AObj.cells [AV.sl 1 (Seq.map T.encLs [] v) Tip.none], o', AObj.tok] ∧
         condP (!x)
         (needP ((List.length r + 1) * 16 ≤ 140737488351232)
         (Qr Exit.normal
         [(15, AV.sl 1 (Seq.app (Seq.map T.encL [] r) (Seq.raw [[AV.str { data := List.toArray s }]])) (Tip.tok 4)),
         (14, AV.sl 1 (Seq.raw [[AV.str { data := List.toArray s }]]) Tip.full), (13, AV.str { data := List.toArray s }),
         (12, AV.sl 1 (Seq.map T.encL [] r) (Tip.tok 3)), (11, AV.bool !x), (10, AV.bool x), (9, AV.str { data := List.toArray s }),
         (8, AV.sl 1 (Seq.map T.encL [] r) (Tip.tok 3)), (4, AV.str { data := List.toArray s }), (3, AV.ptr 0 0),
         (7, AV.str { data := List.toArray s })]
         [AObj.cells [AV.sl 1 (Seq.app (Seq.map T.encL [] r) (Seq.raw [[AV.str { data := List.toArray s }]])) (Tip.tok 4)],
         AObj.cells [AV.sl 1 (Seq.map T.encLs [] v) Tip.none], o', AObj.gone, AObj.tok]))
         (Qr Exit.normal
         [(11, AV.bool !x), (10, AV.bool x), (9, AV.str { data := List.toArray s }), (8, AV.sl 1 (Seq.map T.encL [] r) (Tip.tok 3)),
         (4, AV.str { data := List.toArray s }), (3, AV.ptr 0 0), (7, AV.str { data := List.toArray s })]
         [AObj.cells [AV.sl 1 (Seq.map T.encL [] r) (Tip.tok 3)], AObj.cells [AV.sl 1 (Seq.map T.encLs [] v) Tip.none], o', AObj.tok])) →
    ARound Try.prog 17 n 2 o o' c27_4a c27_4 [(3, AV.ptr 0 0), (7, AV.str { data := List.toArray s })]
      [AObj.cells [AV.sl 1 (Seq.map T.encL [] r) (Tip.tok 3)], AObj.cells [AV.sl 1 (Seq.map T.encLs [] v) Tip.none], o, AObj.tok] Qr := fun v r s o o' n Post Qr h => Go.Ab.ARound.of g27r n 2 o o' (by kernel_rfl) _ _ _ _ _ (Go.Ab.kc (by kernel_rfl) h)
noncomputable def l50 : Nat → List Nat
  | _ => []
noncomputable def u50 : Nat → Bool
  | _ => false
noncomputable def m50 : Nat → Bool
  | _ => false
noncomputable def g50 : Cfg := { N := 9, live := l50, cut := u50, mu := m50, ret := rets }
theorem s50 : ∀ (o : List (List UInt8)) (s : List UInt8) (Post : AV → List AObj → Prop),
  (ASpec Try.prog 66 [AV.sl 1 (Seq.map T.encL [] o) Tip.none, AV.str { data := List.toArray s }] [] fun (r : AV) (H' : List AObj) =>
      ∃ (x : Int), r = AV.int IntKind.i64 x ∧ H' = [] ∧ Post (AV.bool (decide (x ≥ (0 : Int)))) []) →
    ASpec Try.prog 50 [AV.sl 1 (Seq.map T.encL [] o) Tip.none, AV.str { data := List.toArray s }] [] Post := fun o s Post h => Go.Ab.ASpec.of_vc g50 Go.Proofs.Try.func50 (by kernel_rfl) (by kernel_rfl) (by kernel_rfl) (Go.Ab.kc (by kernel_rfl) h)

-- 66
noncomputable def l66 : Nat → List Nat
  | 2 => [0, 1, 7, 8]
  | _ => []
noncomputable def u66 : Nat → Bool
  | _ => false
noncomputable def m66 : Nat → Bool
  | _ => false
noncomputable def g66 : Cfg := { N := 19, live := l66, cut := u66, mu := m66, ret := rets }
noncomputable def c66 : Go.Code := Go.Ab.bodyOf Go.Proofs.Try.f66
noncomputable def q66_0 : Nat → (AV → List AObj → Prop) → AQ := fun (n : Nat) (Post : AV → List AObj → Prop) => endQ Try.prog (resultsOf Try.f66) Post
noncomputable def q66_1 : Nat → (AV → List AObj → Prop) → AQ := fun (n : Nat) (Post : AV → List AObj → Prop) => seqQ (fun (s' : Slots) (H' : List AObj) => awp Try.prog g66 n (codeSnd (codeSnd c66)) s' H' (q66_0 n Post)) (q66_0 n Post)
noncomputable def q66_2 : Nat → (AV → List AObj → Prop) → AQ := fun (n : Nat) (Post : AV → List AObj → Prop) => blockQ 0 (q66_1 n Post)
noncomputable def c66_2 : Go.Code := codeFst (codeSnd (codeFst (codeSnd c66)))
theorem s66 : ∀ (o : List (List UInt8)) (s : List UInt8) (Post : AV → List AObj → Prop),
  AWP Try.prog 19 0 c66_2
      [(0, AV.sl 1 (Seq.map T.encL [] o) Tip.none), (1, AV.str { data := List.toArray s }), (7, AV.int IntKind.i64 (↑(List.length o) : Int)),
        (8, AV.int IntKind.i64 (0 : Int))]
      [] (q66_2 0 Post) →
    ASpec Try.prog 66 [AV.sl 1 (Seq.map T.encL [] o) Tip.none, AV.str { data := List.toArray s }] [] Post := fun o s Post h => Go.Ab.ASpec.of_vc g66 Go.Proofs.Try.func66 (by kernel_rfl) (by kernel_rfl) (by kernel_rfl) (Go.Ab.kc (by kernel_rfl) h)
theorem v66_2 : ∀ (o : List (List UInt8)) (s : List UInt8) (n i : Int) (n_1 : Nat) (Post : AV → List AObj → Prop),
  condP (decide (i < n))
      (needP ((0 : Int) ≤ i ∧ i < (↑(List.length o) : Int))
        (condP (ByteArray.toList { data := List.toArray s } == ByteArray.toList { data := List.toArray (List.getD o (Int.toNat i) []) }) (Post (AV.int IntKind.i64 i) [])
         (AWP Try.prog 19 n_1 c66_2
         [(0, AV.sl 1 (Seq.map T.encL [] o) Tip.none), (1, AV.str { data := List.toArray s }), (7, AV.int IntKind.i64 n),
         (8, AV.int IntKind.i64 (IntKind.wrap IntKind.i64 (i + (1 : Int))))]
         [] (q66_2 n_1 Post))))
      (Post (AV.int IntKind.i64 (-1 : Int)) []) →
    AWP Try.prog 19 n_1 c66_2
      [(0, AV.sl 1 (Seq.map T.encL [] o) Tip.none), (1, AV.str { data := List.toArray s }), (7, AV.int IntKind.i64 n), (8, AV.int IntKind.i64 i)] []
      (q66_2 n_1 Post) := fun o s n i n Post h => Go.Ab.AWP.loop' g66 (Cfg.live g66) c66_2 (by kernel_rfl) (by kernel_rfl) (Go.Ab.kc (by kernel_rfl) h)

-- 23
end
end Wn
end

section
/- Names seen, as a map's values. -/

open Go Go.Ab Go.Proofs
namespace T
noncomputable def EB : Enc Bool := Enc.one (fun b => .bool b)
/-- the names that were seen -/
def seenM (o : List (List UInt8)) : List (ByteArray × Bool) := o.map fun x => (⟨x.toArray⟩, true)
end T
end

section
/- Printed: what the code of functions 41, 29, 42, 40, 16, 18, 62, 46, 19 asks for, by the framework's own reading of it; each line is checked against the code. -/

set_option linter.unusedVariables false
set_option maxRecDepth 100000
set_option maxHeartbeats 4000000
open Go Go.Ab Go.Proofs
namespace Rc
noncomputable section

noncomputable def goneC (H : List AObj) (c : Nat) : List AObj := match H[c]? with
  | some (.cells [.sl _ _ (.tok k)]) => H.set k .gone
  | some (.cells [.msl _ k _ _]) => H.set k .gone
  | _ => H
noncomputable def noteH (args : List AV) (H : List AObj) (x : List (List UInt8) × List (List UInt8)) : List AObj := match args with
  | [_, .ptr c1 _, .ptr c2 _, .ptr c3 _] => match H[c1]? with
    | some (.cells [.map q]) => ((((goneC (goneC H c2) c3).set q (.mp (.typed T.EB (T.seenM x.2)))).set c2 (.cells [.sl 1 (.map T.encL [] x.1) (.tok H.length)])).set c3 (.cells [.msl 1 (H.length + 1) 0 x.2.length])) ++ [.tok, .arr 1 (.map T.encL [] x.2)]
    | _ => H
  | _ => H
noncomputable def addH (args : List AV) (H : List AObj) (o : AObj) : List AObj := match args with
  | .msl _ id _ _ :: _ => H.set id o
  | _ => H
noncomputable def goneA (args : List AV) (H : List AObj) : List AObj := addH args H .gone
noncomputable def retRc : List (Nat × Ret) := [
  (40, ⟨Unit, fun _ _ _ => .tup [], fun _ H _ => H⟩), (40, ⟨List (List UInt8) × List (List UInt8), fun _ _ _ => .tup [], noteH⟩),
  (42, ⟨List (List UInt8), fun _ _ x => .sl 1 (.map T.encL [] x) .none, fun _ H _ => H⟩),
  (43, ⟨Unit, fun _ _ _ => .tup [], fun _ H _ => H⟩), (43, ⟨List (List UInt8), fun _ _ _ => .tup [], fun a H x => addH a H (.arr 1 (.map T.encL [] x))⟩),
  (16, ⟨Unit, fun _ _ _ => .sl 0 (.raw []) .nil, fun _ H _ => H⟩),
  (16, ⟨List (List UInt8), fun _ H x => .msl 1 H.length 0 x.length, fun _ H x => H ++ [.arr 1 (.map T.encL [] x)]⟩),
  (62, ⟨Int, fun _ _ x => .int .i64 x, fun _ H _ => H⟩),
  (46, ⟨List (List UInt8), fun _ _ x => .sl 1 (.map T.encL [] x) .none, fun a H _ => goneA a H⟩),
  (18, ⟨List (List UInt8), fun _ _ x => .sl 1 (.map T.encL [] x) .none, fun _ H _ => H⟩),
  (19, ⟨Bool, fun _ _ x => .bool x, fun _ H _ => H⟩)]
noncomputable def rets : FuncId → List Ret := fun f => match lookupR retRc f with
  | [] => X.rets f
  | l => l

-- 41
end
end Rc
end

section
/- Terms, and a trail's entries, as cells. -/

open Go Go.Ab Go.Proofs
namespace T
/-- name, places, none -/
abbrev Term := List UInt8 × List Span × Bool
noncomputable def encT (x : Term) : List AV := [.str ⟨x.1.toArray⟩, .sl 2 (.map encS (0, 0) x.2.1) .none, .bool x.2.2]
end T
end

section
/- A trail as an object; what is done to it. -/

open Go Go.Ab Go.Proofs V
namespace T
end T
end

section
/- Picks as cells. -/

open Go Go.Ab Go.Proofs
namespace T
/-- a name and a version -/
abbrev Pk := List UInt8 × Int
abbrev noPk : Pk := ([], 0)
noncomputable def encPk (x : Pk) : List AV := [.str ⟨x.1.toArray⟩, .int .i64 x.2]
end T
end

section
/- Printed: what the code of functions 72 asks for, by the framework's own reading of it; each line is checked against the code. -/

set_option linter.unusedVariables false
set_option maxRecDepth 100000
set_option maxHeartbeats 4000000
open Go Go.Ab Go.Proofs
namespace In
noncomputable section

noncomputable def rowId : List AV → Nat
  | .msl _ id _ _ :: _ => id
  | _ => 0
noncomputable def retI : List (Nat × Ret) := [
  (9290, ⟨List T.Pk, fun _ H x => .msl 2 H.length 0 x.length, fun _ H x => H ++ [.arr 2 (.map T.encPk T.noPk x)]⟩),
  (72, ⟨Int, fun _ _ x => .int .i64 x, fun _ H _ => H⟩),
  (9292, ⟨List T.Pk, fun _ _ x => .sl 2 (.map T.encPk T.noPk x) .none, fun a H _ => H.set (rowId a) .gone⟩)]
noncomputable def rets : FuncId → List Ret := lookupR (retI ++ C.retC ++ V.retL)

-- 72
noncomputable def l72 : Nat → List Nat
  | 2 => [0, 1, 5, 6]
  | _ => []
noncomputable def u72 : Nat → Bool
  | 2 => true
  | _ => false
noncomputable def m72 : Nat → Bool
  | _ => false
noncomputable def g72 : Cfg := { N := 28, live := l72, cut := u72, mu := m72, ret := rets }
noncomputable def c72 : Go.Code := Go.Ab.bodyOf Go.Proofs.Try.f72
noncomputable def q72_0 : Nat → (AV → List AObj → Prop) → AQ := fun (n : Nat) (Post : AV → List AObj → Prop) => endQ Try.prog (resultsOf Try.f72) Post
noncomputable def q72_1 : Nat → (AV → List AObj → Prop) → AQ := fun (n : Nat) (Post : AV → List AObj → Prop) => scopeQ Try.prog g72 n (codeFst (codeSnd c72)) (q72_0 n Post)
noncomputable def c72_2 : Go.Code := codeSnd (codeSnd (codeFst (codeSnd c72)))
theorem s72v : ∀ (s : List T.Pk) (x : List UInt8) (Post : AV → List AObj → Prop),
  AWP Try.prog 28 0 c72_2
      [(0, AV.sl 2 (Seq.map T.encPk T.noPk s) Tip.none), (1, AV.str { data := List.toArray x }), (5, AV.int IntKind.i64 (0 : Int)),
        (6, AV.int IntKind.i64 (↑(List.length s) : Int))]
      [] (q72_1 0 Post) →
    ASpec Try.prog 72 [AV.sl 2 (Seq.map T.encPk T.noPk s) Tip.none, AV.str { data := List.toArray x }] [] Post := fun s x Post h => Go.Ab.ASpec.of_vc g72 Go.Proofs.Try.func72 (by kernel_rfl) (by kernel_rfl) (by kernel_rfl) (Go.Ab.kc (by kernel_rfl) h)
theorem v72_2v : ∀ (s : List T.Pk) (x : List UInt8) (lo hi : Int) (n : Nat) (Post : AV → List AObj → Prop),
  condP (lo == hi) (Post (AV.int IntKind.i64 lo) [])
      (needP ((2 : Int) ≠ (0 : Int))
        (needP
         ((0 : Int) ≤ IntKind.wrap IntKind.i64 (Int.tdiv (IntKind.wrap IntKind.i64 (lo + hi)) (2 : Int)) ∧
         IntKind.wrap IntKind.i64 (Int.tdiv (IntKind.wrap IntKind.i64 (lo + hi)) (2 : Int)) < (↑(List.length s) : Int))
         (condP
         (Op.bytesLess (ByteArray.toList { data := List.toArray (Prod.fst (List.getD s (Int.toNat (IntKind.wrap IntKind.i64 (Int.tdiv (IntKind.wrap IntKind.i64 (lo + hi)) (2 : Int)))) T.noPk)) })
         (ByteArray.toList { data := List.toArray x }))
         (AWPS Try.prog 28 n (codeFst (codeSnd c72)) (Code.seq Code.skip c72_2)
         [(0, AV.sl 2 (Seq.map T.encPk T.noPk s) Tip.none), (1, AV.str { data := List.toArray x }),
         (5, AV.int IntKind.i64 (IntKind.wrap IntKind.i64 (IntKind.wrap IntKind.i64 (Int.tdiv (IntKind.wrap IntKind.i64 (lo + hi)) (2 : Int)) + (1 : Int)))),
         (6, AV.int IntKind.i64 hi)]
         [] (q72_0 n Post))
         (AWPS Try.prog 28 n (codeFst (codeSnd c72)) (Code.seq Code.skip c72_2)
         [(0, AV.sl 2 (Seq.map T.encPk T.noPk s) Tip.none), (1, AV.str { data := List.toArray x }), (5, AV.int IntKind.i64 lo),
         (6, AV.int IntKind.i64 (IntKind.wrap IntKind.i64 (Int.tdiv (IntKind.wrap IntKind.i64 (lo + hi)) (2 : Int))))]
         [] (q72_0 n Post))))) →
    AWP Try.prog 28 n c72_2
      [(0, AV.sl 2 (Seq.map T.encPk T.noPk s) Tip.none), (1, AV.str { data := List.toArray x }), (5, AV.int IntKind.i64 lo), (6, AV.int IntKind.i64 hi)] []
      (q72_1 n Post) := fun s x lo hi n Post h => Go.Ab.awp_sound g72 n _ _ _ _ (Go.Ab.kc (by kernel_rfl) h)

end
end In
end

section
/- Printed: what the code of functions 63, 56, 47, 109, 74, 55, 35 asks for, by the framework's own reading of it; each line is checked against the code. -/

set_option linter.unusedVariables false
set_option maxRecDepth 100000
set_option maxHeartbeats 4000000
open Go Go.Ab Go.Proofs
namespace S
noncomputable section

noncomputable def retS : List (Nat × Ret) := [
  (18032, ⟨Unit, fun _ _ _ => .bool true, fun _ H _ => H⟩),
  (18033, ⟨ByteArray × List UInt8 × Int, fun _ _ x => .tup [.str x.1, .sl 1 (.map encB 0 x.2.1) .none, .int .i64 x.2.2], fun _ H _ => H⟩),
  (9045, ⟨ByteArray × ByteArray × Int, fun _ _ x => .tup [.str x.1, .str x.2.1, .int .i64 x.2.2], fun _ H _ => H⟩),
  (9262, ⟨List UInt8, fun _ _ x => .sl 1 (.map encB 0 x) .none, fun _ H _ => H⟩),
  (9325, ⟨ByteArray, fun _ _ x => .str x, fun _ H _ => H⟩),
  (35, ⟨Bool, fun _ _ x => .bool x, fun _ H _ => H⟩),
  (18090, ⟨List UInt8 × Bool, fun _ _ x => .tup [.sl 1 (.map encB 0 x.1) .none, .bool x.2], fun _ H _ => H⟩),
  (47, ⟨Bool, fun _ _ x => .bool x, fun _ H _ => H⟩),
  (9170, ⟨ByteArray × Bool, fun _ _ x => .tup [.str x.1, .bool x.2], fun _ H _ => H⟩),
  (9323, ⟨List UInt8, fun _ _ x => .sl 1 (.map encB 0 x) .none, fun _ H _ => H⟩),
  (9263, ⟨ByteArray, fun _ _ x => .str x, fun _ H _ => H⟩),
  (55, ⟨List Int, fun _ _ x => .sl 1 (.map encI 0 x) .none, fun _ H _ => H⟩),
  (56, ⟨Int, fun _ _ x => .int .i64 x, fun _ H _ => H⟩),
  (9372, ⟨Int, fun _ _ x => .int .u32 x, fun _ H _ => H⟩),
  (63, ⟨Int, fun _ _ x => .int .i64 x, fun _ H _ => H⟩),
  (9324, ⟨Int, fun _ _ x => .int .i64 x, fun _ H _ => H⟩),
  (74, ⟨Int × Int, fun _ _ x => .tup [.int .i64 x.1, .int .i64 x.2], fun _ H _ => H⟩),
  (9393, ⟨Int, fun _ _ x => .int .u32 x, fun _ H _ => H⟩),
  (9373, ⟨Int, fun _ _ x => .int .i64 x, fun _ H _ => H⟩),
  (109, ⟨Int, fun _ _ x => .int .i64 x, fun _ H _ => H⟩)]
noncomputable def rets : FuncId → List Ret := lookupR (retS ++ V.retL)

-- 63
noncomputable def l63 : Nat → List Nat
  | _ => []
noncomputable def u63 : Nat → Bool
  | _ => false
noncomputable def m63 : Nat → Bool
  | _ => false
noncomputable def g63 : Cfg := { N := 27, live := l63, cut := u63, mu := m63, ret := rets }
theorem s63 : ∀ (c : Int) (Post : AV → List AObj → Prop),
  condP (decide (c ≥ (97 : Int)))
      (condP (decide (c ≤ (122 : Int))) (Post (AV.int IntKind.i64 (0 : Int)) [])
        (condP (decide (c ≥ (945 : Int)))
         (condP (decide (c ≤ (969 : Int))) (Post (AV.int IntKind.i64 (1 : Int)) [])
         (condP (decide (c ≥ (48 : Int)))
         (condP (decide (c ≤ (57 : Int))) (Post (AV.int IntKind.i64 (2 : Int)) []) (condP (c == (45 : Int)) (Post (AV.int IntKind.i64 (3 : Int)) []) (Post (AV.int IntKind.i64 (4 : Int)) [])))
         (condP (c == (45 : Int)) (Post (AV.int IntKind.i64 (3 : Int)) []) (Post (AV.int IntKind.i64 (4 : Int)) []))))
         (condP (decide (c ≥ (48 : Int)))
         (condP (decide (c ≤ (57 : Int))) (Post (AV.int IntKind.i64 (2 : Int)) []) (condP (c == (45 : Int)) (Post (AV.int IntKind.i64 (3 : Int)) []) (Post (AV.int IntKind.i64 (4 : Int)) [])))
         (condP (c == (45 : Int)) (Post (AV.int IntKind.i64 (3 : Int)) []) (Post (AV.int IntKind.i64 (4 : Int)) [])))))
      (condP (decide (c ≥ (945 : Int)))
        (condP (decide (c ≤ (969 : Int))) (Post (AV.int IntKind.i64 (1 : Int)) [])
         (condP (decide (c ≥ (48 : Int)))
         (condP (decide (c ≤ (57 : Int))) (Post (AV.int IntKind.i64 (2 : Int)) []) (condP (c == (45 : Int)) (Post (AV.int IntKind.i64 (3 : Int)) []) (Post (AV.int IntKind.i64 (4 : Int)) [])))
         (condP (c == (45 : Int)) (Post (AV.int IntKind.i64 (3 : Int)) []) (Post (AV.int IntKind.i64 (4 : Int)) []))))
        (condP (decide (c ≥ (48 : Int)))
         (condP (decide (c ≤ (57 : Int))) (Post (AV.int IntKind.i64 (2 : Int)) []) (condP (c == (45 : Int)) (Post (AV.int IntKind.i64 (3 : Int)) []) (Post (AV.int IntKind.i64 (4 : Int)) [])))
         (condP (c == (45 : Int)) (Post (AV.int IntKind.i64 (3 : Int)) []) (Post (AV.int IntKind.i64 (4 : Int)) [])))) →
    ASpec Try.prog 63 [AV.int IntKind.i32 c] [] Post := fun c Post h => Go.Ab.ASpec.of_vc g63 Go.Proofs.Try.func63 (by kernel_rfl) (by kernel_rfl) (by kernel_rfl) (Go.Ab.kc (by kernel_rfl) h)

-- 56
noncomputable def l56 : Nat → List Nat
  | _ => []
noncomputable def u56 : Nat → Bool
  | _ => false
noncomputable def m56 : Nat → Bool
  | _ => false
noncomputable def g56 : Cfg := { N := 23, live := l56, cut := u56, mu := m56, ret := rets }
theorem s56 : ∀ (c : Int) (Post : AV → List AObj → Prop),
  condP (decide (c ≥ (97 : Int)))
      (condP (decide (c ≤ (122 : Int))) (Post (AV.int IntKind.i64 (0 : Int)) [])
        (condP (decide (c ≥ (945 : Int)))
         (condP (decide (c ≤ (969 : Int))) (Post (AV.int IntKind.i64 (1 : Int)) [])
         (condP (decide (c ≥ (48 : Int)))
         (condP (decide (c ≤ (57 : Int))) (Post (AV.int IntKind.i64 (2 : Int)) []) (condP (c == (45 : Int)) (Post (AV.int IntKind.i64 (3 : Int)) []) (Post (AV.int IntKind.i64 (4 : Int)) [])))
         (condP (c == (45 : Int)) (Post (AV.int IntKind.i64 (3 : Int)) []) (Post (AV.int IntKind.i64 (4 : Int)) []))))
         (condP (decide (c ≥ (48 : Int)))
         (condP (decide (c ≤ (57 : Int))) (Post (AV.int IntKind.i64 (2 : Int)) []) (condP (c == (45 : Int)) (Post (AV.int IntKind.i64 (3 : Int)) []) (Post (AV.int IntKind.i64 (4 : Int)) [])))
         (condP (c == (45 : Int)) (Post (AV.int IntKind.i64 (3 : Int)) []) (Post (AV.int IntKind.i64 (4 : Int)) [])))))
      (condP (decide (c ≥ (945 : Int)))
        (condP (decide (c ≤ (969 : Int))) (Post (AV.int IntKind.i64 (1 : Int)) [])
         (condP (decide (c ≥ (48 : Int)))
         (condP (decide (c ≤ (57 : Int))) (Post (AV.int IntKind.i64 (2 : Int)) []) (condP (c == (45 : Int)) (Post (AV.int IntKind.i64 (3 : Int)) []) (Post (AV.int IntKind.i64 (4 : Int)) [])))
         (condP (c == (45 : Int)) (Post (AV.int IntKind.i64 (3 : Int)) []) (Post (AV.int IntKind.i64 (4 : Int)) []))))
        (condP (decide (c ≥ (48 : Int)))
         (condP (decide (c ≤ (57 : Int))) (Post (AV.int IntKind.i64 (2 : Int)) []) (condP (c == (45 : Int)) (Post (AV.int IntKind.i64 (3 : Int)) []) (Post (AV.int IntKind.i64 (4 : Int)) [])))
         (condP (c == (45 : Int)) (Post (AV.int IntKind.i64 (3 : Int)) []) (Post (AV.int IntKind.i64 (4 : Int)) [])))) →
    ASpec Try.prog 56 [AV.int IntKind.i64 c] [] Post := fun c Post h => Go.Ab.ASpec.of_vc g56 Go.Proofs.Try.func56 (by kernel_rfl) (by kernel_rfl) (by kernel_rfl) (Go.Ab.kc (by kernel_rfl) h)

-- 47
noncomputable def l47 : Nat → List Nat
  | 3 => [3, 8]
  | _ => []
noncomputable def u47 : Nat → Bool
  | _ => false
noncomputable def m47 : Nat → Bool
  | _ => false
noncomputable def g47 : Cfg := { N := 32, live := l47, cut := u47, mu := m47, ret := rets }
noncomputable def c47 : Go.Code := Go.Ab.bodyOf Go.Proofs.Try.f47
noncomputable def q47_0 : Nat → (AV → List AObj → Prop) → AQ := fun (n : Nat) (Post : AV → List AObj → Prop) => endQ Try.prog (resultsOf Try.f47) Post
noncomputable def q47_1 : Nat → (AV → List AObj → Prop) → AQ := fun (n : Nat) (Post : AV → List AObj → Prop) => seqQ (fun (s' : Slots) (H' : List AObj) => awp Try.prog g47 n (codeSnd (codeSnd (codeSnd c47))) s' H' (q47_0 n Post)) (q47_0 n Post)
noncomputable def q47_2 : Nat → (AV → List AObj → Prop) → AQ := fun (n : Nat) (Post : AV → List AObj → Prop) => blockQ 0 (q47_1 n Post)
noncomputable def c47_3 : Go.Code := codeFst (codeSnd (codeFst (codeSnd (codeSnd c47))))
theorem s47 : ∀ (s : ByteArray) (Post : AV → List AObj → Prop),
  AWP Try.prog 32 0 c47_3 [(3, AV.int IntKind.i64 (0 : Int)), (8, AV.ptr 0 0)] [AObj.siter s 0] (q47_2 0 Post) →
    ASpec Try.prog 47 [AV.str s] [] Post := fun s Post h => Go.Ab.ASpec.of_vc g47 Go.Proofs.Try.func47 (by kernel_rfl) (by kernel_rfl) (by kernel_rfl) (Go.Ab.kc (by kernel_rfl) h)
theorem v47_3 : ∀ (s : ByteArray) (pos : Nat) (n : Int) (n_1 : Nat) (Post : AV → List AObj → Prop),
  condP (decide (pos < ByteArray.size s))
      (ASpec Try.prog 63 [AV.int IntKind.i32 (↑(Prod.fst (Utf8.decode s pos)) : Int)] [AObj.siter s (pos + Prod.snd (Utf8.decode s pos))] fun (r : AV) (H' : List AObj) =>
        ∃ (x : Int),
         r = AV.int IntKind.i64 x ∧
         H' = [AObj.siter s (pos + Prod.snd (Utf8.decode s pos))] ∧
         condP (decide (x > (3 : Int))) (Post (AV.bool false) [AObj.siter s (pos + Prod.snd (Utf8.decode s pos))])
         (condP (n == (0 : Int))
         (condP (decide (x > (1 : Int))) (Post (AV.bool false) [AObj.siter s (pos + Prod.snd (Utf8.decode s pos))])
         (condP (n == (12 : Int)) (Post (AV.bool false) [AObj.siter s (pos + Prod.snd (Utf8.decode s pos))])
         (AWP Try.prog 32 n_1 c47_3 [(3, AV.int IntKind.i64 (IntKind.wrap IntKind.i64 (n + (1 : Int)))), (8, AV.ptr 0 0)]
         [AObj.siter s (pos + Prod.snd (Utf8.decode s pos))] (q47_2 n_1 Post))))
         (condP (n == (12 : Int)) (Post (AV.bool false) [AObj.siter s (pos + Prod.snd (Utf8.decode s pos))])
         (AWP Try.prog 32 n_1 c47_3 [(3, AV.int IntKind.i64 (IntKind.wrap IntKind.i64 (n + (1 : Int)))), (8, AV.ptr 0 0)]
         [AObj.siter s (pos + Prod.snd (Utf8.decode s pos))] (q47_2 n_1 Post)))))
      (Post (AV.bool (decide (n > (0 : Int)))) [AObj.siter s pos]) →
    AWP Try.prog 32 n_1 c47_3 [(3, AV.int IntKind.i64 n), (8, AV.ptr 0 0)] [AObj.siter s pos] (q47_2 n_1 Post) := fun s pos n n Post h => Go.Ab.AWP.loop' g47 (Cfg.live g47) c47_3 (by kernel_rfl) (by kernel_rfl) (Go.Ab.kc (by kernel_rfl) h)

-- 109
noncomputable def l109 : Nat → List Nat
  | 5 => [0, 1, 5, 6]
  | 7 => [0, 1, 5, 6]
  | 9 => [0, 1, 5, 6]
  | 11 => [0, 1, 5, 6]
  | 12 => [0, 1, 5, 6, 7]
  | 16 => [0, 1, 5, 6]
  | _ => []
noncomputable def u109 : Nat → Bool
  | 5 => true
  | 7 => true
  | 9 => true
  | 11 => true
  | 16 => true
  | _ => false
noncomputable def m109 : Nat → Bool
  | _ => false
noncomputable def g109 : Cfg := { N := 96, live := l109, cut := u109, mu := m109, ret := rets }
noncomputable def c109 : Go.Code := Go.Ab.bodyOf Go.Proofs.Try.f109
noncomputable def q109_0 : Nat → (AV → List AObj → Prop) → AQ := fun (n : Nat) (Post : AV → List AObj → Prop) => endQ Try.prog (resultsOf Try.f109) Post
noncomputable def c109_5 : Go.Code := codeSnd (codeSnd (codeSnd (codeSnd c109)))
theorem s109 : ∀ (s : ByteArray) (p : Int) (Post : AV → List AObj → Prop),
  needP ((0 : Int) ≤ p ∧ p < (↑(ByteArray.size s) : Int))
      (condP (decide (IntKind.wrap IntKind.i64 (↑(UInt8.toNat (List.getD (Array.toList (ByteArray.data s)) (Int.toNat p) (0 : UInt8))) : Int) ≥ (194 : Int)))
        (condP (decide (IntKind.wrap IntKind.i64 (↑(UInt8.toNat (List.getD (Array.toList (ByteArray.data s)) (Int.toNat p) (0 : UInt8))) : Int) ≤ (223 : Int)))
         (AWP Try.prog 96 0 c109_5
         [(0, AV.str s), (1, AV.int IntKind.i64 p), (5, AV.int IntKind.i64 (2 : Int)),
         (6, AV.int IntKind.i64 (IntKind.wrap IntKind.i64 (↑(UInt8.toNat (List.getD (Array.toList (ByteArray.data s)) (Int.toNat p) (0 : UInt8))) : Int)))]
         [] (q109_0 0 Post))
         (AWP Try.prog 96 0 c109_5
         [(0, AV.str s), (1, AV.int IntKind.i64 p), (5, AV.int IntKind.i64 (0 : Int)),
         (6, AV.int IntKind.i64 (IntKind.wrap IntKind.i64 (↑(UInt8.toNat (List.getD (Array.toList (ByteArray.data s)) (Int.toNat p) (0 : UInt8))) : Int)))]
         [] (q109_0 0 Post)))
        (AWP Try.prog 96 0 c109_5
         [(0, AV.str s), (1, AV.int IntKind.i64 p), (5, AV.int IntKind.i64 (0 : Int)),
         (6, AV.int IntKind.i64 (IntKind.wrap IntKind.i64 (↑(UInt8.toNat (List.getD (Array.toList (ByteArray.data s)) (Int.toNat p) (0 : UInt8))) : Int)))]
         [] (q109_0 0 Post))) →
    ASpec Try.prog 109 [AV.str s, AV.int IntKind.i64 p] [] Post := fun s p Post h => Go.Ab.ASpec.of_vc g109 Go.Proofs.Try.func109 (by kernel_rfl) (by kernel_rfl) (by kernel_rfl) (Go.Ab.kc (by kernel_rfl) h)
noncomputable def c109_7 : Go.Code := codeSnd c109_5
theorem v109_5 : ∀ (s : ByteArray) (p n c : Int) (n_1 : Nat) (Post : AV → List AObj → Prop),
  condP (decide (c ≥ (224 : Int)))
      (condP (decide (c ≤ (239 : Int)))
        (AWP Try.prog 96 n_1 c109_7 [(0, AV.str s), (1, AV.int IntKind.i64 p), (5, AV.int IntKind.i64 (3 : Int)), (6, AV.int IntKind.i64 c)] []
         (q109_0 n_1 Post))
        (AWP Try.prog 96 n_1 c109_7 [(0, AV.str s), (1, AV.int IntKind.i64 p), (5, AV.int IntKind.i64 n), (6, AV.int IntKind.i64 c)] [] (q109_0 n_1 Post)))
      (AWP Try.prog 96 n_1 c109_7 [(0, AV.str s), (1, AV.int IntKind.i64 p), (5, AV.int IntKind.i64 n), (6, AV.int IntKind.i64 c)] [] (q109_0 n_1 Post)) →
    AWP Try.prog 96 n_1 c109_5 [(0, AV.str s), (1, AV.int IntKind.i64 p), (5, AV.int IntKind.i64 n), (6, AV.int IntKind.i64 c)] [] (q109_0 n_1 Post) := fun s p n c n Post h => Go.Ab.awp_sound g109 n _ _ _ _ (Go.Ab.kc (by kernel_rfl) h)
noncomputable def c109_9 : Go.Code := codeSnd c109_7
theorem v109_7 : ∀ (s : ByteArray) (p n c : Int) (n_1 : Nat) (Post : AV → List AObj → Prop),
  condP (decide (c ≥ (240 : Int)))
      (condP (decide (c ≤ (244 : Int)))
        (AWP Try.prog 96 n_1 c109_9 [(0, AV.str s), (1, AV.int IntKind.i64 p), (5, AV.int IntKind.i64 (4 : Int)), (6, AV.int IntKind.i64 c)] []
         (q109_0 n_1 Post))
        (AWP Try.prog 96 n_1 c109_9 [(0, AV.str s), (1, AV.int IntKind.i64 p), (5, AV.int IntKind.i64 n), (6, AV.int IntKind.i64 c)] [] (q109_0 n_1 Post)))
      (AWP Try.prog 96 n_1 c109_9 [(0, AV.str s), (1, AV.int IntKind.i64 p), (5, AV.int IntKind.i64 n), (6, AV.int IntKind.i64 c)] [] (q109_0 n_1 Post)) →
    AWP Try.prog 96 n_1 c109_7 [(0, AV.str s), (1, AV.int IntKind.i64 p), (5, AV.int IntKind.i64 n), (6, AV.int IntKind.i64 c)] [] (q109_0 n_1 Post) := fun s p n c n Post h => Go.Ab.awp_sound g109 n _ _ _ _ (Go.Ab.kc (by kernel_rfl) h)
noncomputable def c109_11 : Go.Code := codeSnd c109_9
theorem v109_9 : ∀ (s : ByteArray) (p n c : Int) (n_1 : Nat) (Post : AV → List AObj → Prop),
  condP (n == (0 : Int)) (Post (AV.int IntKind.i64 (0 : Int)) [])
      (condP (decide (IntKind.wrap IntKind.i64 ((↑(ByteArray.size s) : Int) - p) < n)) (Post (AV.int IntKind.i64 (0 : Int)) [])
        (AWP Try.prog 96 n_1 c109_11 [(0, AV.str s), (1, AV.int IntKind.i64 p), (5, AV.int IntKind.i64 n), (6, AV.int IntKind.i64 c)] [] (q109_0 n_1 Post))) →
    AWP Try.prog 96 n_1 c109_9 [(0, AV.str s), (1, AV.int IntKind.i64 p), (5, AV.int IntKind.i64 n), (6, AV.int IntKind.i64 c)] [] (q109_0 n_1 Post) := fun s p n c n Post h => Go.Ab.awp_sound g109 n _ _ _ _ (Go.Ab.kc (by kernel_rfl) h)
noncomputable def c109_16 : Go.Code := codeSnd c109_11
noncomputable def q109_1 : Nat → (AV → List AObj → Prop) → AQ := fun (n : Nat) (Post : AV → List AObj → Prop) => seqQ (fun (s' : Slots) (H' : List AObj) => AWP Try.prog (Cfg.N g109) n c109_16 (restrict s' (Cfg.live g109 16)) H' (q109_0 n Post)) (q109_0 n Post)
noncomputable def q109_2 : Nat → (AV → List AObj → Prop) → AQ := fun (n : Nat) (Post : AV → List AObj → Prop) => blockQ 0 (q109_1 n Post)
noncomputable def c109_12 : Go.Code := codeFst (codeSnd (codeFst c109_11))
theorem v109_11 : ∀ (s : ByteArray) (p n c : Int) (n_1 : Nat) (Post : AV → List AObj → Prop),
  AWP Try.prog 96 n_1 c109_12
      [(0, AV.str s), (1, AV.int IntKind.i64 p), (5, AV.int IntKind.i64 n), (6, AV.int IntKind.i64 c), (7, AV.int IntKind.i64 (1 : Int))] [] (q109_2 n_1 Post) →
    AWP Try.prog 96 n_1 c109_11 [(0, AV.str s), (1, AV.int IntKind.i64 p), (5, AV.int IntKind.i64 n), (6, AV.int IntKind.i64 c)] [] (q109_0 n_1 Post) := fun s p n c n Post h => Go.Ab.awp_sound g109 n _ _ _ _ (Go.Ab.kc (by kernel_rfl) h)
theorem v109_16 : ∀ (s : ByteArray) (p n c : Int) (n_1 : Nat) (Post : AV → List AObj → Prop),
  needP ((0 : Int) ≤ IntKind.wrap IntKind.i64 (p + (1 : Int)) ∧ IntKind.wrap IntKind.i64 (p + (1 : Int)) < (↑(ByteArray.size s) : Int))
      (condP (c == (224 : Int))
        (condP (decide (IntKind.wrap IntKind.i64 (↑(UInt8.toNat (List.getD (Array.toList (ByteArray.data s)) (Int.toNat (IntKind.wrap IntKind.i64 (p + (1 : Int)))) (0 : UInt8))) : Int) < (160 : Int)))
         (Post (AV.int IntKind.i64 (0 : Int)) [])
         (condP (c == (237 : Int))
         (condP
         (decide (IntKind.wrap IntKind.i64 (↑(UInt8.toNat (List.getD (Array.toList (ByteArray.data s)) (Int.toNat (IntKind.wrap IntKind.i64 (p + (1 : Int)))) (0 : UInt8))) : Int) > (159 : Int)))
         (Post (AV.int IntKind.i64 (0 : Int)) [])
         (condP (c == (240 : Int))
         (condP
         (decide
         (IntKind.wrap IntKind.i64 (↑(UInt8.toNat (List.getD (Array.toList (ByteArray.data s)) (Int.toNat (IntKind.wrap IntKind.i64 (p + (1 : Int)))) (0 : UInt8))) : Int) < (144 : Int)))
         (Post (AV.int IntKind.i64 (0 : Int)) [])
         (condP (c == (244 : Int))
         (condP
         (decide
         (IntKind.wrap IntKind.i64 (↑(UInt8.toNat (List.getD (Array.toList (ByteArray.data s)) (Int.toNat (IntKind.wrap IntKind.i64 (p + (1 : Int)))) (0 : UInt8))) : Int) >
         (143 : Int)))
         (Post (AV.int IntKind.i64 (0 : Int)) []) (Post (AV.int IntKind.i64 n) []))
         (Post (AV.int IntKind.i64 n) [])))
         (condP (c == (244 : Int))
         (condP
         (decide
         (IntKind.wrap IntKind.i64 (↑(UInt8.toNat (List.getD (Array.toList (ByteArray.data s)) (Int.toNat (IntKind.wrap IntKind.i64 (p + (1 : Int)))) (0 : UInt8))) : Int) > (143 : Int)))
         (Post (AV.int IntKind.i64 (0 : Int)) []) (Post (AV.int IntKind.i64 n) []))
         (Post (AV.int IntKind.i64 n) []))))
         (condP (c == (240 : Int))
         (condP
         (decide
         (IntKind.wrap IntKind.i64 (↑(UInt8.toNat (List.getD (Array.toList (ByteArray.data s)) (Int.toNat (IntKind.wrap IntKind.i64 (p + (1 : Int)))) (0 : UInt8))) : Int) < (144 : Int)))
         (Post (AV.int IntKind.i64 (0 : Int)) [])
         (condP (c == (244 : Int))
         (condP
         (decide
         (IntKind.wrap IntKind.i64 (↑(UInt8.toNat (List.getD (Array.toList (ByteArray.data s)) (Int.toNat (IntKind.wrap IntKind.i64 (p + (1 : Int)))) (0 : UInt8))) : Int) > (143 : Int)))
         (Post (AV.int IntKind.i64 (0 : Int)) []) (Post (AV.int IntKind.i64 n) []))
         (Post (AV.int IntKind.i64 n) [])))
         (condP (c == (244 : Int))
         (condP
         (decide
         (IntKind.wrap IntKind.i64 (↑(UInt8.toNat (List.getD (Array.toList (ByteArray.data s)) (Int.toNat (IntKind.wrap IntKind.i64 (p + (1 : Int)))) (0 : UInt8))) : Int) > (143 : Int)))
         (Post (AV.int IntKind.i64 (0 : Int)) []) (Post (AV.int IntKind.i64 n) []))
         (Post (AV.int IntKind.i64 n) [])))))
        (condP (c == (237 : Int))
         (condP
         (decide (IntKind.wrap IntKind.i64 (↑(UInt8.toNat (List.getD (Array.toList (ByteArray.data s)) (Int.toNat (IntKind.wrap IntKind.i64 (p + (1 : Int)))) (0 : UInt8))) : Int) > (159 : Int)))
         (Post (AV.int IntKind.i64 (0 : Int)) [])
         (condP (c == (240 : Int))
         (condP
         (decide
         (IntKind.wrap IntKind.i64 (↑(UInt8.toNat (List.getD (Array.toList (ByteArray.data s)) (Int.toNat (IntKind.wrap IntKind.i64 (p + (1 : Int)))) (0 : UInt8))) : Int) < (144 : Int)))
         (Post (AV.int IntKind.i64 (0 : Int)) [])
         (condP (c == (244 : Int))
         (condP
         (decide
         (IntKind.wrap IntKind.i64 (↑(UInt8.toNat (List.getD (Array.toList (ByteArray.data s)) (Int.toNat (IntKind.wrap IntKind.i64 (p + (1 : Int)))) (0 : UInt8))) : Int) > (143 : Int)))
         (Post (AV.int IntKind.i64 (0 : Int)) []) (Post (AV.int IntKind.i64 n) []))
         (Post (AV.int IntKind.i64 n) [])))
         (condP (c == (244 : Int))
         (condP
         (decide
         (IntKind.wrap IntKind.i64 (↑(UInt8.toNat (List.getD (Array.toList (ByteArray.data s)) (Int.toNat (IntKind.wrap IntKind.i64 (p + (1 : Int)))) (0 : UInt8))) : Int) > (143 : Int)))
         (Post (AV.int IntKind.i64 (0 : Int)) []) (Post (AV.int IntKind.i64 n) []))
         (Post (AV.int IntKind.i64 n) []))))
         (condP (c == (240 : Int))
         (condP
         (decide (IntKind.wrap IntKind.i64 (↑(UInt8.toNat (List.getD (Array.toList (ByteArray.data s)) (Int.toNat (IntKind.wrap IntKind.i64 (p + (1 : Int)))) (0 : UInt8))) : Int) < (144 : Int)))
         (Post (AV.int IntKind.i64 (0 : Int)) [])
         (condP (c == (244 : Int))
         (condP
         (decide
         (IntKind.wrap IntKind.i64 (↑(UInt8.toNat (List.getD (Array.toList (ByteArray.data s)) (Int.toNat (IntKind.wrap IntKind.i64 (p + (1 : Int)))) (0 : UInt8))) : Int) > (143 : Int)))
         (Post (AV.int IntKind.i64 (0 : Int)) []) (Post (AV.int IntKind.i64 n) []))
         (Post (AV.int IntKind.i64 n) [])))
         (condP (c == (244 : Int))
         (condP
         (decide
         (IntKind.wrap IntKind.i64 (↑(UInt8.toNat (List.getD (Array.toList (ByteArray.data s)) (Int.toNat (IntKind.wrap IntKind.i64 (p + (1 : Int)))) (0 : UInt8))) : Int) > (143 : Int)))
         (Post (AV.int IntKind.i64 (0 : Int)) []) (Post (AV.int IntKind.i64 n) []))
         (Post (AV.int IntKind.i64 n) []))))) →
    AWP Try.prog 96 n_1 c109_16 [(0, AV.str s), (1, AV.int IntKind.i64 p), (5, AV.int IntKind.i64 n), (6, AV.int IntKind.i64 c)] [] (q109_0 n_1 Post) := fun s p n c n Post h => Go.Ab.awp_sound g109 n _ _ _ _ (Go.Ab.kc (by kernel_rfl) h)
theorem v109_12 : ∀ (s : ByteArray) (p n c i : Int) (n_1 : Nat) (Post : AV → List AObj → Prop),
  condP (decide (i < n))
      (needP ((0 : Int) ≤ IntKind.wrap IntKind.i64 (p + i) ∧ IntKind.wrap IntKind.i64 (p + i) < (↑(ByteArray.size s) : Int))
        (condP (decide ((↑(UInt8.toNat (List.getD (Array.toList (ByteArray.data s)) (Int.toNat (IntKind.wrap IntKind.i64 (p + i))) (0 : UInt8))) : Int) < (128 : Int)))
         (Post (AV.int IntKind.i64 (0 : Int)) [])
         (needP ((0 : Int) ≤ IntKind.wrap IntKind.i64 (p + i) ∧ IntKind.wrap IntKind.i64 (p + i) < (↑(ByteArray.size s) : Int))
         (condP (decide ((↑(UInt8.toNat (List.getD (Array.toList (ByteArray.data s)) (Int.toNat (IntKind.wrap IntKind.i64 (p + i))) (0 : UInt8))) : Int) > (191 : Int)))
         (Post (AV.int IntKind.i64 (0 : Int)) [])
         (AWP Try.prog 96 n_1 c109_12
         [(0, AV.str s), (1, AV.int IntKind.i64 p), (5, AV.int IntKind.i64 n), (6, AV.int IntKind.i64 c),
         (7, AV.int IntKind.i64 (IntKind.wrap IntKind.i64 (i + (1 : Int))))]
         [] (q109_2 n_1 Post))))))
      (AWP Try.prog 96 n_1 c109_16 [(0, AV.str s), (1, AV.int IntKind.i64 p), (5, AV.int IntKind.i64 n), (6, AV.int IntKind.i64 c)] [] (q109_0 n_1 Post)) →
    AWP Try.prog 96 n_1 c109_12
      [(0, AV.str s), (1, AV.int IntKind.i64 p), (5, AV.int IntKind.i64 n), (6, AV.int IntKind.i64 c), (7, AV.int IntKind.i64 i)] [] (q109_2 n_1 Post) := fun s p n c i n Post h => Go.Ab.AWP.loop' g109 (Cfg.live g109) c109_12 (by kernel_rfl) (by kernel_rfl) (Go.Ab.kc (by kernel_rfl) h)

-- 74
noncomputable def l74 : Nat → List Nat
  | 9 => [0, 1, 6, 7]
  | 11 => [0, 1, 6, 7]
  | 12 => [0, 1, 6, 7, 8]
  | _ => []
noncomputable def u74 : Nat → Bool
  | 9 => true
  | 11 => true
  | _ => false
noncomputable def m74 : Nat → Bool
  | _ => false
noncomputable def g74 : Cfg := { N := 58, live := l74, cut := u74, mu := m74, ret := rets }
noncomputable def c74 : Go.Code := Go.Ab.bodyOf Go.Proofs.Try.f74
noncomputable def q74_0 : Nat → (AV → List AObj → Prop) → AQ := fun (n : Nat) (Post : AV → List AObj → Prop) => endQ Try.prog (resultsOf Try.f74) Post
noncomputable def c74_9 : Go.Code := codeSnd (codeSnd (codeSnd (codeSnd (codeSnd (codeSnd c74)))))
theorem s74 : ∀ (s : ByteArray) (p : Int) (Post : AV → List AObj → Prop),
  needP ((0 : Int) ≤ p ∧ p < (↑(ByteArray.size s) : Int))
      (condP (decide ((↑(UInt8.toNat (List.getD (Array.toList (ByteArray.data s)) (Int.toNat p) (0 : UInt8))) : Int) < (128 : Int)))
        (needP ((0 : Int) ≤ p ∧ p < (↑(ByteArray.size s) : Int))
         (Post (AV.tup [AV.int IntKind.i64 (IntKind.wrap IntKind.i64 (↑(UInt8.toNat (List.getD (Array.toList (ByteArray.data s)) (Int.toNat p) (0 : UInt8))) : Int)), AV.int IntKind.i64 (1 : Int)])
         []))
        (ASpec Try.prog 109 [AV.str s, AV.int IntKind.i64 p] [] fun (r : AV) (H' : List AObj) =>
         ∃ (x : Int),
         r = AV.int IntKind.i64 x ∧
         H' = [] ∧
         condP (x == (0 : Int)) (Post (AV.tup [AV.int IntKind.i64 (65533 : Int), AV.int IntKind.i64 (1 : Int)]) [])
         (needP ((0 : Int) ≤ p ∧ p < (↑(ByteArray.size s) : Int))
         (needP ((32 : Int) ≠ (0 : Int))
         (condP (x == (3 : Int))
         (needP ((0 : Int) ≤ p ∧ p < (↑(ByteArray.size s) : Int))
         (needP ((16 : Int) ≠ (0 : Int))
         (AWP Try.prog 58 0 c74_9
         [(0, AV.str s), (1, AV.int IntKind.i64 p), (6, AV.int IntKind.i64 x),
         (7,
         AV.int IntKind.i64 (Int.tmod (IntKind.wrap IntKind.i64 (↑(UInt8.toNat (List.getD (Array.toList (ByteArray.data s)) (Int.toNat p) (0 : UInt8))) : Int)) (16 : Int)))]
         [] (q74_0 0 Post))))
         (AWP Try.prog 58 0 c74_9
         [(0, AV.str s), (1, AV.int IntKind.i64 p), (6, AV.int IntKind.i64 x),
         (7,
         AV.int IntKind.i64 (Int.tmod (IntKind.wrap IntKind.i64 (↑(UInt8.toNat (List.getD (Array.toList (ByteArray.data s)) (Int.toNat p) (0 : UInt8))) : Int)) (32 : Int)))]
         [] (q74_0 0 Post))))))) →
    ASpec Try.prog 74 [AV.str s, AV.int IntKind.i64 p] [] Post := fun s p Post h => Go.Ab.ASpec.of_vc g74 Go.Proofs.Try.func74 (by kernel_rfl) (by kernel_rfl) (by kernel_rfl) (Go.Ab.kc (by kernel_rfl) h)
noncomputable def c74_11 : Go.Code := codeSnd c74_9
theorem v74_9 : ∀ (s : ByteArray) (p n x : Int) (n_1 : Nat) (Post : AV → List AObj → Prop),
  condP (n == (4 : Int))
      (needP ((0 : Int) ≤ p ∧ p < (↑(ByteArray.size s) : Int))
        (needP ((8 : Int) ≠ (0 : Int))
         (AWP Try.prog 58 n_1 c74_11
         [(0, AV.str s), (1, AV.int IntKind.i64 p), (6, AV.int IntKind.i64 n),
         (7, AV.int IntKind.i64 (Int.tmod (IntKind.wrap IntKind.i64 (↑(UInt8.toNat (List.getD (Array.toList (ByteArray.data s)) (Int.toNat p) (0 : UInt8))) : Int)) (8 : Int)))]
         [] (q74_0 n_1 Post))))
      (AWP Try.prog 58 n_1 c74_11 [(0, AV.str s), (1, AV.int IntKind.i64 p), (6, AV.int IntKind.i64 n), (7, AV.int IntKind.i64 x)] [] (q74_0 n_1 Post)) →
    AWP Try.prog 58 n_1 c74_9 [(0, AV.str s), (1, AV.int IntKind.i64 p), (6, AV.int IntKind.i64 n), (7, AV.int IntKind.i64 x)] [] (q74_0 n_1 Post) := fun s p n x n Post h => Go.Ab.awp_sound g74 n _ _ _ _ (Go.Ab.kc (by kernel_rfl) h)
noncomputable def q74_1 : Nat → (AV → List AObj → Prop) → AQ := fun (n : Nat) (Post : AV → List AObj → Prop) => seqQ (fun (s' : Slots) (H' : List AObj) => awp Try.prog g74 n (codeSnd c74_11) s' H' (q74_0 n Post)) (q74_0 n Post)
noncomputable def q74_2 : Nat → (AV → List AObj → Prop) → AQ := fun (n : Nat) (Post : AV → List AObj → Prop) => blockQ 0 (q74_1 n Post)
noncomputable def c74_12 : Go.Code := codeFst (codeSnd (codeFst c74_11))
theorem v74_11 : ∀ (s : ByteArray) (p n x : Int) (n_1 : Nat) (Post : AV → List AObj → Prop),
  AWP Try.prog 58 n_1 c74_12
      [(0, AV.str s), (1, AV.int IntKind.i64 p), (6, AV.int IntKind.i64 n), (7, AV.int IntKind.i64 x), (8, AV.int IntKind.i64 (1 : Int))] [] (q74_2 n_1 Post) →
    AWP Try.prog 58 n_1 c74_11 [(0, AV.str s), (1, AV.int IntKind.i64 p), (6, AV.int IntKind.i64 n), (7, AV.int IntKind.i64 x)] [] (q74_0 n_1 Post) := fun s p n x n Post h => Go.Ab.awp_sound g74 n _ _ _ _ (Go.Ab.kc (by kernel_rfl) h)
theorem v74_12 : ∀ (s : ByteArray) (p n x i : Int) (n_1 : Nat) (Post : AV → List AObj → Prop),
  condP (decide (i < n))
      (needP ((0 : Int) ≤ IntKind.wrap IntKind.i64 (p + i) ∧ IntKind.wrap IntKind.i64 (p + i) < (↑(ByteArray.size s) : Int))
        (needP ((64 : Int) ≠ (0 : Int))
         (AWP Try.prog 58 n_1 c74_12
         [(0, AV.str s), (1, AV.int IntKind.i64 p), (6, AV.int IntKind.i64 n),
         (7,
         AV.int IntKind.i64
         (IntKind.wrap IntKind.i64
         (IntKind.wrap IntKind.i64 (x * (64 : Int)) +
         Int.tmod (IntKind.wrap IntKind.i64 (↑(UInt8.toNat (List.getD (Array.toList (ByteArray.data s)) (Int.toNat (IntKind.wrap IntKind.i64 (p + i))) (0 : UInt8))) : Int)) (64 : Int)))),
         (8, AV.int IntKind.i64 (IntKind.wrap IntKind.i64 (i + (1 : Int))))]
         [] (q74_2 n_1 Post))))
      (Post (AV.tup [AV.int IntKind.i64 x, AV.int IntKind.i64 n]) []) →
    AWP Try.prog 58 n_1 c74_12
      [(0, AV.str s), (1, AV.int IntKind.i64 p), (6, AV.int IntKind.i64 n), (7, AV.int IntKind.i64 x), (8, AV.int IntKind.i64 i)] [] (q74_2 n_1 Post) := fun s p n x i n Post h => Go.Ab.AWP.loop' g74 (Cfg.live g74) c74_12 (by kernel_rfl) (by kernel_rfl) (Go.Ab.kc (by kernel_rfl) h)

-- 55
noncomputable def l55 : Nat → List Nat
  | 3 => [0, 3, 4]
  | _ => []
noncomputable def u55 : Nat → Bool
  | _ => false
noncomputable def m55 : Nat → Bool
  | _ => false
noncomputable def g55 : Cfg := { N := 25, live := l55, cut := u55, mu := m55, ret := rets }
noncomputable def c55 : Go.Code := Go.Ab.bodyOf Go.Proofs.Try.f55
noncomputable def q55_0 : Nat → (AV → List AObj → Prop) → AQ := fun (n : Nat) (Post : AV → List AObj → Prop) => endQ Try.prog (resultsOf Try.f55) Post
noncomputable def q55_1 : Nat → (AV → List AObj → Prop) → AQ := fun (n : Nat) (Post : AV → List AObj → Prop) => seqQ (fun (s' : Slots) (H' : List AObj) => awp Try.prog g55 n (codeSnd (codeSnd (codeSnd (codeSnd c55)))) s' H' (q55_0 n Post)) (q55_0 n Post)
noncomputable def q55_2 : Nat → (AV → List AObj → Prop) → AQ := fun (n : Nat) (Post : AV → List AObj → Prop) => blockQ 0 (q55_1 n Post)
noncomputable def c55_3 : Go.Code := codeFst (codeFst (codeSnd (codeSnd (codeSnd c55))))
theorem s55 : ∀ (s : ByteArray) (Post : AV → List AObj → Prop),
  AWP Try.prog 25 0 c55_3 [(0, AV.str s), (3, AV.sl 0 (Seq.raw []) Tip.nil), (4, AV.int IntKind.i64 (0 : Int))] [] (q55_2 0 Post) →
    ASpec Try.prog 55 [AV.str s] [] Post := fun s Post h => Go.Ab.ASpec.of_vc g55 Go.Proofs.Try.func55 (by kernel_rfl) (by kernel_rfl) (by kernel_rfl) (Go.Ab.kc (by kernel_rfl) h)
theorem v55_3 : ∀ (s : ByteArray) (l : List Int) (p : Int) (n : Nat) (Post : AV → List AObj → Prop),
  condP (decide (p < (↑(ByteArray.size s) : Int)))
      (ASpec Try.prog 74 [AV.str s, AV.int IntKind.i64 p] [AObj.tok] fun (r : AV) (H' : List AObj) =>
        ∃ (x : Int × Int),
         r = AV.tup [AV.int IntKind.i64 (Prod.fst x), AV.int IntKind.i64 (Prod.snd x)] ∧
         H' = [AObj.tok] ∧
         needP ((List.length l + 1) * 8 ≤ 140737488351232)
         (AWP Try.prog 25 n c55_3
         [(0, AV.str s), (3, AV.sl 1 (Seq.app (Seq.map encI (0 : Int) l) (Seq.raw [[AV.int IntKind.i64 (Prod.fst x)]])) (Tip.tok 1)),
         (4, AV.int IntKind.i64 (IntKind.wrap IntKind.i64 (p + Prod.snd x)))]
         [AObj.gone, AObj.tok] (q55_2 n Post)))
      (Post (AV.sl 1 (Seq.map encI (0 : Int) l) (Tip.tok 0)) [AObj.tok]) →
    AWP Try.prog 25 n c55_3 [(0, AV.str s), (3, AV.sl 1 (Seq.map encI (0 : Int) l) (Tip.tok 0)), (4, AV.int IntKind.i64 p)] [AObj.tok] (q55_2 n Post) := fun s l p n Post h => Go.Ab.AWP.loop' g55 (Cfg.live g55) c55_3 (by kernel_rfl) (by kernel_rfl) (Go.Ab.kc (by kernel_rfl) h)

-- 35
noncomputable def l35 : Nat → List Nat
  | 5 => [3, 4]
  | _ => []
noncomputable def u35 : Nat → Bool
  | _ => false
noncomputable def m35 : Nat → Bool
  | _ => false
noncomputable def g35 : Cfg := { N := 42, live := l35, cut := u35, mu := m35, ret := rets }
noncomputable def c35 : Go.Code := Go.Ab.bodyOf Go.Proofs.Try.f35
noncomputable def q35_0 : Nat → (AV → List AObj → Prop) → AQ := fun (n : Nat) (Post : AV → List AObj → Prop) => endQ Try.prog (resultsOf Try.f35) Post
noncomputable def q35_1 : Nat → (AV → List AObj → Prop) → AQ := fun (n : Nat) (Post : AV → List AObj → Prop) => seqQ (fun (s' : Slots) (H' : List AObj) => awp Try.prog g35 n (codeSnd (codeSnd (codeSnd (codeSnd c35)))) s' H' (q35_0 n Post)) (q35_0 n Post)
noncomputable def q35_2 : Nat → (AV → List AObj → Prop) → AQ := fun (n : Nat) (Post : AV → List AObj → Prop) => blockQ 0 (q35_1 n Post)
noncomputable def c35_5 : Go.Code := codeFst (codeSnd (codeFst (codeSnd (codeSnd (codeSnd c35)))))
theorem s35 : ∀ (s : ByteArray) (Post : AV → List AObj → Prop),
  condP (decide ((↑(ByteArray.size s) : Int) > (100 : Int))) (Post (AV.bool false) [])
      (ASpec Try.prog 55 [AV.str s] [] fun (r : AV) (H' : List AObj) =>
        ∃ (x : List Int),
         r = AV.sl 1 (Seq.map encI (0 : Int) x) Tip.none ∧
         H' = [] ∧ AWP Try.prog 42 0 c35_5 [(3, AV.sl 1 (Seq.map encI (0 : Int) x) Tip.none), (4, AV.int IntKind.i64 (0 : Int))] [] (q35_2 0 Post)) →
    ASpec Try.prog 35 [AV.str s] [] Post := fun s Post h => Go.Ab.ASpec.of_vc g35 Go.Proofs.Try.func35 (by kernel_rfl) (by kernel_rfl) (by kernel_rfl) (Go.Ab.kc (by kernel_rfl) h)
theorem v35_5 : ∀ (l : List Int) (i : Int) (n : Nat) (Post : AV → List AObj → Prop),
  condP (decide (i < (↑(List.length l) : Int)))
      (needP ((0 : Int) ≤ i ∧ i < (↑(List.length l) : Int))
        (ASpec Try.prog 56 [AV.int IntKind.i64 (List.getD l (Int.toNat i) (0 : Int))] [] fun (r : AV) (H' : List AObj) =>
         ∃ (x : Int),
         r = AV.int IntKind.i64 x ∧
         H' = [] ∧
         condP (x == (4 : Int)) (Post (AV.bool false) [])
         (condP (i == (0 : Int))
         (needP ((0 : Int) ≤ i ∧ i < (↑(List.length l) : Int))
         (ASpec Try.prog 56 [AV.int IntKind.i64 (List.getD l (Int.toNat i) (0 : Int))] [] fun (r : AV) (H' : List AObj) =>
         ∃ (x : Int),
         r = AV.int IntKind.i64 x ∧
         H' = [] ∧
         condP (decide (x > (1 : Int))) (Post (AV.bool false) [])
         (AWP Try.prog 42 n c35_5
         [(3, AV.sl 1 (Seq.map encI (0 : Int) l) Tip.none), (4, AV.int IntKind.i64 (IntKind.wrap IntKind.i64 (i + (1 : Int))))] [] (q35_2 n Post))))
         (AWP Try.prog 42 n c35_5 [(3, AV.sl 1 (Seq.map encI (0 : Int) l) Tip.none), (4, AV.int IntKind.i64 (IntKind.wrap IntKind.i64 (i + (1 : Int))))] []
         (q35_2 n Post)))))
      (condP (decide ((↑(List.length l) : Int) ≥ (1 : Int))) (Post (AV.bool (decide ((↑(List.length l) : Int) ≤ (12 : Int)))) []) (Post (AV.bool false) [])) →
    AWP Try.prog 42 n c35_5 [(3, AV.sl 1 (Seq.map encI (0 : Int) l) Tip.none), (4, AV.int IntKind.i64 i)] [] (q35_2 n Post) := fun l i n Post h => Go.Ab.AWP.loop' g35 (Cfg.live g35) c35_5 (by kernel_rfl) (by kernel_rfl) (Go.Ab.kc (by kernel_rfl) h)

end
end S
end

section
/- Printed: what the code of functions 30, 126, 100, 53, 128, 34 asks for, by the framework's own reading of it; each line is checked against the code. -/

set_option linter.unusedVariables false
set_option maxRecDepth 100000
set_option maxHeartbeats 4000000
open Go Go.Ab Go.Proofs
namespace Dk
noncomputable section

noncomputable def rowD : List AV → Nat
  | .msl _ id _ _ :: _ => id
  | _ => 1000
noncomputable def retD : List (Nat × Ret) := [
  (30, ⟨Bool, fun _ _ x => .bool x, fun _ H _ => H⟩),
  (100, ⟨Bool, fun _ _ x => .bool x, fun _ H _ => H⟩),
  (126, ⟨Bool, fun _ _ x => .bool x, fun _ H _ => H⟩),
  (9019, ⟨Bool, fun _ _ x => .bool x, fun _ H _ => H⟩),
  (9020, ⟨Bool, fun _ _ x => .bool x, fun _ H _ => H⟩),
  (9043, ⟨Bool, fun _ _ x => .bool x, fun _ H _ => H⟩),
  (9021, ⟨Bool, fun _ _ x => .bool x, fun _ H _ => H⟩),
  (47, ⟨Bool, fun _ _ x => .bool x, fun _ H _ => H⟩),
  (35, ⟨Bool, fun _ _ x => .bool x, fun _ H _ => H⟩),
  (133, ⟨Bool, fun _ _ x => .bool x, fun _ H _ => H⟩),
  (9047, ⟨Bool, fun _ _ x => .bool x, fun _ H _ => H⟩),
  (53, ⟨Int × Bool, fun _ _ x => .tup [.int .i64 x.1, .bool x.2], fun _ H _ => H⟩),
  (9023, ⟨Int × Bool, fun _ _ x => .tup [.int .i64 x.1, .bool x.2], fun _ H _ => H⟩),
  (72, ⟨Int, fun _ _ x => .int .i64 x, fun _ H _ => H⟩),
  (128, ⟨Int, fun _ _ x => .int .i64 x, fun _ H _ => H⟩),
  (9024, ⟨List T.Pk, fun _ _ x => .sl 2 (.map T.encPk T.noPk x) .none, fun _ H _ => H⟩),
  (34, ⟨List T.Pk, fun _ _ x => .sl 2 (.map T.encPk T.noPk x) .none, fun _ H _ => H⟩),
  (9028, ⟨List T.Pk, fun _ _ x => .sl 2 (.map T.encPk T.noPk x) .none, fun _ H _ => H⟩),
  (9029, ⟨List T.Pk, fun _ _ x => .sl 2 (.map T.encPk T.noPk x) .none, fun _ H _ => H⟩),
  (9054, ⟨ByteArray, fun _ _ x => .str x, fun _ H _ => H⟩),
  (9031, ⟨ByteArray, fun _ _ x => .str x, fun _ H _ => H⟩),
  (9055, ⟨ByteArray, fun _ _ x => .str x, fun _ H _ => H⟩),
  (9017, ⟨Unit, fun _ _ _ => .bool true, fun _ H _ => H⟩),
  (9030, ⟨List T.Pk × Bool, fun _ _ x => .tup [.sl 2 (.map T.encPk T.noPk x.1) .none, .bool x.2], fun _ H _ => H⟩),
  (9046, ⟨List T.Pk, fun _ H x => .msl 2 H.length 0 x.length, fun _ H x => H ++ [.arr 2 (.map T.encPk T.noPk x)]⟩),
  (9046, ⟨Unit, fun _ _ _ => .sl 2 (.map T.encPk T.noPk []) .none, fun _ H _ => H⟩),
  (9045, ⟨List T.Pk, fun _ _ x => .sl 2 (.map T.encPk T.noPk x) .none, fun a H _ => H.set (rowD a) .gone⟩)]
noncomputable def rets : FuncId → List Ret := lookupR retD

-- 30
noncomputable def l30 : Nat → List Nat
  | 4 => [0, 3]
  | _ => []
noncomputable def u30 : Nat → Bool
  | _ => false
noncomputable def m30 : Nat → Bool
  | _ => false
noncomputable def g30 : Cfg := { N := 20, live := l30, cut := u30, mu := m30, ret := rets }
noncomputable def c30 : Go.Code := Go.Ab.bodyOf Go.Proofs.Try.f30
noncomputable def q30_0 : Nat → (AV → List AObj → Prop) → AQ := fun (n : Nat) (Post : AV → List AObj → Prop) => endQ Try.prog (resultsOf Try.f30) Post
noncomputable def q30_1 : Nat → (AV → List AObj → Prop) → AQ := fun (n : Nat) (Post : AV → List AObj → Prop) => seqQ (fun (s' : Slots) (H' : List AObj) => awp Try.prog g30 n (codeSnd (codeSnd (codeSnd c30))) s' H' (q30_0 n Post)) (q30_0 n Post)
noncomputable def q30_2 : Nat → (AV → List AObj → Prop) → AQ := fun (n : Nat) (Post : AV → List AObj → Prop) => blockQ 0 (q30_1 n Post)
noncomputable def c30_4 : Go.Code := codeFst (codeSnd (codeFst (codeSnd (codeSnd c30))))
theorem s30 : ∀ (s : List T.Pk) (Post : AV → List AObj → Prop),
  condP (decide ((↑(List.length s) : Int) > (60 : Int))) (Post (AV.bool true) [])
      (AWP Try.prog 20 0 c30_4 [(0, AV.sl 2 (Seq.map T.encPk T.noPk s) Tip.none), (3, AV.int IntKind.i64 (0 : Int))] [] (q30_2 0 Post)) →
    ASpec Try.prog 30 [AV.sl 2 (Seq.map T.encPk T.noPk s) Tip.none] [] Post := fun s Post h => Go.Ab.ASpec.of_vc g30 Go.Proofs.Try.func30 (by kernel_rfl) (by kernel_rfl) (by kernel_rfl) (Go.Ab.kc (by kernel_rfl) h)
theorem v30_4 : ∀ (s : List T.Pk) (i : Int) (n : Nat) (Post : AV → List AObj → Prop),
  condP (decide (i < (↑(List.length s) : Int)))
      (needP ((0 : Int) ≤ i ∧ i < (↑(List.length s) : Int))
        (condP (decide ((↑(ByteArray.size { data := List.toArray (Prod.fst (List.getD s (Int.toNat i) T.noPk)) }) : Int) > (200 : Int))) (Post (AV.bool true) [])
         (AWP Try.prog 20 n c30_4 [(0, AV.sl 2 (Seq.map T.encPk T.noPk s) Tip.none), (3, AV.int IntKind.i64 (IntKind.wrap IntKind.i64 (i + (1 : Int))))] []
         (q30_2 n Post))))
      (Post (AV.bool false) []) →
    AWP Try.prog 20 n c30_4 [(0, AV.sl 2 (Seq.map T.encPk T.noPk s) Tip.none), (3, AV.int IntKind.i64 i)] [] (q30_2 n Post) := fun s i n Post h => Go.Ab.AWP.loop' g30 (Cfg.live g30) c30_4 (by kernel_rfl) (by kernel_rfl) (Go.Ab.kc (by kernel_rfl) h)

-- 126
noncomputable def l126 : Nat → List Nat
  | _ => []
noncomputable def u126 : Nat → Bool
  | _ => false
noncomputable def m126 : Nat → Bool
  | _ => false
noncomputable def g126 : Cfg := { N := 16, live := l126, cut := u126, mu := m126, ret := rets }
theorem s126 : ∀ (p : T.Pk) (Post : AV → List AObj → Prop),
  (ASpec Try.prog 47 [AV.str { data := List.toArray (Prod.fst p) }] [AObj.cells [AV.str { data := List.toArray (Prod.fst p) }, AV.int IntKind.i64 (Prod.snd p)]]
      fun (r : AV) (H' : List AObj) =>
      ∃ (x : Bool),
        r = AV.bool x ∧
         H' = [AObj.cells [AV.str { data := List.toArray (Prod.fst p) }, AV.int IntKind.i64 (Prod.snd p)]] ∧
         condP x
         (condP (decide (Prod.snd p ≥ (0 : Int)))
         (Post (AV.bool (decide (Prod.snd p < (1000000000 : Int)))) [AObj.cells [AV.str { data := List.toArray (Prod.fst p) }, AV.int IntKind.i64 (Prod.snd p)]])
         (Post (AV.bool false) [AObj.cells [AV.str { data := List.toArray (Prod.fst p) }, AV.int IntKind.i64 (Prod.snd p)]]))
         (Post (AV.bool false) [AObj.cells [AV.str { data := List.toArray (Prod.fst p) }, AV.int IntKind.i64 (Prod.snd p)]])) →
    ASpec Try.prog 126 [AV.agg (T.encPk p)] [] Post := fun p Post h => Go.Ab.ASpec.of_vc g126 Go.Proofs.Try.func126 (by kernel_rfl) (by kernel_rfl) (by kernel_rfl) (Go.Ab.kc (by kernel_rfl) h)

-- 100
noncomputable def l100 : Nat → List Nat
  | 2 => [0, 5, 6, 7]
  | _ => []
noncomputable def u100 : Nat → Bool
  | _ => false
noncomputable def m100 : Nat → Bool
  | _ => false
noncomputable def g100 : Cfg := { N := 31, live := l100, cut := u100, mu := m100, ret := rets }
noncomputable def c100 : Go.Code := Go.Ab.bodyOf Go.Proofs.Try.f100
noncomputable def q100_0 : Nat → (AV → List AObj → Prop) → AQ := fun (n : Nat) (Post : AV → List AObj → Prop) => endQ Try.prog (resultsOf Try.f100) Post
noncomputable def q100_1 : Nat → (AV → List AObj → Prop) → AQ := fun (n : Nat) (Post : AV → List AObj → Prop) => seqQ (fun (s' : Slots) (H' : List AObj) => awp Try.prog g100 n (codeSnd (codeSnd c100)) s' H' (q100_0 n Post)) (q100_0 n Post)
noncomputable def q100_2 : Nat → (AV → List AObj → Prop) → AQ := fun (n : Nat) (Post : AV → List AObj → Prop) => blockQ 0 (q100_1 n Post)
noncomputable def c100_2 : Go.Code := codeFst (codeSnd (codeFst (codeSnd c100)))
theorem s100 : ∀ (s : List T.Pk) (Post : AV → List AObj → Prop),
  AWP Try.prog 31 0 c100_2
      [(0, AV.sl 2 (Seq.map T.encPk T.noPk s) Tip.none), (5, AV.sl 2 (Seq.map T.encPk T.noPk s) Tip.none), (6, AV.int IntKind.i64 (↑(List.length s) : Int)),
        (7, AV.int IntKind.i64 (0 : Int))]
      [] (q100_2 0 Post) →
    ASpec Try.prog 100 [AV.sl 2 (Seq.map T.encPk T.noPk s) Tip.none] [] Post := fun s Post h => Go.Ab.ASpec.of_vc g100 Go.Proofs.Try.func100 (by kernel_rfl) (by kernel_rfl) (by kernel_rfl) (Go.Ab.kc (by kernel_rfl) h)
theorem v100_2 : ∀ (s t : List T.Pk) (n i : Int) (n_1 : Nat) (Post : AV → List AObj → Prop),
  condP (decide (i < n))
      (needP ((0 : Int) ≤ i ∧ i < (↑(List.length t) : Int))
        (ASpec Try.prog 126 [AV.agg [AV.str { data := List.toArray (Prod.fst (List.getD t (Int.toNat i) T.noPk)) }, AV.int IntKind.i64 (Prod.snd (List.getD t (Int.toNat i) T.noPk))]]
         [AObj.cells [AV.str { data := List.toArray (Prod.fst (List.getD t (Int.toNat i) T.noPk)) }, AV.int IntKind.i64 (Prod.snd (List.getD t (Int.toNat i) T.noPk))]]
         fun (r : AV) (H' : List AObj) =>
         ∃ (x : Bool),
         r = AV.bool x ∧
         H' = [AObj.cells [AV.str { data := List.toArray (Prod.fst (List.getD t (Int.toNat i) T.noPk)) }, AV.int IntKind.i64 (Prod.snd (List.getD t (Int.toNat i) T.noPk))]] ∧
         condP (!x)
         (Post (AV.bool false) [AObj.cells [AV.str { data := List.toArray (Prod.fst (List.getD t (Int.toNat i) T.noPk)) }, AV.int IntKind.i64 (Prod.snd (List.getD t (Int.toNat i) T.noPk))]])
         (condP (decide (i > (0 : Int)))
         (needP ((0 : Int) ≤ IntKind.wrap IntKind.i64 (i - (1 : Int)) ∧ IntKind.wrap IntKind.i64 (i - (1 : Int)) < (↑(List.length s) : Int))
         (condP
         (Op.bytesLess (ByteArray.toList { data := List.toArray (Prod.fst (List.getD t (Int.toNat i) T.noPk)) })
         (ByteArray.toList { data := List.toArray (Prod.fst (List.getD s (Int.toNat (IntKind.wrap IntKind.i64 (i - (1 : Int)))) T.noPk)) }) ||
         ByteArray.toList { data := List.toArray (Prod.fst (List.getD t (Int.toNat i) T.noPk)) } ==
         ByteArray.toList { data := List.toArray (Prod.fst (List.getD s (Int.toNat (IntKind.wrap IntKind.i64 (i - (1 : Int)))) T.noPk)) })
         (Post (AV.bool false)
         [AObj.cells [AV.str { data := List.toArray (Prod.fst (List.getD t (Int.toNat i) T.noPk)) }, AV.int IntKind.i64 (Prod.snd (List.getD t (Int.toNat i) T.noPk))]])
         (AWP Try.prog 31 n_1 c100_2
         [(0, AV.sl 2 (Seq.map T.encPk T.noPk s) Tip.none), (5, AV.sl 2 (Seq.map T.encPk T.noPk t) Tip.none), (6, AV.int IntKind.i64 n),
         (7, AV.int IntKind.i64 (IntKind.wrap IntKind.i64 (i + (1 : Int))))]
         [AObj.cells [AV.str { data := List.toArray (Prod.fst (List.getD t (Int.toNat i) T.noPk)) }, AV.int IntKind.i64 (Prod.snd (List.getD t (Int.toNat i) T.noPk))]]
         (q100_2 n_1 Post))))
         (AWP Try.prog 31 n_1 c100_2
         [(0, AV.sl 2 (Seq.map T.encPk T.noPk s) Tip.none), (5, AV.sl 2 (Seq.map T.encPk T.noPk t) Tip.none), (6, AV.int IntKind.i64 n),
         (7, AV.int IntKind.i64 (IntKind.wrap IntKind.i64 (i + (1 : Int))))]
         [AObj.cells [AV.str { data := List.toArray (Prod.fst (List.getD t (Int.toNat i) T.noPk)) }, AV.int IntKind.i64 (Prod.snd (List.getD t (Int.toNat i) T.noPk))]]
         (q100_2 n_1 Post)))))
      (Post (AV.bool true) []) →
    AWP Try.prog 31 n_1 c100_2
      [(0, AV.sl 2 (Seq.map T.encPk T.noPk s) Tip.none), (5, AV.sl 2 (Seq.map T.encPk T.noPk t) Tip.none), (6, AV.int IntKind.i64 n),
        (7, AV.int IntKind.i64 i)]
      [] (q100_2 n_1 Post) := fun s t n i n Post h => Go.Ab.AWP.loop' g100 (Cfg.live g100) c100_2 (by kernel_rfl) (by kernel_rfl) (Go.Ab.kc (by kernel_rfl) h)

-- 53
noncomputable def l53 : Nat → List Nat
  | _ => []
noncomputable def u53 : Nat → Bool
  | _ => false
noncomputable def m53 : Nat → Bool
  | _ => false
noncomputable def g53 : Cfg := { N := 28, live := l53, cut := u53, mu := m53, ret := rets }
theorem s53 : ∀ (s : List T.Pk) (x : List UInt8) (Post : AV → List AObj → Prop),
  (ASpec Try.prog 72 [AV.sl 2 (Seq.map T.encPk T.noPk s) Tip.none, AV.str { data := List.toArray x }] [] fun (r : AV) (H' : List AObj) =>
      ∃ (x_1 : Int),
        r = AV.int IntKind.i64 x_1 ∧
         H' = [] ∧
         condP (x_1 == (↑(List.length s) : Int)) (Post (AV.tup [AV.int IntKind.i64 (0 : Int), AV.bool false]) [])
         (needP ((0 : Int) ≤ x_1 ∧ x_1 < (↑(List.length s) : Int))
         (condP (!ByteArray.toList { data := List.toArray (Prod.fst (List.getD s (Int.toNat x_1) T.noPk)) } == ByteArray.toList { data := List.toArray x })
         (Post (AV.tup [AV.int IntKind.i64 (0 : Int), AV.bool false]) [])
         (needP ((0 : Int) ≤ x_1 ∧ x_1 < (↑(List.length s) : Int)) (Post (AV.tup [AV.int IntKind.i64 (Prod.snd (List.getD s (Int.toNat x_1) T.noPk)), AV.bool true]) []))))) →
    ASpec Try.prog 53 [AV.sl 2 (Seq.map T.encPk T.noPk s) Tip.none, AV.str { data := List.toArray x }] [] Post := fun s x Post h => Go.Ab.ASpec.of_vc g53 Go.Proofs.Try.func53 (by kernel_rfl) (by kernel_rfl) (by kernel_rfl) (Go.Ab.kc (by kernel_rfl) h)

-- 128
noncomputable def l34 : Nat → List Nat
  | 3 => [0, 1, 5, 6]
  | _ => []
noncomputable def u34 : Nat → Bool
  | _ => false
noncomputable def m34 : Nat → Bool
  | _ => false
noncomputable def g34 : Cfg := { N := 28, live := l34, cut := u34, mu := m34, ret := rets }
noncomputable def c34 : Go.Code := Go.Ab.bodyOf Go.Proofs.Try.f34
noncomputable def q34_0 : Nat → (AV → List AObj → Prop) → AQ := fun (n : Nat) (Post : AV → List AObj → Prop) => endQ Try.prog (resultsOf Try.f34) Post
noncomputable def q34_1 : Nat → (AV → List AObj → Prop) → AQ := fun (n : Nat) (Post : AV → List AObj → Prop) => seqQ (fun (s' : Slots) (H' : List AObj) => awp Try.prog g34 n (codeSnd (codeSnd (codeSnd c34))) s' H' (q34_0 n Post)) (q34_0 n Post)
noncomputable def q34_2 : Nat → (AV → List AObj → Prop) → AQ := fun (n : Nat) (Post : AV → List AObj → Prop) => blockQ 0 (q34_1 n Post)
noncomputable def c34_3 : Go.Code := codeFst (codeSnd (codeFst (codeSnd (codeSnd c34))))
theorem s34 : ∀ (s : List T.Pk) (x : List UInt8) (Post : AV → List AObj → Prop),
  AWP Try.prog 28 0 c34_3
      [(0, AV.sl 2 (Seq.map T.encPk T.noPk s) Tip.none), (1, AV.str { data := List.toArray x }), (5, AV.sl 0 (Seq.raw []) Tip.nil),
        (6, AV.int IntKind.i64 (0 : Int))]
      [] (q34_2 0 Post) →
    ASpec Try.prog 34 [AV.sl 2 (Seq.map T.encPk T.noPk s) Tip.none, AV.str { data := List.toArray x }] [] Post := fun s x Post h => Go.Ab.ASpec.of_vc g34 Go.Proofs.Try.func34 (by kernel_rfl) (by kernel_rfl) (by kernel_rfl) (Go.Ab.kc (by kernel_rfl) h)
theorem v34_3 : ∀ (s o : List T.Pk) (x : List UInt8) (i : Int) (n : Nat) (Post : AV → List AObj → Prop),
  condP (decide (i < (↑(List.length s) : Int)))
      (needP ((0 : Int) ≤ i ∧ i < (↑(List.length s) : Int))
        (condP (!ByteArray.toList { data := List.toArray (Prod.fst (List.getD s (Int.toNat i) T.noPk)) } == ByteArray.toList { data := List.toArray x })
         (needP ((0 : Int) ≤ i ∧ i < (↑(List.length s) : Int))
         (needP ((List.length o + 1) * 24 ≤ 140737488351232)
         (AWP Try.prog 28 n c34_3
         [(0, AV.sl 2 (Seq.map T.encPk T.noPk s) Tip.none), (1, AV.str { data := List.toArray x }),
         (5,
         AV.sl 2
         (Seq.app (Seq.map T.encPk T.noPk o)
         (Seq.raw [[AV.str { data := List.toArray (Prod.fst (List.getD s (Int.toNat i) T.noPk)) }, AV.int IntKind.i64 (Prod.snd (List.getD s (Int.toNat i) T.noPk))]]))
         (Tip.tok 1)),
         (6, AV.int IntKind.i64 (IntKind.wrap IntKind.i64 (i + (1 : Int))))]
         [AObj.gone, AObj.tok] (q34_2 n Post))))
         (AWP Try.prog 28 n c34_3
         [(0, AV.sl 2 (Seq.map T.encPk T.noPk s) Tip.none), (1, AV.str { data := List.toArray x }),
         (5, AV.sl 2 (Seq.map T.encPk T.noPk o) (Tip.tok 0)), (6, AV.int IntKind.i64 (IntKind.wrap IntKind.i64 (i + (1 : Int))))]
         [AObj.tok] (q34_2 n Post))))
      (Post (AV.sl 2 (Seq.map T.encPk T.noPk o) (Tip.tok 0)) [AObj.tok]) →
    AWP Try.prog 28 n c34_3
      [(0, AV.sl 2 (Seq.map T.encPk T.noPk s) Tip.none), (1, AV.str { data := List.toArray x }), (5, AV.sl 2 (Seq.map T.encPk T.noPk o) (Tip.tok 0)),
        (6, AV.int IntKind.i64 i)]
      [AObj.tok] (q34_2 n Post) := fun s o x i n Post h => Go.Ab.AWP.loop' g34 (Cfg.live g34) c34_3 (by kernel_rfl) (by kernel_rfl) (Go.Ab.kc (by kernel_rfl) h)

end
end Dk
end

section
/- Printed: what the code of functions 137, 138, 136, 127, 115 asks for, by the framework's own reading of it; each line is checked against the code. -/

set_option linter.unusedVariables false
set_option maxRecDepth 100000
set_option maxHeartbeats 4000000
open Go Go.Ab Go.Proofs
namespace Sg
noncomputable section

noncomputable def addH (args : List AV) (H : List AObj) (o : AObj) : List AObj := match args with
  | .msl _ id _ _ :: _ => H.set id o
  | _ => H
noncomputable def addG (args : List AV) (H : List AObj) (o : AObj) : List AObj := match args with
  | .msl _ id _ _ :: _ => H.set id .gone ++ [o]
  | _ => H
noncomputable def headV : List AV → AV
  | v :: _ => v
  | [] => .bad
noncomputable def retG : List (Nat × Ret) := [
  (137, ⟨Int × Bool, fun _ _ x => .tup [.int .i64 x.1, .bool x.2], fun _ H _ => H⟩), (138, ⟨Int, fun _ _ x => .int .i64 x, fun _ H _ => H⟩), (136, ⟨Int, fun _ _ x => .int .i64 x, fun _ H _ => H⟩), (127, ⟨Bool, fun _ _ x => .bool x, fun _ H _ => H⟩), (9368, ⟨Int, fun _ _ x => .int .i64 x, fun _ H _ => H⟩),
  (9369, ⟨T.Span, fun _ H x => .msl 2 H.length 0 1, fun _ H x => H ++ [.arr 2 (.map T.encS (0, 0) [x])]⟩),
  (9369, ⟨List T.Span, fun a _ x => headV a, fun a H x => addH a H (.arr 2 (.map T.encS (0, 0) x))⟩),
  (9369, ⟨List T.Span, fun a H x => .msl 2 H.length 0 x.length, fun a H x => addG a H (.arr 2 (.map T.encS (0, 0) x))⟩),
  (9319, ⟨List T.Span, fun _ _ x => .sl 2 (.map T.encS (0, 0) x) .none, fun _ H _ => H⟩), (9258, ⟨List T.Span, fun _ _ x => .sl 2 (.map T.encS (0, 0) x) .none, fun _ H _ => H⟩), (9320, ⟨Bool, fun _ _ x => .bool x, fun _ H _ => H⟩), (9259, ⟨Bool, fun _ _ x => .bool x, fun _ H _ => H⟩), (9289, ⟨List T.Span, fun _ _ x => .sl 2 (.map T.encS (0, 0) x) .none, fun _ H _ => H⟩), (9157, ⟨List T.Span, fun _ _ x => .sl 2 (.map T.encS (0, 0) x) .none, fun _ H _ => H⟩), (115, ⟨List T.Span, fun _ _ x => .sl 2 (.map T.encS (0, 0) x) .none, fun _ H _ => H⟩),
  (9321, ⟨List T.Span, fun _ _ x => .sl 2 (.map T.encS (0, 0) x) .none, fun _ H _ => H⟩), (9260, ⟨List T.Span, fun _ _ x => .sl 2 (.map T.encS (0, 0) x) .none, fun _ H _ => H⟩), (9162, ⟨Bool, fun _ _ x => .bool x, fun _ H _ => H⟩), (9331, ⟨Bool, fun _ _ x => .bool x, fun _ H _ => H⟩), (9371, ⟨Bool, fun _ _ x => .bool x, fun _ H _ => H⟩), (9370, ⟨List Int, fun _ _ x => .sl 1 (.map encI 0 x) .none, fun _ H _ => H⟩), (9392, ⟨List Int, fun _ _ x => .sl 1 (.map encI 0 x) .none, fun _ H _ => H⟩),
  (9257, ⟨T.Term, fun _ _ x => .agg (T.encT x), fun _ H _ => H⟩), (9160, ⟨T.Term, fun _ _ x => .agg (T.encT x), fun _ H _ => H⟩), (9161, ⟨Bool, fun _ _ x => .bool x, fun _ H _ => H⟩), (9155, ⟨Bool, fun _ _ x => .bool x, fun _ H _ => H⟩), (9159, ⟨Bool, fun _ _ x => .bool x, fun _ H _ => H⟩), (9158, ⟨Bool, fun _ _ x => .bool x, fun _ H _ => H⟩), (9200, ⟨T.Term, fun _ _ x => .agg (T.encT x), fun _ H _ => H⟩), (9033, ⟨Bool, fun _ _ x => .bool x, fun _ H _ => H⟩), (9034, ⟨Bool, fun _ _ x => .bool x, fun _ H _ => H⟩), (9036, ⟨Bool, fun _ _ x => .bool x, fun _ H _ => H⟩), (9153, ⟨Bool, fun _ _ x => .bool x, fun _ H _ => H⟩)]
noncomputable def rets : FuncId → List Ret := lookupR (retG ++ C.retC ++ V.retL)

-- 137
noncomputable def l137 : Nat → List Nat
  | 3 => [0, 1, 2, 8, 9, 10]
  | _ => []
noncomputable def u137 : Nat → Bool
  | _ => false
noncomputable def m137 : Nat → Bool
  | _ => false
noncomputable def g137 : Cfg := { N := 49, live := l137, cut := u137, mu := m137, ret := rets }
noncomputable def c137 : Go.Code := Go.Ab.bodyOf Go.Proofs.Try.f137
noncomputable def q137_0 : Nat → (AV → List AObj → Prop) → AQ := fun (n : Nat) (Post : AV → List AObj → Prop) => endQ Try.prog (resultsOf Try.f137) Post
noncomputable def q137_1 : Nat → (AV → List AObj → Prop) → AQ := fun (n : Nat) (Post : AV → List AObj → Prop) => seqQ (fun (s' : Slots) (H' : List AObj) => awp Try.prog g137 n (codeSnd (codeSnd (codeSnd (codeSnd c137)))) s' H' (q137_0 n Post)) (q137_0 n Post)
noncomputable def q137_2 : Nat → (AV → List AObj → Prop) → AQ := fun (n : Nat) (Post : AV → List AObj → Prop) => blockQ 0 (q137_1 n Post)
noncomputable def c137_3 : Go.Code := codeFst (codeFst (codeSnd (codeSnd (codeSnd c137))))
theorem s137 : ∀ (l : List T.Span) (p : Int) (Post : AV → List AObj → Prop),
  AWP Try.prog 49 0 c137_3
      [(0, AV.sl 2 (Seq.map T.encS ((0 : Int), (0 : Int)) l) Tip.none), (1, AV.int IntKind.i64 p), (2, AV.fn (138 : FuncId) []),
        (8, AV.int IntKind.i64 (↑(List.length l) : Int)), (9, AV.int IntKind.i64 (0 : Int)), (10, AV.int IntKind.i64 (↑(List.length l) : Int))]
      [] (q137_2 0 Post) →
    ASpec Try.prog 137 [AV.sl 2 (Seq.map T.encS ((0 : Int), (0 : Int)) l) Tip.none, AV.int IntKind.i64 p, AV.fn (138 : FuncId) []] [] Post := fun l p Post h => Go.Ab.ASpec.of_vc g137 Go.Proofs.Try.func137 (by kernel_rfl) (by kernel_rfl) (by kernel_rfl) (Go.Ab.kc (by kernel_rfl) h)
theorem v137_3 : ∀ (l : List T.Span) (p n i j : Int) (n_1 : Nat) (Post : AV → List AObj → Prop),
  condP (decide (i < j))
      (needP ((0 : Int) ≤ (1 : Int))
        (needP
         ((0 : Int) ≤ IntKind.wrap IntKind.i64 (Int.fdiv (IntKind.wrap IntKind.u64 (IntKind.wrap IntKind.i64 (i + j))) (2 : Int)) ∧
         IntKind.wrap IntKind.i64 (Int.fdiv (IntKind.wrap IntKind.u64 (IntKind.wrap IntKind.i64 (i + j))) (2 : Int)) < (↑(List.length l) : Int))
         (ASpec Try.prog 138
         [AV.agg
         [AV.int IntKind.i64
         (Prod.fst (List.getD l (Int.toNat (IntKind.wrap IntKind.i64 (Int.fdiv (IntKind.wrap IntKind.u64 (IntKind.wrap IntKind.i64 (i + j))) (2 : Int)))) ((0 : Int), (0 : Int)))),
         AV.int IntKind.i64
         (Prod.snd (List.getD l (Int.toNat (IntKind.wrap IntKind.i64 (Int.fdiv (IntKind.wrap IntKind.u64 (IntKind.wrap IntKind.i64 (i + j))) (2 : Int)))) ((0 : Int), (0 : Int))))],
         AV.int IntKind.i64 p]
         [] fun (r : AV) (H' : List AObj) =>
         ∃ (x : Int),
         r = AV.int IntKind.i64 x ∧
         H' = [] ∧
         condP (decide (x < (0 : Int)))
         (AWP Try.prog 49 n_1 c137_3
         [(0, AV.sl 2 (Seq.map T.encS ((0 : Int), (0 : Int)) l) Tip.none), (1, AV.int IntKind.i64 p), (2, AV.fn (138 : FuncId) []),
         (8, AV.int IntKind.i64 n),
         (9,
         AV.int IntKind.i64 (IntKind.wrap IntKind.i64 (IntKind.wrap IntKind.i64 (Int.fdiv (IntKind.wrap IntKind.u64 (IntKind.wrap IntKind.i64 (i + j))) (2 : Int)) + (1 : Int)))),
         (10, AV.int IntKind.i64 j)]
         [] (q137_2 n_1 Post))
         (AWP Try.prog 49 n_1 c137_3
         [(0, AV.sl 2 (Seq.map T.encS ((0 : Int), (0 : Int)) l) Tip.none), (1, AV.int IntKind.i64 p), (2, AV.fn (138 : FuncId) []),
         (8, AV.int IntKind.i64 n), (9, AV.int IntKind.i64 i),
         (10, AV.int IntKind.i64 (IntKind.wrap IntKind.i64 (Int.fdiv (IntKind.wrap IntKind.u64 (IntKind.wrap IntKind.i64 (i + j))) (2 : Int))))]
         [] (q137_2 n_1 Post)))))
      (condP (decide (i < n))
        (needP ((0 : Int) ≤ i ∧ i < (↑(List.length l) : Int))
         (ASpec Try.prog 138
         [AV.agg [AV.int IntKind.i64 (Prod.fst (List.getD l (Int.toNat i) ((0 : Int), (0 : Int)))), AV.int IntKind.i64 (Prod.snd (List.getD l (Int.toNat i) ((0 : Int), (0 : Int))))],
         AV.int IntKind.i64 p]
         [] fun (r : AV) (H' : List AObj) => ∃ (x : Int), r = AV.int IntKind.i64 x ∧ H' = [] ∧ Post (AV.tup [AV.int IntKind.i64 i, AV.bool (x == (0 : Int))]) []))
        (Post (AV.tup [AV.int IntKind.i64 i, AV.bool false]) [])) →
    AWP Try.prog 49 n_1 c137_3
      [(0, AV.sl 2 (Seq.map T.encS ((0 : Int), (0 : Int)) l) Tip.none), (1, AV.int IntKind.i64 p), (2, AV.fn (138 : FuncId) []), (8, AV.int IntKind.i64 n),
        (9, AV.int IntKind.i64 i), (10, AV.int IntKind.i64 j)]
      [] (q137_2 n_1 Post) := fun l p n i j n Post h => Go.Ab.AWP.loop' g137 (Cfg.live g137) c137_3 (by kernel_rfl) (by kernel_rfl) (Go.Ab.kc (by kernel_rfl) h)

-- 138
noncomputable def l138 : Nat → List Nat
  | _ => []
noncomputable def u138 : Nat → Bool
  | _ => false
noncomputable def m138 : Nat → Bool
  | _ => false
noncomputable def g138 : Cfg := { N := 9, live := l138, cut := u138, mu := m138, ret := rets }
theorem s138 : ∀ (x : T.Span) (p : Int) (Post : AV → List AObj → Prop),
  condP (decide (Prod.snd x ≤ p)) (Post (AV.int IntKind.i64 (-1 : Int)) [AObj.cells [AV.int IntKind.i64 (Prod.fst x), AV.int IntKind.i64 (Prod.snd x)]])
      (Post (AV.int IntKind.i64 (1 : Int)) [AObj.cells [AV.int IntKind.i64 (Prod.fst x), AV.int IntKind.i64 (Prod.snd x)]]) →
    ASpec Try.prog 138 [AV.agg (T.encS x), AV.int IntKind.i64 p] [] Post := fun x p Post h => Go.Ab.ASpec.of_vc g138 Go.Proofs.Try.func138 (by kernel_rfl) (by kernel_rfl) (by kernel_rfl) (Go.Ab.kc (by kernel_rfl) h)

-- 136
noncomputable def l136 : Nat → List Nat
  | _ => []
noncomputable def u136 : Nat → Bool
  | _ => false
noncomputable def m136 : Nat → Bool
  | _ => false
noncomputable def g136 : Cfg := { N := 14, live := l136, cut := u136, mu := m136, ret := rets }
theorem s136 : ∀ (l : List T.Span) (p : Int) (Post : AV → List AObj → Prop),
  (ASpec Try.prog 137 [AV.sl 2 (Seq.map T.encS ((0 : Int), (0 : Int)) l) Tip.none, AV.int IntKind.i64 p, AV.fn 138 []] [] fun (r : AV) (H' : List AObj) =>
      ∃ (x : Int × Bool), r = AV.tup [AV.int IntKind.i64 (Prod.fst x), AV.bool (Prod.snd x)] ∧ H' = [] ∧ Post (AV.int IntKind.i64 (Prod.fst x)) []) →
    ASpec Try.prog 136 [AV.sl 2 (Seq.map T.encS ((0 : Int), (0 : Int)) l) Tip.none, AV.int IntKind.i64 p] [] Post := fun l p Post h => Go.Ab.ASpec.of_vc g136 Go.Proofs.Try.func136 (by kernel_rfl) (by kernel_rfl) (by kernel_rfl) (Go.Ab.kc (by kernel_rfl) h)

-- 127
noncomputable def l127 : Nat → List Nat
  | _ => []
noncomputable def u127 : Nat → Bool
  | _ => false
noncomputable def m127 : Nat → Bool
  | _ => false
noncomputable def g127 : Cfg := { N := 22, live := l127, cut := u127, mu := m127, ret := rets }
theorem s127 : ∀ (l : List T.Span) (p : Int) (Post : AV → List AObj → Prop),
  (ASpec Try.prog 136 [AV.sl 2 (Seq.map T.encS ((0 : Int), (0 : Int)) l) Tip.none, AV.int IntKind.i64 p] [] fun (r : AV) (H' : List AObj) =>
      ∃ (x : Int),
        r = AV.int IntKind.i64 x ∧
         H' = [] ∧
         condP (decide (x < (↑(List.length l) : Int)))
         (needP ((0 : Int) ≤ x ∧ x < (↑(List.length l) : Int)) (Post (AV.bool (decide (Prod.fst (List.getD l (Int.toNat x) ((0 : Int), (0 : Int))) ≤ p))) [])) (Post (AV.bool false) [])) →
    ASpec Try.prog 127 [AV.sl 2 (Seq.map T.encS ((0 : Int), (0 : Int)) l) Tip.none, AV.int IntKind.i64 p] [] Post := fun l p Post h => Go.Ab.ASpec.of_vc g127 Go.Proofs.Try.func127 (by kernel_rfl) (by kernel_rfl) (by kernel_rfl) (Go.Ab.kc (by kernel_rfl) h)

-- 115
end
end Sg
end

section
/- Choices as cells: needs, and picks. -/

open Go Go.Ab Go.Proofs
namespace T
abbrev Ch := List Need × List Pk
noncomputable def encCh (x : Ch) : List AV := [.sl 2 (.map encN ([], []) x.1) .none, .sl 2 (.map encPk noPk x.2) .none]
/-- what is asked: an index, needs, picks -/
noncomputable def encAk (root : List Need) (l : List Pk) : List AV := [.ptr 1 0, .sl 2 (.map encN ([], []) root) .none, .sl 2 (.map encPk noPk l) .none]
noncomputable def HF (es : Kn) (root : List Need) (l : List Pk) : List AObj := HX es ++ [.cells (encAk root l)]
/-- .. and what is seen -/
noncomputable def HV (es : Kn) (root : List Need) (l : List Pk) (o : List (List UInt8)) : List AObj :=
  HX es ++ [.cells [.sl 2 (.map encPk noPk l) .none], .cells (encAk root l), .cells [.ptr 3 0], .mp (.typed EB (seenM o)), .cells [.map 5], .cells [.fn 52 [.ptr 6 0, .ptr 2 0, .ptr 4 0, .ptr 7 0]]]
end T
end
