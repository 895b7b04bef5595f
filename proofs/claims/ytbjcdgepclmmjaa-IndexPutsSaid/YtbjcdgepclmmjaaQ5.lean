/- Q5: several of this proof's own texts, one behind the other: what each proves stands at its head. -/
import Derived.Test.YtbjcdgepclmmjaaProg
import Derived.Test.YtbjcdgepclmmjaaA3
section
/- Printed: what the code of functions 140, 141, 150, 151, 142, 143, 145, 144, 251, 146, 147, 148, 149, 250, 252 asks for, by the framework's own reading of it; each line is checked against the code. -/

set_option linter.unusedVariables false
set_option maxRecDepth 100000
set_option maxHeartbeats 4000000
open Go Go.Ab Go.Proofs
namespace V
noncomputable section

noncomputable def rd (bs : List UInt8) (p e : Int) : AObj := .cells [.sl 1 (.map encB 0 bs) .none, .int .i64 p, .int .i64 e]
noncomputable def upd3 (args : List AV) (H : List AObj) (p e : Int) : List AObj := match args with
  | .ptr id _ :: _ => match H[id]? with
    | some (.cells [b, _, _]) => H.set id (.cells [b, .int .i64 p, .int .i64 e])
    | _ => H
  | _ => H
noncomputable def upd2 (args : List AV) (H : List AObj) (s : ByteArray) (e : Int) : List AObj := match args with
  | .ptr id _ :: _ => H.set id (.cells [.str s, .int .i64 e])
  | _ => H
noncomputable def retL : List (Nat × Ret) := [
  (9016, ⟨Unit, fun _ _ _ => .bool true, fun _ H _ => H⟩),
  (140, ⟨List UInt8, fun _ H l => .sl 1 (.map encB 0 l) (.tok H.length), fun _ H _ => H ++ [.tok]⟩),
  (141, ⟨List UInt8, fun _ H l => .sl 1 (.map encB 0 l) (.tok H.length), fun _ H _ => H ++ [.tok]⟩),
  (9019, ⟨ByteArray, fun _ _ s => .str s, fun _ H _ => H⟩),
  (151, ⟨ByteArray, fun _ _ s => .str s, fun _ H _ => H⟩),
  (142, ⟨List UInt8, fun _ H _ => .ptr H.length 0, fun _ H l => H ++ [rd l 0 0]⟩),
  (143, ⟨Int × Int × Int, fun _ _ x => .int .i64 x.1, fun a H x => upd3 a H x.2.1 x.2.2⟩),
  (145, ⟨ByteArray × Int × Int, fun _ _ x => .str x.1, fun a H x => upd3 a H x.2.1 x.2.2⟩),
  (144, ⟨Int, fun _ _ x => .int .i64 x, fun _ H _ => H⟩),
  (251, ⟨Int, fun _ _ x => .int .i64 x, fun _ H _ => H⟩),
  (147, ⟨Int × ByteArray × Int, fun _ _ x => .int .i64 x.1, fun a H x => upd2 a H x.2.1 x.2.2⟩),
  (148, ⟨ByteArray × ByteArray × Int, fun _ _ x => .str x.1, fun a H x => upd2 a H x.2.1 x.2.2⟩),
  (9028, ⟨Int × Int, fun _ _ x => .tup [], fun a H x => upd3 a H x.1 x.2⟩),
  (9029, ⟨ByteArray × Int, fun _ _ x => .tup [], fun a H x => upd2 a H x.1 x.2⟩),
  (146, ⟨Int, fun _ _ x => .int .i64 x, fun _ H _ => H⟩),
  (149, ⟨Int, fun _ _ x => .int .i64 x, fun _ H _ => H⟩),
  (150, ⟨ByteArray, fun _ _ s => .str s, fun _ H _ => H⟩),
  (250, ⟨Int × Int × Int × Int, fun _ _ x => .tup [.int .i64 x.1, .int .i64 x.2.1], fun a H x => upd3 a H x.2.2.1 x.2.2.2⟩),
  (252, ⟨Int × Int × Int, fun _ _ x => .tup [.int .i64 x.1, .int .i64 x.2.1, .int .i64 x.2.2], fun _ H _ => H⟩)]
noncomputable def rets : FuncId → List Ret := lookupR retL

-- 140
noncomputable def u140 : Nat → Bool
  | _ => false
noncomputable def l150 : Nat → List Nat
  | 3 => [0, 3]
  | _ => []
noncomputable def l142 : Nat → List Nat
  | 3 => [3]
  | _ => []
noncomputable def u142 : Nat → Bool
  | 3 => true
  | _ => false
noncomputable def m142 : Nat → Bool
  | _ => true
noncomputable def g142 : Cfg := { N := 13, live := l142, cut := u142, mu := m142, ret := rets }
noncomputable def c142 : Go.Code := Go.Ab.bodyOf Go.Proofs.Try.f142
noncomputable def q142_0 : Nat → (AV → List AObj → Prop) → AQ := fun (n : Nat) (Post : AV → List AObj → Prop) => endQ Try.prog (resultsOf Try.f142) Post
noncomputable def c142_3 : Go.Code := codeSnd (codeSnd (codeSnd c142))
theorem s142 : ∀ (bs : List UInt8) (tip : Tip) (Post : AV → List AObj → Prop),
  needP
      ((0 : Int) ≤ (↑(List.length bs) : Int) ∧
        (↑(List.length bs) : Int) ≤ (↑(List.length bs) : Int) ∧ (↑(List.length bs) : Int) ≤ (9223372036854775807 : Int) ∧ (1 : Int) * (↑(List.length bs) : Int) ≤ (281474976710656 : Int))
      (needP (∀ (x : UInt8), List.all (encB x) oneAV = true)
        (needP (0 + List.length bs ≤ List.length (List.replicate (List.length bs) [AV.int IntKind.u8 (0 : Int)]) ∧ List.length bs ≤ List.length bs)
        (AWP Try.prog 13 0 c142_3 [(3, AV.msl 1 0 0 (List.length bs))]
        [AObj.arr 1 (copied (Seq.raw (List.replicate (List.length bs) [AV.int IntKind.u8 (0 : Int)])) 0 (Seq.map encB (0 : UInt8) bs))] (q142_0 0 Post)))) →
    ASpec Try.prog 142 [AV.sl 1 (Seq.map encB (0 : UInt8) bs) tip] [] Post := fun bs tip Post h => Go.Ab.ASpec.of_vc g142 Go.Proofs.Try.func142 (by kernel_rfl) (by kernel_rfl) (by kernel_rfl) (Go.Ab.kc (by kernel_rfl) h)
theorem v142_3 : ∀ (bs : List UInt8) (n : Nat) (Post : AV → List AObj → Prop),
  Post (AV.ptr 0 0) [AObj.cells [AV.sl 1 (Seq.map encB (0 : UInt8) bs) Tip.none, AV.int IntKind.i64 (0 : Int), AV.int IntKind.i64 (0 : Int)]] →
    AWP Try.prog 13 n c142_3 [(3, AV.sl 1 (Seq.map encB (0 : UInt8) bs) Tip.none)] [] (q142_0 n Post) := fun bs n Post h => Go.Ab.awp_sound g142 n _ _ _ _ (Go.Ab.kc (by kernel_rfl) h)

-- 143
noncomputable def l143 : Nat → List Nat
  | _ => []
noncomputable def u143 : Nat → Bool
  | _ => false
noncomputable def m143 : Nat → Bool
  | _ => false
noncomputable def g143 : Cfg := { N := 27, live := l143, cut := u143, mu := m143, ret := rets }
theorem s143 : ∀ (bs : List UInt8) (p e most : Int) (Post : AV → List AObj → Prop),
  condP (e != (0 : Int)) (Post (AV.int IntKind.i64 (0 : Int)) [AObj.cells [AV.sl 1 (Seq.map encB (0 : UInt8) bs) Tip.none, AV.int IntKind.i64 p, AV.int IntKind.i64 e]])
      (ASpec Try.prog 250 [AV.ptr 0 0, AV.int IntKind.i64 most]
        [AObj.cells [AV.sl 1 (Seq.map encB (0 : UInt8) bs) Tip.none, AV.int IntKind.i64 p, AV.int IntKind.i64 e]] fun (r : AV) (H' : List AObj) =>
        ∃ (x : Int × Int × Int × Int),
        r = AV.tup [AV.int IntKind.i64 (Prod.fst x), AV.int IntKind.i64 (Prod.fst (Prod.snd x))] ∧
        H' = [AObj.cells [AV.sl 1 (Seq.map encB (0 : UInt8) bs) Tip.none, AV.int IntKind.i64 (Prod.fst (Prod.snd (Prod.snd x))), AV.int IntKind.i64 (Prod.snd (Prod.snd (Prod.snd x)))]] ∧
        Post (AV.int IntKind.i64 (Prod.fst x))
        [AObj.cells [AV.sl 1 (Seq.map encB (0 : UInt8) bs) Tip.none, AV.int IntKind.i64 (Prod.fst (Prod.snd x)), AV.int IntKind.i64 (Prod.snd (Prod.snd (Prod.snd x)))]]) →
    ASpec Try.prog 143 [AV.ptr 0 0, AV.int IntKind.i64 most] [rd bs p e] Post := fun bs p e most Post h => Go.Ab.ASpec.of_vc g143 Go.Proofs.Try.func143 (by kernel_rfl) (by kernel_rfl) (by kernel_rfl) (Go.Ab.kc (by kernel_rfl) h)
noncomputable def l145 : Nat → List Nat
  | _ => []
noncomputable def u145 : Nat → Bool
  | _ => false
noncomputable def m145 : Nat → Bool
  | _ => false
noncomputable def g145 : Cfg := { N := 56, live := l145, cut := u145, mu := m145, ret := rets }
theorem s145 : ∀ (bs : List UInt8) (p e most : Int) (Post : AV → List AObj → Prop),
  condP (e != (0 : Int)) (Post (AV.str { data := #[] }) [AObj.cells [AV.sl 1 (Seq.map encB (0 : UInt8) bs) Tip.none, AV.int IntKind.i64 p, AV.int IntKind.i64 e]])
      (ASpec Try.prog 250 [AV.ptr 0 0, AV.int IntKind.i64 most]
        [AObj.cells [AV.sl 1 (Seq.map encB (0 : UInt8) bs) Tip.none, AV.int IntKind.i64 p, AV.int IntKind.i64 e]] fun (r : AV) (H' : List AObj) =>
        ∃ (x : Int × Int × Int × Int),
        r = AV.tup [AV.int IntKind.i64 (Prod.fst x), AV.int IntKind.i64 (Prod.fst (Prod.snd x))] ∧
        H' = [AObj.cells [AV.sl 1 (Seq.map encB (0 : UInt8) bs) Tip.none, AV.int IntKind.i64 (Prod.fst (Prod.snd (Prod.snd x))), AV.int IntKind.i64 (Prod.snd (Prod.snd (Prod.snd x)))]] ∧
        condP (Prod.snd (Prod.snd (Prod.snd x)) != (0 : Int))
        (Post (AV.str { data := #[] })
        [AObj.cells [AV.sl 1 (Seq.map encB (0 : UInt8) bs) Tip.none, AV.int IntKind.i64 (Prod.fst (Prod.snd (Prod.snd x))), AV.int IntKind.i64 (Prod.snd (Prod.snd (Prod.snd x)))]])
        (condP (decide (Prod.fst x > IntKind.wrap IntKind.i64 ((↑(List.length bs) : Int) - Prod.fst (Prod.snd x))))
        (Post (AV.str { data := #[] })
        [AObj.cells [AV.sl 1 (Seq.map encB (0 : UInt8) bs) Tip.none, AV.int IntKind.i64 (Prod.fst (Prod.snd (Prod.snd x))), AV.int IntKind.i64 (2 : Int)]])
        (needP
        ((0 : Int) ≤ Prod.fst (Prod.snd x) ∧
        Prod.fst (Prod.snd x) ≤ IntKind.wrap IntKind.i64 (Prod.fst (Prod.snd x) + Prod.fst x) ∧ IntKind.wrap IntKind.i64 (Prod.fst (Prod.snd x) + Prod.fst x) ≤ (↑(List.length bs) : Int))
        (needP
        (allBytes (Seq.map encB (0 : UInt8) (List.drop (Int.toNat (Prod.fst (Prod.snd x))) (List.take (Int.toNat (IntKind.wrap IntKind.i64 (Prod.fst (Prod.snd x) + Prod.fst x))) bs))))
        (Post
        (AV.str
        (bytesOf
        (Seq.map encB (0 : UInt8) (List.drop (Int.toNat (Prod.fst (Prod.snd x))) (List.take (Int.toNat (IntKind.wrap IntKind.i64 (Prod.fst (Prod.snd x) + Prod.fst x))) bs)))))
        [AObj.cells
        [AV.sl 1 (Seq.map encB (0 : UInt8) bs) Tip.none, AV.int IntKind.i64 (IntKind.wrap IntKind.i64 (Prod.fst (Prod.snd x) + Prod.fst x)),
        AV.int IntKind.i64 (Prod.snd (Prod.snd (Prod.snd x)))]]))))) →
    ASpec Try.prog 145 [AV.ptr 0 0, AV.int IntKind.i64 most] [rd bs p e] Post := fun bs p e most Post h => Go.Ab.ASpec.of_vc g145 Go.Proofs.Try.func145 (by kernel_rfl) (by kernel_rfl) (by kernel_rfl) (Go.Ab.kc (by kernel_rfl) h)
noncomputable def l144 : Nat → List Nat
  | _ => []
noncomputable def u144 : Nat → Bool
  | _ => false
noncomputable def m144 : Nat → Bool
  | _ => false
noncomputable def g144 : Cfg := { N := 9, live := l144, cut := u144, mu := m144, ret := rets }
theorem s144 : ∀ (bs : List UInt8) (p e : Int) (Post : AV → List AObj → Prop),
  Post (AV.int IntKind.i64 e) [AObj.cells [AV.sl 1 (Seq.map encB (0 : UInt8) bs) Tip.none, AV.int IntKind.i64 p, AV.int IntKind.i64 e]] →
    ASpec Try.prog 144 [AV.ptr 0 0] [rd bs p e] Post := fun bs p e Post h => Go.Ab.ASpec.of_vc g144 Go.Proofs.Try.func144 (by kernel_rfl) (by kernel_rfl) (by kernel_rfl) (Go.Ab.kc (by kernel_rfl) h)
noncomputable def l251 : Nat → List Nat
  | _ => []
noncomputable def u251 : Nat → Bool
  | _ => false
noncomputable def m251 : Nat → Bool
  | _ => false
noncomputable def g251 : Cfg := { N := 15, live := l251, cut := u251, mu := m251, ret := rets }
theorem s251 : ∀ (bs : List UInt8) (p e : Int) (Post : AV → List AObj → Prop),
  Post (AV.int IntKind.i64 (IntKind.wrap IntKind.i64 ((↑(List.length bs) : Int) - p)))
      [AObj.cells [AV.sl 1 (Seq.map encB (0 : UInt8) bs) Tip.none, AV.int IntKind.i64 p, AV.int IntKind.i64 e]] →
    ASpec Try.prog 251 [AV.ptr 0 0] [rd bs p e] Post := fun bs p e Post h => Go.Ab.ASpec.of_vc g251 Go.Proofs.Try.func251 (by kernel_rfl) (by kernel_rfl) (by kernel_rfl) (Go.Ab.kc (by kernel_rfl) h)
noncomputable def l146 : Nat → List Nat
  | _ => []
noncomputable def u146 : Nat → Bool
  | _ => false
noncomputable def m146 : Nat → Bool
  | _ => false
noncomputable def g146 : Cfg := { N := 14, live := l146, cut := u146, mu := m146, ret := rets }
theorem s146 : ∀ (bs : List UInt8) (p e : Int) (Post : AV → List AObj → Prop),
  (ASpec Try.prog 144 [AV.ptr 0 0] [AObj.cells [AV.sl 1 (Seq.map encB (0 : UInt8) bs) Tip.none, AV.int IntKind.i64 p, AV.int IntKind.i64 e]]
      fun (r : AV) (H' : List AObj) =>
      ∃ (x : Int),
        r = AV.int IntKind.i64 x ∧
        H' = [AObj.cells [AV.sl 1 (Seq.map encB (0 : UInt8) bs) Tip.none, AV.int IntKind.i64 p, AV.int IntKind.i64 e]] ∧
        condP (x != (0 : Int)) (Post (AV.int IntKind.i64 x) [AObj.cells [AV.sl 1 (Seq.map encB (0 : UInt8) bs) Tip.none, AV.int IntKind.i64 p, AV.int IntKind.i64 e]])
        (ASpec Try.prog 251 [AV.ptr 0 0] [AObj.cells [AV.sl 1 (Seq.map encB (0 : UInt8) bs) Tip.none, AV.int IntKind.i64 p, AV.int IntKind.i64 e]]
        fun (r : AV) (H' : List AObj) =>
        ∃ (x : Int),
        r = AV.int IntKind.i64 x ∧
        H' = [AObj.cells [AV.sl 1 (Seq.map encB (0 : UInt8) bs) Tip.none, AV.int IntKind.i64 p, AV.int IntKind.i64 e]] ∧
        condP (decide (x > (0 : Int)))
        (Post (AV.int IntKind.i64 (3 : Int)) [AObj.cells [AV.sl 1 (Seq.map encB (0 : UInt8) bs) Tip.none, AV.int IntKind.i64 p, AV.int IntKind.i64 e]])
        (Post (AV.int IntKind.i64 (0 : Int)) [AObj.cells [AV.sl 1 (Seq.map encB (0 : UInt8) bs) Tip.none, AV.int IntKind.i64 p, AV.int IntKind.i64 e]]))) →
    ASpec Try.prog 146 [AV.ptr 0 0] [rd bs p e] Post := fun bs p e Post h => Go.Ab.ASpec.of_vc g146 Go.Proofs.Try.func146 (by kernel_rfl) (by kernel_rfl) (by kernel_rfl) (Go.Ab.kc (by kernel_rfl) h)
noncomputable def l147 : Nat → List Nat
  | _ => []
noncomputable def u147 : Nat → Bool
  | _ => false
noncomputable def m147 : Nat → Bool
  | _ => false
noncomputable def g147 : Cfg := { N := 37, live := l147, cut := u147, mu := m147, ret := rets }
theorem s147 : ∀ (s : ByteArray) (e most : Int) (Post : AV → List AObj → Prop),
  condP (e != (0 : Int)) (Post (AV.int IntKind.i64 (0 : Int)) [AObj.cells [AV.str s, AV.int IntKind.i64 e]])
      (ASpec Try.prog 252 [AV.str s, AV.int IntKind.i64 most] [AObj.cells [AV.str s, AV.int IntKind.i64 e]] fun (r : AV) (H' : List AObj) =>
        ∃ (x : Int × Int × Int),
        r = AV.tup [AV.int IntKind.i64 (Prod.fst x), AV.int IntKind.i64 (Prod.fst (Prod.snd x)), AV.int IntKind.i64 (Prod.snd (Prod.snd x))] ∧
        H' = [AObj.cells [AV.str s, AV.int IntKind.i64 e]] ∧
        needP ((0 : Int) ≤ Prod.fst (Prod.snd x) ∧ Prod.fst (Prod.snd x) ≤ (↑(ByteArray.size s) : Int))
        (Post (AV.int IntKind.i64 (Prod.fst x))
        [AObj.cells [AV.str (ByteArray.extract s (Int.toNat (Prod.fst (Prod.snd x))) (ByteArray.size s)), AV.int IntKind.i64 (Prod.snd (Prod.snd x))]])) →
    ASpec Try.prog 147 [AV.ptr 0 0, AV.int IntKind.i64 most] [AObj.cells [AV.str s, AV.int IntKind.i64 e]] Post := fun s e most Post h => Go.Ab.ASpec.of_vc g147 Go.Proofs.Try.func147 (by kernel_rfl) (by kernel_rfl) (by kernel_rfl) (Go.Ab.kc (by kernel_rfl) h)

-- 148
noncomputable def l148 : Nat → List Nat
  | _ => []
noncomputable def u148 : Nat → Bool
  | _ => false
noncomputable def m148 : Nat → Bool
  | _ => false
noncomputable def g148 : Cfg := { N := 64, live := l148, cut := u148, mu := m148, ret := rets }
theorem s148 : ∀ (s : ByteArray) (e most : Int) (Post : AV → List AObj → Prop),
  condP (e != (0 : Int)) (Post (AV.str { data := #[] }) [AObj.cells [AV.str s, AV.int IntKind.i64 e]])
      (ASpec Try.prog 252 [AV.str s, AV.int IntKind.i64 most] [AObj.cells [AV.str s, AV.int IntKind.i64 e]] fun (r : AV) (H' : List AObj) =>
        ∃ (x : Int × Int × Int),
        r = AV.tup [AV.int IntKind.i64 (Prod.fst x), AV.int IntKind.i64 (Prod.fst (Prod.snd x)), AV.int IntKind.i64 (Prod.snd (Prod.snd x))] ∧
        H' = [AObj.cells [AV.str s, AV.int IntKind.i64 e]] ∧
        condP (Prod.snd (Prod.snd x) == (0 : Int))
        (condP (decide (Prod.fst x > IntKind.wrap IntKind.i64 ((↑(ByteArray.size s) : Int) - Prod.fst (Prod.snd x))))
        (Post (AV.str { data := #[] }) [AObj.cells [AV.str s, AV.int IntKind.i64 (2 : Int)]])
        (condP (Prod.snd (Prod.snd x) != (0 : Int)) (Post (AV.str { data := #[] }) [AObj.cells [AV.str s, AV.int IntKind.i64 (Prod.snd (Prod.snd x))]])
        (needP
        ((0 : Int) ≤ Prod.fst (Prod.snd x) ∧
        Prod.fst (Prod.snd x) ≤ IntKind.wrap IntKind.i64 (Prod.fst (Prod.snd x) + Prod.fst x) ∧
        IntKind.wrap IntKind.i64 (Prod.fst (Prod.snd x) + Prod.fst x) ≤ (↑(ByteArray.size s) : Int))
        (needP ((0 : Int) ≤ IntKind.wrap IntKind.i64 (Prod.fst (Prod.snd x) + Prod.fst x) ∧ IntKind.wrap IntKind.i64 (Prod.fst (Prod.snd x) + Prod.fst x) ≤ (↑(ByteArray.size s) : Int))
        (Post (AV.str (ByteArray.extract s (Int.toNat (Prod.fst (Prod.snd x))) (Int.toNat (IntKind.wrap IntKind.i64 (Prod.fst (Prod.snd x) + Prod.fst x)))))
        [AObj.cells
        [AV.str (ByteArray.extract s (Int.toNat (IntKind.wrap IntKind.i64 (Prod.fst (Prod.snd x) + Prod.fst x))) (ByteArray.size s)),
        AV.int IntKind.i64 (Prod.snd (Prod.snd x))]])))))
        (condP (Prod.snd (Prod.snd x) != (0 : Int)) (Post (AV.str { data := #[] }) [AObj.cells [AV.str s, AV.int IntKind.i64 (Prod.snd (Prod.snd x))]])
        (needP
        ((0 : Int) ≤ Prod.fst (Prod.snd x) ∧
        Prod.fst (Prod.snd x) ≤ IntKind.wrap IntKind.i64 (Prod.fst (Prod.snd x) + Prod.fst x) ∧
        IntKind.wrap IntKind.i64 (Prod.fst (Prod.snd x) + Prod.fst x) ≤ (↑(ByteArray.size s) : Int))
        (needP ((0 : Int) ≤ IntKind.wrap IntKind.i64 (Prod.fst (Prod.snd x) + Prod.fst x) ∧ IntKind.wrap IntKind.i64 (Prod.fst (Prod.snd x) + Prod.fst x) ≤ (↑(ByteArray.size s) : Int))
        (Post (AV.str (ByteArray.extract s (Int.toNat (Prod.fst (Prod.snd x))) (Int.toNat (IntKind.wrap IntKind.i64 (Prod.fst (Prod.snd x) + Prod.fst x)))))
        [AObj.cells
        [AV.str (ByteArray.extract s (Int.toNat (IntKind.wrap IntKind.i64 (Prod.fst (Prod.snd x) + Prod.fst x))) (ByteArray.size s)),
        AV.int IntKind.i64 (Prod.snd (Prod.snd x))]]))))) →
    ASpec Try.prog 148 [AV.ptr 0 0, AV.int IntKind.i64 most] [AObj.cells [AV.str s, AV.int IntKind.i64 e]] Post := fun s e most Post h => Go.Ab.ASpec.of_vc g148 Go.Proofs.Try.func148 (by kernel_rfl) (by kernel_rfl) (by kernel_rfl) (Go.Ab.kc (by kernel_rfl) h)

-- 149
noncomputable def l149 : Nat → List Nat
  | _ => []
noncomputable def u149 : Nat → Bool
  | _ => false
noncomputable def m149 : Nat → Bool
  | _ => false
noncomputable def g149 : Cfg := { N := 19, live := l149, cut := u149, mu := m149, ret := rets }
theorem s149 : ∀ (s : ByteArray) (e : Int) (Post : AV → List AObj → Prop),
  condP (e == (0 : Int))
      (condP (!ByteArray.toList s == ByteArray.toList { data := #[] }) (Post (AV.int IntKind.i64 (3 : Int)) [AObj.cells [AV.str s, AV.int IntKind.i64 e]])
        (Post (AV.int IntKind.i64 e) [AObj.cells [AV.str s, AV.int IntKind.i64 e]]))
      (Post (AV.int IntKind.i64 e) [AObj.cells [AV.str s, AV.int IntKind.i64 e]]) →
    ASpec Try.prog 149 [AV.ptr 0 0] [AObj.cells [AV.str s, AV.int IntKind.i64 e]] Post := fun s e Post h => Go.Ab.ASpec.of_vc g149 Go.Proofs.Try.func149 (by kernel_rfl) (by kernel_rfl) (by kernel_rfl) (Go.Ab.kc (by kernel_rfl) h)

-- 250
noncomputable def l250 : Nat → List Nat
  | 9 => [0, 1, 6, 44]
  | _ => []
noncomputable def u250 : Nat → Bool
  | _ => false
noncomputable def m250 : Nat → Bool
  | _ => false
noncomputable def g250 : Cfg := { N := 113, live := l250, cut := u250, mu := m250, ret := rets }
noncomputable def c250 : Go.Code := Go.Ab.bodyOf Go.Proofs.Try.f250
noncomputable def q250_0 : Nat → (AV → List AObj → Prop) → AQ := fun (n : Nat) (Post : AV → List AObj → Prop) => endQ Try.prog (resultsOf Try.f250) Post
noncomputable def q250_1 : Nat → (AV → List AObj → Prop) → AQ := fun (n : Nat) (Post : AV → List AObj → Prop) => seqQ (fun (s' : Slots) (H' : List AObj) => awp Try.prog g250 n (codeSnd (codeSnd (codeSnd (codeSnd (codeSnd c250))))) s' H' (q250_0 n Post)) (q250_0 n Post)
noncomputable def q250_2 : Nat → (AV → List AObj → Prop) → AQ := fun (n : Nat) (Post : AV → List AObj → Prop) => blockQ 0 (q250_1 n Post)
noncomputable def c250_9 : Go.Code := codeFst (codeSnd (codeFst (codeSnd (codeSnd (codeSnd (codeSnd c250))))))
theorem s250 : ∀ (bs : List UInt8) (p e most : Int) (Post : AV → List AObj → Prop),
  condP (p == (↑(List.length bs) : Int))
      ((AV.int IntKind.i64 p = AV.int IntKind.i64 p ∧
        [AObj.cells [AV.sl 1 (Seq.map encB (0 : UInt8) bs) Tip.none, AV.int IntKind.i64 p, AV.int IntKind.i64 (2 : Int)]] =
        [AObj.cells [AV.sl 1 (Seq.map encB (0 : UInt8) bs) Tip.none, AV.int IntKind.i64 p, AV.int IntKind.i64 (2 : Int)]]) ∧
        Post (AV.tup [AV.int IntKind.i64 (0 : Int), AV.int IntKind.i64 p]) [AObj.cells [AV.sl 1 (Seq.map encB (0 : UInt8) bs) Tip.none, AV.int IntKind.i64 p, AV.int IntKind.i64 (2 : Int)]])
      (needP ((0 : Int) ≤ p ∧ p < (↑(List.length bs) : Int))
        (condP ((↑(UInt8.toNat (List.getD bs (Int.toNat p) (0 : UInt8))) : Int) == (128 : Int))
        ((AV.int IntKind.i64 p = AV.int IntKind.i64 p ∧
        [AObj.cells [AV.sl 1 (Seq.map encB (0 : UInt8) bs) Tip.none, AV.int IntKind.i64 p, AV.int IntKind.i64 (3 : Int)]] =
        [AObj.cells [AV.sl 1 (Seq.map encB (0 : UInt8) bs) Tip.none, AV.int IntKind.i64 p, AV.int IntKind.i64 (3 : Int)]]) ∧
        Post (AV.tup [AV.int IntKind.i64 (0 : Int), AV.int IntKind.i64 p])
        [AObj.cells [AV.sl 1 (Seq.map encB (0 : UInt8) bs) Tip.none, AV.int IntKind.i64 p, AV.int IntKind.i64 (3 : Int)]])
        (AWP Try.prog 113 1 c250_9
        [(0, AV.ptr 0 0), (1, AV.int IntKind.i64 most), (6, AV.int IntKind.i64 (0 : Int)), (44, AV.int IntKind.i64 (0 : Int))]
        [AObj.cells [AV.sl 1 (Seq.map encB (0 : UInt8) bs) Tip.none, AV.int IntKind.i64 p, AV.int IntKind.i64 e]] (q250_2 1 Post)))) →
    ASpec Try.prog 250 [AV.ptr 0 0, AV.int IntKind.i64 most] [rd bs p e] Post := fun bs p e most Post h => Go.Ab.ASpec.of_vc g250 Go.Proofs.Try.func250 (by kernel_rfl) (by kernel_rfl) (by kernel_rfl) (Go.Ab.kc (by kernel_rfl) h)
theorem v250_9 : ∀ (bs : List UInt8) (p e most x i : Int) (n : Nat) (Post : AV → List AObj → Prop),
  condP (decide (i < (6 : Int)))
      (condP (IntKind.wrap IntKind.i64 (p + i) == (↑(List.length bs) : Int))
        ((AV.int IntKind.i64 p = AV.int IntKind.i64 p ∧
        [AObj.cells [AV.sl 1 (Seq.map encB (0 : UInt8) bs) Tip.none, AV.int IntKind.i64 p, AV.int IntKind.i64 (2 : Int)]] =
        [AObj.cells [AV.sl 1 (Seq.map encB (0 : UInt8) bs) Tip.none, AV.int IntKind.i64 p, AV.int IntKind.i64 (2 : Int)]]) ∧
        Post (AV.tup [AV.int IntKind.i64 (0 : Int), AV.int IntKind.i64 p]) [AObj.cells [AV.sl 1 (Seq.map encB (0 : UInt8) bs) Tip.none, AV.int IntKind.i64 p, AV.int IntKind.i64 (2 : Int)]])
        (needP ((0 : Int) ≤ IntKind.wrap IntKind.i64 (p + i) ∧ IntKind.wrap IntKind.i64 (p + i) < (↑(List.length bs) : Int))
        (needP ((128 : Int) ≠ (0 : Int))
        (condP (decide (IntKind.wrap IntKind.i64 (↑(UInt8.toNat (List.getD bs (Int.toNat (IntKind.wrap IntKind.i64 (p + i))) (0 : UInt8))) : Int) ≥ (128 : Int)))
        (AWP Try.prog 113 n c250_9
        [(0, AV.ptr 0 0), (1, AV.int IntKind.i64 most),
        (6,
        AV.int IntKind.i64
        (IntKind.wrap IntKind.i64
        (IntKind.wrap IntKind.i64 (x * (128 : Int)) +
        Int.tmod (IntKind.wrap IntKind.i64 (↑(UInt8.toNat (List.getD bs (Int.toNat (IntKind.wrap IntKind.i64 (p + i))) (0 : UInt8))) : Int)) (128 : Int)))),
        (44, AV.int IntKind.i64 (IntKind.wrap IntKind.i64 (i + (1 : Int))))]
        [AObj.cells [AV.sl 1 (Seq.map encB (0 : UInt8) bs) Tip.none, AV.int IntKind.i64 p, AV.int IntKind.i64 e]] (q250_2 n Post))
        (condP
        (decide
        (IntKind.wrap IntKind.i64
        (IntKind.wrap IntKind.i64 (x * (128 : Int)) +
        Int.tmod (IntKind.wrap IntKind.i64 (↑(UInt8.toNat (List.getD bs (Int.toNat (IntKind.wrap IntKind.i64 (p + i))) (0 : UInt8))) : Int)) (128 : Int)) >
        if (1099511627776 : Int) < most then (1099511627776 : Int) else most))
        ((AV.int IntKind.i64 p = AV.int IntKind.i64 p ∧
        [AObj.cells [AV.sl 1 (Seq.map encB (0 : UInt8) bs) Tip.none, AV.int IntKind.i64 p, AV.int IntKind.i64 (4 : Int)]] =
        [AObj.cells [AV.sl 1 (Seq.map encB (0 : UInt8) bs) Tip.none, AV.int IntKind.i64 p, AV.int IntKind.i64 (4 : Int)]]) ∧
        Post (AV.tup [AV.int IntKind.i64 (0 : Int), AV.int IntKind.i64 p])
        [AObj.cells [AV.sl 1 (Seq.map encB (0 : UInt8) bs) Tip.none, AV.int IntKind.i64 p, AV.int IntKind.i64 (4 : Int)]])
        ((AV.int IntKind.i64 p = AV.int IntKind.i64 p ∧
        [AObj.cells [AV.sl 1 (Seq.map encB (0 : UInt8) bs) Tip.none, AV.int IntKind.i64 p, AV.int IntKind.i64 e]] =
        [AObj.cells [AV.sl 1 (Seq.map encB (0 : UInt8) bs) Tip.none, AV.int IntKind.i64 p, AV.int IntKind.i64 e]]) ∧
        Post
        (AV.tup
        [AV.int IntKind.i64
        (IntKind.wrap IntKind.i64
        (IntKind.wrap IntKind.i64 (x * (128 : Int)) +
        Int.tmod (IntKind.wrap IntKind.i64 (↑(UInt8.toNat (List.getD bs (Int.toNat (IntKind.wrap IntKind.i64 (p + i))) (0 : UInt8))) : Int)) (128 : Int))),
        AV.int IntKind.i64 (IntKind.wrap IntKind.i64 (IntKind.wrap IntKind.i64 (p + i) + (1 : Int)))])
        [AObj.cells [AV.sl 1 (Seq.map encB (0 : UInt8) bs) Tip.none, AV.int IntKind.i64 p, AV.int IntKind.i64 e]]))))))
      ((AV.int IntKind.i64 p = AV.int IntKind.i64 p ∧
        [AObj.cells [AV.sl 1 (Seq.map encB (0 : UInt8) bs) Tip.none, AV.int IntKind.i64 p, AV.int IntKind.i64 (4 : Int)]] =
        [AObj.cells [AV.sl 1 (Seq.map encB (0 : UInt8) bs) Tip.none, AV.int IntKind.i64 p, AV.int IntKind.i64 (4 : Int)]]) ∧
        Post (AV.tup [AV.int IntKind.i64 (0 : Int), AV.int IntKind.i64 p]) [AObj.cells [AV.sl 1 (Seq.map encB (0 : UInt8) bs) Tip.none, AV.int IntKind.i64 p, AV.int IntKind.i64 (4 : Int)]]) →
    AWP Try.prog 113 n c250_9 [(0, AV.ptr 0 0), (1, AV.int IntKind.i64 most), (6, AV.int IntKind.i64 x), (44, AV.int IntKind.i64 i)] [rd bs p e]
      (q250_2 n Post) := fun bs p e most x i n Post h => Go.Ab.AWP.loop' g250 (Cfg.live g250) c250_9 (by kernel_rfl) (by kernel_rfl) (Go.Ab.kc (by kernel_rfl) h)

-- 252
noncomputable def l252 : Nat → List Nat
  | 6 => [0, 1, 7]
  | 14 => [0, 1, 7, 8, 9]
  | _ => []
noncomputable def u252 : Nat → Bool
  | _ => false
noncomputable def m252 : Nat → Bool
  | _ => false
noncomputable def g252 : Cfg := { N := 60, live := l252, cut := u252, mu := m252, ret := rets }
noncomputable def c252 : Go.Code := Go.Ab.bodyOf Go.Proofs.Try.f252
noncomputable def q252_0 : Nat → (AV → List AObj → Prop) → AQ := fun (n : Nat) (Post : AV → List AObj → Prop) => endQ Try.prog (resultsOf Try.f252) Post
noncomputable def q252_1 : Nat → (AV → List AObj → Prop) → AQ := fun (n : Nat) (Post : AV → List AObj → Prop) => seqQ (fun (s' : Slots) (H' : List AObj) => awp Try.prog g252 n (codeSnd (codeSnd (codeSnd (codeSnd (codeSnd c252))))) s' H' (q252_0 n Post)) (q252_0 n Post)
noncomputable def q252_2 : Nat → (AV → List AObj → Prop) → AQ := fun (n : Nat) (Post : AV → List AObj → Prop) => blockQ 0 (q252_1 n Post)
noncomputable def c252_6 : Go.Code := codeFst (codeFst (codeSnd (codeSnd (codeSnd (codeSnd c252)))))
theorem s252 : ∀ (s : ByteArray) (most : Int) (Post : AV → List AObj → Prop),
  condP (ByteArray.toList s == ByteArray.toList { data := #[] }) (Post (AV.tup [AV.int IntKind.i64 (0 : Int), AV.int IntKind.i64 (0 : Int), AV.int IntKind.i64 (2 : Int)]) [])
      (needP ((0 : Int) ≤ (0 : Int) ∧ (0 : Int) < (↑(ByteArray.size s) : Int))
        (condP ((↑(UInt8.toNat (List.getD (Array.toList (ByteArray.data s)) 0 (0 : UInt8))) : Int) == (128 : Int))
        (Post (AV.tup [AV.int IntKind.i64 (0 : Int), AV.int IntKind.i64 (0 : Int), AV.int IntKind.i64 (3 : Int)]) [])
        (AWP Try.prog 60 0 c252_6 [(0, AV.str s), (1, AV.int IntKind.i64 most), (7, AV.int IntKind.i64 (0 : Int))] [] (q252_2 0 Post)))) →
    ASpec Try.prog 252 [AV.str s, AV.int IntKind.i64 most] [] Post := fun s most Post h => Go.Ab.ASpec.of_vc g252 Go.Proofs.Try.func252 (by kernel_rfl) (by kernel_rfl) (by kernel_rfl) (Go.Ab.kc (by kernel_rfl) h)
noncomputable def q252_3 : Nat → (AV → List AObj → Prop) → AQ := fun (n : Nat) (Post : AV → List AObj → Prop) => seqQ (fun (s' : Slots) (H' : List AObj) => awp Try.prog g252 n (codeSnd (codeSnd (codeSnd (codeSnd (codeSnd (codeSnd (codeSnd (codeSnd (codeSnd c252))))))))) s' H' (q252_0 n Post)) (q252_0 n Post)
noncomputable def q252_4 : Nat → (AV → List AObj → Prop) → AQ := fun (n : Nat) (Post : AV → List AObj → Prop) => blockQ 2 (q252_3 n Post)
noncomputable def c252_14 : Go.Code := codeFst (codeSnd (codeFst (codeSnd (codeSnd (codeSnd (codeSnd (codeSnd (codeSnd (codeSnd (codeSnd c252))))))))))
theorem v252_6 : ∀ (s : ByteArray) (most k : Int) (n : Nat) (Post : AV → List AObj → Prop),
  condP (decide (k < (↑(ByteArray.size s) : Int)))
      (condP (decide (k < (6 : Int)))
        (needP ((0 : Int) ≤ k ∧ k < (↑(ByteArray.size s) : Int))
        (condP (decide ((↑(UInt8.toNat (List.getD (Array.toList (ByteArray.data s)) (Int.toNat k) (0 : UInt8))) : Int) ≥ (128 : Int)))
        (AWP Try.prog 60 n c252_6 [(0, AV.str s), (1, AV.int IntKind.i64 most), (7, AV.int IntKind.i64 (IntKind.wrap IntKind.i64 (k + (1 : Int))))] []
        (q252_2 n Post))
        (condP (k == (6 : Int)) (Post (AV.tup [AV.int IntKind.i64 (0 : Int), AV.int IntKind.i64 (0 : Int), AV.int IntKind.i64 (4 : Int)]) [])
        (condP (k == (↑(ByteArray.size s) : Int)) (Post (AV.tup [AV.int IntKind.i64 (0 : Int), AV.int IntKind.i64 (0 : Int), AV.int IntKind.i64 (2 : Int)]) [])
        (AWP Try.prog 60 n c252_14
        [(0, AV.str s), (1, AV.int IntKind.i64 most), (7, AV.int IntKind.i64 k), (8, AV.int IntKind.i64 (0 : Int)), (9, AV.int IntKind.i64 (0 : Int))]
        [] (q252_4 n Post))))))
        (condP (k == (6 : Int)) (Post (AV.tup [AV.int IntKind.i64 (0 : Int), AV.int IntKind.i64 (0 : Int), AV.int IntKind.i64 (4 : Int)]) [])
        (condP (k == (↑(ByteArray.size s) : Int)) (Post (AV.tup [AV.int IntKind.i64 (0 : Int), AV.int IntKind.i64 (0 : Int), AV.int IntKind.i64 (2 : Int)]) [])
        (AWP Try.prog 60 n c252_14
        [(0, AV.str s), (1, AV.int IntKind.i64 most), (7, AV.int IntKind.i64 k), (8, AV.int IntKind.i64 (0 : Int)), (9, AV.int IntKind.i64 (0 : Int))] []
        (q252_4 n Post)))))
      (condP (k == (6 : Int)) (Post (AV.tup [AV.int IntKind.i64 (0 : Int), AV.int IntKind.i64 (0 : Int), AV.int IntKind.i64 (4 : Int)]) [])
        (condP (k == (↑(ByteArray.size s) : Int)) (Post (AV.tup [AV.int IntKind.i64 (0 : Int), AV.int IntKind.i64 (0 : Int), AV.int IntKind.i64 (2 : Int)]) [])
        (AWP Try.prog 60 n c252_14
        [(0, AV.str s), (1, AV.int IntKind.i64 most), (7, AV.int IntKind.i64 k), (8, AV.int IntKind.i64 (0 : Int)), (9, AV.int IntKind.i64 (0 : Int))] []
        (q252_4 n Post)))) →
    AWP Try.prog 60 n c252_6 [(0, AV.str s), (1, AV.int IntKind.i64 most), (7, AV.int IntKind.i64 k)] [] (q252_2 n Post) := fun s most k n Post h => Go.Ab.AWP.loop' g252 (Cfg.live g252) c252_6 (by kernel_rfl) (by kernel_rfl) (Go.Ab.kc (by kernel_rfl) h)
theorem v252_14 : ∀ (s : ByteArray) (most k x i : Int) (n : Nat) (Post : AV → List AObj → Prop),
  condP (decide (i ≤ k))
      (needP ((0 : Int) ≤ i ∧ i < (↑(ByteArray.size s) : Int))
        (needP ((128 : Int) ≠ (0 : Int))
        (AWP Try.prog 60 n c252_14
        [(0, AV.str s), (1, AV.int IntKind.i64 most), (7, AV.int IntKind.i64 k),
        (8,
        AV.int IntKind.i64
        (IntKind.wrap IntKind.i64
        (IntKind.wrap IntKind.i64 (x * (128 : Int)) +
        IntKind.wrap IntKind.i64 (Int.tmod (↑(UInt8.toNat (List.getD (Array.toList (ByteArray.data s)) (Int.toNat i) (0 : UInt8))) : Int) (128 : Int))))),
        (9, AV.int IntKind.i64 (IntKind.wrap IntKind.i64 (i + (1 : Int))))]
        [] (q252_4 n Post))))
      (condP (decide (x > (1099511627776 : Int))) (Post (AV.tup [AV.int IntKind.i64 (0 : Int), AV.int IntKind.i64 (0 : Int), AV.int IntKind.i64 (4 : Int)]) [])
        (condP (decide (x > most)) (Post (AV.tup [AV.int IntKind.i64 (0 : Int), AV.int IntKind.i64 (0 : Int), AV.int IntKind.i64 (4 : Int)]) [])
        (Post (AV.tup [AV.int IntKind.i64 x, AV.int IntKind.i64 (IntKind.wrap IntKind.i64 (k + (1 : Int))), AV.int IntKind.i64 (0 : Int)]) []))) →
    AWP Try.prog 60 n c252_14
      [(0, AV.str s), (1, AV.int IntKind.i64 most), (7, AV.int IntKind.i64 k), (8, AV.int IntKind.i64 x), (9, AV.int IntKind.i64 i)] [] (q252_4 n Post) := fun s most k x i n Post h => Go.Ab.AWP.loop' g252 (Cfg.live g252) c252_14 (by kernel_rfl) (by kernel_rfl) (Go.Ab.kc (by kernel_rfl) h)

end
end V
end

section
/- Spans, needs, releases and manifests as cells. -/

open Go Go.Ab Go.Proofs
namespace T
abbrev Span := Int × Int
abbrev Need := List UInt8 × List Span
abbrev Rel := Int × List Need
abbrev Mani := List UInt8 × List Rel
noncomputable def encS (x : Span) : List AV := [.int .i64 x.1, .int .i64 x.2]
noncomputable def encN (x : Need) : List AV := [.str ⟨x.1.toArray⟩, .sl 2 (.map encS (0, 0) x.2) .none]
noncomputable def encR (x : Rel) : List AV := [.int .i64 x.1, .sl 2 (.map encN ([], []) x.2) .none]
noncomputable def encM (x : Mani) : List AV := [.str ⟨x.1.toArray⟩, .sl 2 (.map encR (0, []) x.2) .none]
end T
end

section
/- Printed: what the code of functions 256, 285, 232, 239, 185, 186, 231, 130, 66, 163, 173, 62 asks for, by the framework's own reading of it; each line is checked against the code. -/

set_option linter.unusedVariables false
set_option maxRecDepth 100000
set_option maxHeartbeats 4000000
open Go Go.Ab Go.Proofs
namespace C
noncomputable section

noncomputable def retC : List (Nat × Ret) := [
  (39, ⟨Bool, fun _ _ x => .bool x, fun _ H _ => H⟩), (66, ⟨Bool, fun _ _ x => .bool x, fun _ H _ => H⟩), (62, ⟨Bool, fun _ _ x => .bool x, fun _ H _ => H⟩), (186, ⟨Bool, fun _ _ x => .bool x, fun _ H _ => H⟩),
  (154, ⟨Bool, fun _ _ x => .bool x, fun _ H _ => H⟩), (130, ⟨Bool, fun _ _ x => .bool x, fun _ H _ => H⟩), (185, ⟨Bool, fun _ _ x => .bool x, fun _ H _ => H⟩), (173, ⟨Bool, fun _ _ x => .bool x, fun _ H _ => H⟩),
  (231, ⟨Bool, fun _ _ x => .bool x, fun _ H _ => H⟩), (239, ⟨Bool, fun _ _ x => .bool x, fun _ H _ => H⟩), (163, ⟨Bool, fun _ _ x => .bool x, fun _ H _ => H⟩), (232, ⟨Bool, fun _ _ x => .bool x, fun _ H _ => H⟩),
  (285, ⟨Bool, fun _ _ x => .bool x, fun _ H _ => H⟩), (256, ⟨Bool, fun _ _ x => .bool x, fun _ H _ => H⟩)]
noncomputable def rets : FuncId → List Ret := lookupR (retC ++ V.retL)

-- 256
noncomputable def l256 : Nat → List Nat
  | 3 => [3, 6, 7, 8]
  | _ => []
noncomputable def u256 : Nat → Bool
  | _ => false
noncomputable def m256 : Nat → Bool
  | _ => false
noncomputable def g256 : Cfg := { N := 31, live := l256, cut := u256, mu := m256, ret := rets }
noncomputable def c256 : Go.Code := Go.Ab.bodyOf Go.Proofs.Try.f256
noncomputable def q256_0 : Nat → (AV → List AObj → Prop) → AQ := fun (n : Nat) (Post : AV → List AObj → Prop) => endQ Try.prog (resultsOf Try.f256) Post
noncomputable def q256_1 : Nat → (AV → List AObj → Prop) → AQ := fun (n : Nat) (Post : AV → List AObj → Prop) => seqQ (fun (s' : Slots) (H' : List AObj) => awp Try.prog g256 n (codeSnd (codeSnd (codeSnd c256))) s' H' (q256_0 n Post)) (q256_0 n Post)
noncomputable def q256_2 : Nat → (AV → List AObj → Prop) → AQ := fun (n : Nat) (Post : AV → List AObj → Prop) => blockQ 0 (q256_1 n Post)
noncomputable def c256_3 : Go.Code := codeFst (codeSnd (codeFst (codeSnd (codeSnd c256))))
theorem s256 : ∀ (l : List T.Span) (Post : AV → List AObj → Prop),
  AWP Try.prog 31 0 c256_3
      [(3, AV.int IntKind.i64 (-1 : Int)), (6, AV.sl 2 (Seq.map T.encS ((0 : Int), (0 : Int)) l) Tip.none), (7, AV.int IntKind.i64 (↑(List.length l) : Int)),
        (8, AV.int IntKind.i64 (0 : Int))]
      [] (q256_2 0 Post) →
    ASpec Try.prog 256 [AV.sl 2 (Seq.map T.encS ((0 : Int), (0 : Int)) l) Tip.none] [] Post := fun l Post h => Go.Ab.ASpec.of_vc g256 Go.Proofs.Try.func256 (by kernel_rfl) (by kernel_rfl) (by kernel_rfl) (Go.Ab.kc (by kernel_rfl) h)
theorem v256_3 : ∀ (l : List T.Span) (e n i : Int) (n_1 : Nat) (Post : AV → List AObj → Prop),
  condP (decide (i < n))
      (needP ((0 : Int) ≤ i ∧ i < (↑(List.length l) : Int))
        (condP (decide (Prod.fst (List.getD l (Int.toNat i) ((0 : Int), (0 : Int))) ≤ e))
        (Post (AV.bool false)
        [AObj.cells [AV.int IntKind.i64 (Prod.fst (List.getD l (Int.toNat i) ((0 : Int), (0 : Int)))), AV.int IntKind.i64 (Prod.snd (List.getD l (Int.toNat i) ((0 : Int), (0 : Int))))]])
        (condP (decide (Prod.fst (List.getD l (Int.toNat i) ((0 : Int), (0 : Int))) ≥ Prod.snd (List.getD l (Int.toNat i) ((0 : Int), (0 : Int)))))
        (Post (AV.bool false)
        [AObj.cells [AV.int IntKind.i64 (Prod.fst (List.getD l (Int.toNat i) ((0 : Int), (0 : Int)))), AV.int IntKind.i64 (Prod.snd (List.getD l (Int.toNat i) ((0 : Int), (0 : Int))))]])
        (condP (decide (Prod.snd (List.getD l (Int.toNat i) ((0 : Int), (0 : Int))) > (1000000000 : Int)))
        (Post (AV.bool false)
        [AObj.cells [AV.int IntKind.i64 (Prod.fst (List.getD l (Int.toNat i) ((0 : Int), (0 : Int)))), AV.int IntKind.i64 (Prod.snd (List.getD l (Int.toNat i) ((0 : Int), (0 : Int))))]])
        (AWP Try.prog 31 n_1 c256_3
        [(3, AV.int IntKind.i64 (Prod.snd (List.getD l (Int.toNat i) ((0 : Int), (0 : Int))))), (6, AV.sl 2 (Seq.map T.encS ((0 : Int), (0 : Int)) l) Tip.none),
        (7, AV.int IntKind.i64 n), (8, AV.int IntKind.i64 (IntKind.wrap IntKind.i64 (i + (1 : Int))))]
        [AObj.cells [AV.int IntKind.i64 (Prod.fst (List.getD l (Int.toNat i) ((0 : Int), (0 : Int)))), AV.int IntKind.i64 (Prod.snd (List.getD l (Int.toNat i) ((0 : Int), (0 : Int))))]]
        (q256_2 n_1 Post))))))
      (Post (AV.bool true) []) →
    AWP Try.prog 31 n_1 c256_3
      [(3, AV.int IntKind.i64 e), (6, AV.sl 2 (Seq.map T.encS ((0 : Int), (0 : Int)) l) Tip.none), (7, AV.int IntKind.i64 n), (8, AV.int IntKind.i64 i)] []
      (q256_2 n_1 Post) := fun l e n i n Post h => Go.Ab.AWP.loop' g256 (Cfg.live g256) c256_3 (by kernel_rfl) (by kernel_rfl) (Go.Ab.kc (by kernel_rfl) h)

-- 285
noncomputable def l285 : Nat → List Nat
  | 2 => [0, 3]
  | _ => []
noncomputable def u285 : Nat → Bool
  | _ => false
noncomputable def m285 : Nat → Bool
  | _ => false
noncomputable def g285 : Cfg := { N := 55, live := l285, cut := u285, mu := m285, ret := rets }
noncomputable def c285 : Go.Code := Go.Ab.bodyOf Go.Proofs.Try.f285
noncomputable def q285_0 : Nat → (AV → List AObj → Prop) → AQ := fun (n : Nat) (Post : AV → List AObj → Prop) => endQ Try.prog (resultsOf Try.f285) Post
noncomputable def q285_1 : Nat → (AV → List AObj → Prop) → AQ := fun (n : Nat) (Post : AV → List AObj → Prop) => seqQ (fun (s' : Slots) (H' : List AObj) => awp Try.prog g285 n (codeSnd (codeSnd c285)) s' H' (q285_0 n Post)) (q285_0 n Post)
noncomputable def q285_2 : Nat → (AV → List AObj → Prop) → AQ := fun (n : Nat) (Post : AV → List AObj → Prop) => blockQ 0 (q285_1 n Post)
noncomputable def c285_2 : Go.Code := codeFst (codeSnd (codeFst (codeSnd c285)))
theorem s285 : ∀ (l : List T.Span) (Post : AV → List AObj → Prop),
  AWP Try.prog 55 0 c285_2 [(0, AV.sl 2 (Seq.map T.encS ((0 : Int), (0 : Int)) l) Tip.none), (3, AV.int IntKind.i64 (0 : Int))] [] (q285_2 0 Post) →
    ASpec Try.prog 285 [AV.sl 2 (Seq.map T.encS ((0 : Int), (0 : Int)) l) Tip.none] [] Post := fun l Post h => Go.Ab.ASpec.of_vc g285 Go.Proofs.Try.func285 (by kernel_rfl) (by kernel_rfl) (by kernel_rfl) (Go.Ab.kc (by kernel_rfl) h)
theorem v285_2 : ∀ (l : List T.Span) (i : Int) (n : Nat) (Post : AV → List AObj → Prop),
  condP (decide (i < (↑(List.length l) : Int)))
      (needP ((0 : Int) ≤ i ∧ i < (↑(List.length l) : Int))
        (condP (decide (Prod.fst (List.getD l (Int.toNat i) ((0 : Int), (0 : Int))) < (0 : Int))) (Post (AV.bool false) [])
        (needP ((0 : Int) ≤ i ∧ i < (↑(List.length l) : Int))
        (condP (decide (Prod.snd (List.getD l (Int.toNat i) ((0 : Int), (0 : Int))) > (1000000000 : Int))) (Post (AV.bool false) [])
        (needP ((0 : Int) ≤ i ∧ i < (↑(List.length l) : Int))
        (needP ((0 : Int) ≤ i ∧ i < (↑(List.length l) : Int))
        (condP (decide (Prod.fst (List.getD l (Int.toNat i) ((0 : Int), (0 : Int))) ≥ Prod.snd (List.getD l (Int.toNat i) ((0 : Int), (0 : Int))))) (Post (AV.bool false) [])
        (condP (decide (i > (0 : Int)))
        (needP ((0 : Int) ≤ i ∧ i < (↑(List.length l) : Int))
        (needP ((0 : Int) ≤ IntKind.wrap IntKind.i64 (i - (1 : Int)) ∧ IntKind.wrap IntKind.i64 (i - (1 : Int)) < (↑(List.length l) : Int))
        (condP
        (decide
        (Prod.fst (List.getD l (Int.toNat i) ((0 : Int), (0 : Int))) ≤ Prod.snd (List.getD l (Int.toNat (IntKind.wrap IntKind.i64 (i - (1 : Int)))) ((0 : Int), (0 : Int)))))
        (Post (AV.bool false) [])
        (AWP Try.prog 55 n c285_2
        [(0, AV.sl 2 (Seq.map T.encS ((0 : Int), (0 : Int)) l) Tip.none), (3, AV.int IntKind.i64 (IntKind.wrap IntKind.i64 (i + (1 : Int))))] []
        (q285_2 n Post)))))
        (AWP Try.prog 55 n c285_2
        [(0, AV.sl 2 (Seq.map T.encS ((0 : Int), (0 : Int)) l) Tip.none), (3, AV.int IntKind.i64 (IntKind.wrap IntKind.i64 (i + (1 : Int))))] []
        (q285_2 n Post))))))))))
      (Post (AV.bool true) []) →
    AWP Try.prog 55 n c285_2 [(0, AV.sl 2 (Seq.map T.encS ((0 : Int), (0 : Int)) l) Tip.none), (3, AV.int IntKind.i64 i)] [] (q285_2 n Post) := fun l i n Post h => Go.Ab.AWP.loop' g285 (Cfg.live g285) c285_2 (by kernel_rfl) (by kernel_rfl) (Go.Ab.kc (by kernel_rfl) h)

-- 232
noncomputable def l232 : Nat → List Nat
  | 3 => [0, 3, 6, 7, 8]
  | _ => []
noncomputable def u232 : Nat → Bool
  | _ => false
noncomputable def m232 : Nat → Bool
  | _ => false
noncomputable def g232 : Cfg := { N := 40, live := l232, cut := u232, mu := m232, ret := rets }
noncomputable def c232 : Go.Code := Go.Ab.bodyOf Go.Proofs.Try.f232
noncomputable def q232_0 : Nat → (AV → List AObj → Prop) → AQ := fun (n : Nat) (Post : AV → List AObj → Prop) => endQ Try.prog (resultsOf Try.f232) Post
noncomputable def q232_1 : Nat → (AV → List AObj → Prop) → AQ := fun (n : Nat) (Post : AV → List AObj → Prop) => seqQ (fun (s' : Slots) (H' : List AObj) => awp Try.prog g232 n (codeSnd (codeSnd (codeSnd c232))) s' H' (q232_0 n Post)) (q232_0 n Post)
noncomputable def q232_2 : Nat → (AV → List AObj → Prop) → AQ := fun (n : Nat) (Post : AV → List AObj → Prop) => blockQ 0 (q232_1 n Post)
noncomputable def c232_3 : Go.Code := codeFst (codeSnd (codeFst (codeSnd (codeSnd c232))))
theorem s232 : ∀ (l : List T.Need) (Post : AV → List AObj → Prop),
  AWP Try.prog 40 0 c232_3
      [(0, AV.sl 2 (Seq.map T.encN ([], []) l) Tip.none), (3, AV.str { data := #[] }), (6, AV.sl 2 (Seq.map T.encN ([], []) l) Tip.none),
        (7, AV.int IntKind.i64 (↑(List.length l) : Int)), (8, AV.int IntKind.i64 (0 : Int))]
      [] (q232_2 0 Post) →
    ASpec Try.prog 232 [AV.sl 2 (Seq.map T.encN ([], []) l) Tip.none] [] Post := fun l Post h => Go.Ab.ASpec.of_vc g232 Go.Proofs.Try.func232 (by kernel_rfl) (by kernel_rfl) (by kernel_rfl) (Go.Ab.kc (by kernel_rfl) h)
theorem v232_3 : ∀ (l : List T.Need) (s : ByteArray) (n i : Int) (n_1 : Nat) (Post : AV → List AObj → Prop),
  condP (decide (i < n))
      (needP ((0 : Int) ≤ i ∧ i < (↑(List.length l) : Int))
        (ASpec Try.prog 154 [AV.str { data := List.toArray (Prod.fst (List.getD l (Int.toNat i) ([], []))) }]
        [AObj.cells
        [AV.str { data := List.toArray (Prod.fst (List.getD l (Int.toNat i) ([], []))) },
        AV.sl 2 (Seq.map T.encS ((0 : Int), (0 : Int)) (Prod.snd (List.getD l (Int.toNat i) ([], [])))) Tip.none]]
        fun (r : AV) (H' : List AObj) =>
        ∃ (x : Bool),
        r = AV.bool x ∧
        H' =
        [AObj.cells
        [AV.str { data := List.toArray (Prod.fst (List.getD l (Int.toNat i) ([], []))) },
        AV.sl 2 (Seq.map T.encS ((0 : Int), (0 : Int)) (Prod.snd (List.getD l (Int.toNat i) ([], [])))) Tip.none]] ∧
        condP (!x)
        (Post (AV.bool false)
        [AObj.cells
        [AV.str { data := List.toArray (Prod.fst (List.getD l (Int.toNat i) ([], []))) },
        AV.sl 2 (Seq.map T.encS ((0 : Int), (0 : Int)) (Prod.snd (List.getD l (Int.toNat i) ([], [])))) Tip.none]])
        (condP
        (Op.bytesLess (ByteArray.toList { data := List.toArray (Prod.fst (List.getD l (Int.toNat i) ([], []))) }) (ByteArray.toList s) ||
        ByteArray.toList { data := List.toArray (Prod.fst (List.getD l (Int.toNat i) ([], []))) } == ByteArray.toList s)
        (Post (AV.bool false)
        [AObj.cells
        [AV.str { data := List.toArray (Prod.fst (List.getD l (Int.toNat i) ([], []))) },
        AV.sl 2 (Seq.map T.encS ((0 : Int), (0 : Int)) (Prod.snd (List.getD l (Int.toNat i) ([], [])))) Tip.none]])
        (condP (decide ((↑(List.length (Prod.snd (List.getD l (Int.toNat i) ([], [])))) : Int) > (6 : Int)))
        (Post (AV.bool false)
        [AObj.cells
        [AV.str { data := List.toArray (Prod.fst (List.getD l (Int.toNat i) ([], []))) },
        AV.sl 2 (Seq.map T.encS ((0 : Int), (0 : Int)) (Prod.snd (List.getD l (Int.toNat i) ([], [])))) Tip.none]])
        (ASpec Try.prog 256 [AV.sl 2 (Seq.map T.encS ((0 : Int), (0 : Int)) (Prod.snd (List.getD l (Int.toNat i) ([], [])))) Tip.none]
        [AObj.cells
        [AV.str { data := List.toArray (Prod.fst (List.getD l (Int.toNat i) ([], []))) },
        AV.sl 2 (Seq.map T.encS ((0 : Int), (0 : Int)) (Prod.snd (List.getD l (Int.toNat i) ([], [])))) Tip.none]]
        fun (r : AV) (H' : List AObj) =>
        ∃ (x : Bool),
        r = AV.bool x ∧
        H' =
        [AObj.cells
        [AV.str { data := List.toArray (Prod.fst (List.getD l (Int.toNat i) ([], []))) },
        AV.sl 2 (Seq.map T.encS ((0 : Int), (0 : Int)) (Prod.snd (List.getD l (Int.toNat i) ([], [])))) Tip.none]] ∧
        condP (!x)
        (Post (AV.bool false)
        [AObj.cells
        [AV.str { data := List.toArray (Prod.fst (List.getD l (Int.toNat i) ([], []))) },
        AV.sl 2 (Seq.map T.encS ((0 : Int), (0 : Int)) (Prod.snd (List.getD l (Int.toNat i) ([], [])))) Tip.none]])
        (AWP Try.prog 40 n_1 c232_3
        [(0, AV.sl 2 (Seq.map T.encN ([], []) l) Tip.none), (3, AV.str { data := List.toArray (Prod.fst (List.getD l (Int.toNat i) ([], []))) }),
        (6, AV.sl 2 (Seq.map T.encN ([], []) l) Tip.none), (7, AV.int IntKind.i64 n),
        (8, AV.int IntKind.i64 (IntKind.wrap IntKind.i64 (i + (1 : Int))))]
        [AObj.cells
        [AV.str { data := List.toArray (Prod.fst (List.getD l (Int.toNat i) ([], []))) },
        AV.sl 2 (Seq.map T.encS ((0 : Int), (0 : Int)) (Prod.snd (List.getD l (Int.toNat i) ([], [])))) Tip.none]]
        (q232_2 n_1 Post)))))))
      (Post (AV.bool (decide ((↑(List.length l) : Int) ≤ (6 : Int)))) []) →
    AWP Try.prog 40 n_1 c232_3
      [(0, AV.sl 2 (Seq.map T.encN ([], []) l) Tip.none), (3, AV.str s), (6, AV.sl 2 (Seq.map T.encN ([], []) l) Tip.none), (7, AV.int IntKind.i64 n),
        (8, AV.int IntKind.i64 i)]
      [] (q232_2 n_1 Post) := fun l s n i n Post h => Go.Ab.AWP.loop' g232 (Cfg.live g232) c232_3 (by kernel_rfl) (by kernel_rfl) (Go.Ab.kc (by kernel_rfl) h)

-- 239
noncomputable def l239 : Nat → List Nat
  | 2 => [0, 3]
  | _ => []
noncomputable def u239 : Nat → Bool
  | _ => false
noncomputable def m239 : Nat → Bool
  | _ => false
noncomputable def g239 : Cfg := { N := 56, live := l239, cut := u239, mu := m239, ret := rets }
noncomputable def c239 : Go.Code := Go.Ab.bodyOf Go.Proofs.Try.f239
noncomputable def q239_0 : Nat → (AV → List AObj → Prop) → AQ := fun (n : Nat) (Post : AV → List AObj → Prop) => endQ Try.prog (resultsOf Try.f239) Post
noncomputable def q239_1 : Nat → (AV → List AObj → Prop) → AQ := fun (n : Nat) (Post : AV → List AObj → Prop) => seqQ (fun (s' : Slots) (H' : List AObj) => awp Try.prog g239 n (codeSnd (codeSnd c239)) s' H' (q239_0 n Post)) (q239_0 n Post)
noncomputable def q239_2 : Nat → (AV → List AObj → Prop) → AQ := fun (n : Nat) (Post : AV → List AObj → Prop) => blockQ 0 (q239_1 n Post)
noncomputable def c239_2 : Go.Code := codeFst (codeSnd (codeFst (codeSnd c239)))
theorem s239 : ∀ (l : List T.Need) (Post : AV → List AObj → Prop),
  AWP Try.prog 56 0 c239_2 [(0, AV.sl 2 (Seq.map T.encN ([], []) l) Tip.none), (3, AV.int IntKind.i64 (0 : Int))] [] (q239_2 0 Post) →
    ASpec Try.prog 239 [AV.sl 2 (Seq.map T.encN ([], []) l) Tip.none] [] Post := fun l Post h => Go.Ab.ASpec.of_vc g239 Go.Proofs.Try.func239 (by kernel_rfl) (by kernel_rfl) (by kernel_rfl) (Go.Ab.kc (by kernel_rfl) h)
theorem v239_2 : ∀ (l : List T.Need) (i : Int) (n : Nat) (Post : AV → List AObj → Prop),
  condP (decide (i < (↑(List.length l) : Int)))
      (needP ((0 : Int) ≤ i ∧ i < (↑(List.length l) : Int))
        (ASpec Try.prog 39 [AV.str { data := List.toArray (Prod.fst (List.getD l (Int.toNat i) ([], []))) }] [] fun (r : AV) (H' : List AObj) =>
        ∃ (x : Bool),
        r = AV.bool x ∧
        H' = [] ∧
        condP (!x) (Post (AV.bool false) [])
        (needP ((0 : Int) ≤ i ∧ i < (↑(List.length l) : Int))
        (ASpec Try.prog 285 [AV.sl 2 (Seq.map T.encS ((0 : Int), (0 : Int)) (Prod.snd (List.getD l (Int.toNat i) ([], [])))) Tip.none] [] fun (r : AV) (H' : List AObj) =>
        ∃ (x : Bool),
        r = AV.bool x ∧
        H' = [] ∧
        condP (!x) (Post (AV.bool false) [])
        (needP ((0 : Int) ≤ i ∧ i < (↑(List.length l) : Int))
        (condP (decide ((↑(List.length (Prod.snd (List.getD l (Int.toNat i) ([], [])))) : Int) > (6 : Int))) (Post (AV.bool false) [])
        (condP (decide (i > (0 : Int)))
        (needP ((0 : Int) ≤ i ∧ i < (↑(List.length l) : Int))
        (needP ((0 : Int) ≤ IntKind.wrap IntKind.i64 (i - (1 : Int)) ∧ IntKind.wrap IntKind.i64 (i - (1 : Int)) < (↑(List.length l) : Int))
        (condP
        (Op.bytesLess (ByteArray.toList { data := List.toArray (Prod.fst (List.getD l (Int.toNat i) ([], []))) })
        (ByteArray.toList { data := List.toArray (Prod.fst (List.getD l (Int.toNat (IntKind.wrap IntKind.i64 (i - (1 : Int)))) ([], []))) }) ||
        ByteArray.toList { data := List.toArray (Prod.fst (List.getD l (Int.toNat i) ([], []))) } ==
        ByteArray.toList { data := List.toArray (Prod.fst (List.getD l (Int.toNat (IntKind.wrap IntKind.i64 (i - (1 : Int)))) ([], []))) })
        (Post (AV.bool false) [])
        (AWP Try.prog 56 n c239_2
        [(0, AV.sl 2 (Seq.map T.encN ([], []) l) Tip.none), (3, AV.int IntKind.i64 (IntKind.wrap IntKind.i64 (i + (1 : Int))))] []
        (q239_2 n Post)))))
        (AWP Try.prog 56 n c239_2
        [(0, AV.sl 2 (Seq.map T.encN ([], []) l) Tip.none), (3, AV.int IntKind.i64 (IntKind.wrap IntKind.i64 (i + (1 : Int))))] []
        (q239_2 n Post)))))))))
      (Post (AV.bool (decide ((↑(List.length l) : Int) ≤ (6 : Int)))) []) →
    AWP Try.prog 56 n c239_2 [(0, AV.sl 2 (Seq.map T.encN ([], []) l) Tip.none), (3, AV.int IntKind.i64 i)] [] (q239_2 n Post) := fun l i n Post h => Go.Ab.AWP.loop' g239 (Cfg.live g239) c239_2 (by kernel_rfl) (by kernel_rfl) (Go.Ab.kc (by kernel_rfl) h)

-- 185
noncomputable def l185 : Nat → List Nat
  | 3 => [1, 3, 7, 8, 9]
  | _ => []
noncomputable def u185 : Nat → Bool
  | _ => false
noncomputable def m185 : Nat → Bool
  | _ => false
noncomputable def g185 : Cfg := { N := 40, live := l185, cut := u185, mu := m185, ret := rets }
noncomputable def c185 : Go.Code := Go.Ab.bodyOf Go.Proofs.Try.f185
noncomputable def q185_0 : Nat → (AV → List AObj → Prop) → AQ := fun (n : Nat) (Post : AV → List AObj → Prop) => endQ Try.prog (resultsOf Try.f185) Post
noncomputable def q185_1 : Nat → (AV → List AObj → Prop) → AQ := fun (n : Nat) (Post : AV → List AObj → Prop) => seqQ (fun (s' : Slots) (H' : List AObj) => awp Try.prog g185 n (codeSnd (codeSnd (codeSnd c185))) s' H' (q185_0 n Post)) (q185_0 n Post)
noncomputable def q185_2 : Nat → (AV → List AObj → Prop) → AQ := fun (n : Nat) (Post : AV → List AObj → Prop) => blockQ 0 (q185_1 n Post)
noncomputable def c185_3 : Go.Code := codeFst (codeSnd (codeFst (codeSnd (codeSnd c185))))
theorem s185 : ∀ (m : T.Mani) (Post : AV → List AObj → Prop),
  AWP Try.prog 40 0 c185_3
      [(1, AV.ptr 0 0), (3, AV.int IntKind.i64 (-1 : Int)), (7, AV.sl 2 (Seq.map T.encR ((0 : Int), []) (Prod.snd m)) Tip.none),
        (8, AV.int IntKind.i64 (↑(List.length (Prod.snd m)) : Int)), (9, AV.int IntKind.i64 (0 : Int))]
      [AObj.cells [AV.str { data := List.toArray (Prod.fst m) }, AV.sl 2 (Seq.map T.encR ((0 : Int), []) (Prod.snd m)) Tip.none]] (q185_2 0 Post) →
    ASpec Try.prog 185 [AV.agg (T.encM m)] [] Post := fun m Post h => Go.Ab.ASpec.of_vc g185 Go.Proofs.Try.func185 (by kernel_rfl) (by kernel_rfl) (by kernel_rfl) (Go.Ab.kc (by kernel_rfl) h)
theorem v185_3 : ∀ (m : T.Mani) (e n i : Int) (n_1 : Nat) (Post : AV → List AObj → Prop),
  condP (decide (i < n))
      (needP ((0 : Int) ≤ i ∧ i < (↑(List.length (Prod.snd m)) : Int))
        (condP (decide (Prod.fst (List.getD (Prod.snd m) (Int.toNat i) ((0 : Int), [])) ≤ e))
        (Post (AV.bool false)
        [AObj.cells [AV.str { data := List.toArray (Prod.fst m) }, AV.sl 2 (Seq.map T.encR ((0 : Int), []) (Prod.snd m)) Tip.none],
        AObj.cells
        [AV.int IntKind.i64 (Prod.fst (List.getD (Prod.snd m) (Int.toNat i) ((0 : Int), []))),
        AV.sl 2 (Seq.map T.encN ([], []) (Prod.snd (List.getD (Prod.snd m) (Int.toNat i) ((0 : Int), [])))) Tip.none]])
        (condP (decide (Prod.fst (List.getD (Prod.snd m) (Int.toNat i) ((0 : Int), [])) ≥ (1000000000 : Int)))
        (Post (AV.bool false)
        [AObj.cells [AV.str { data := List.toArray (Prod.fst m) }, AV.sl 2 (Seq.map T.encR ((0 : Int), []) (Prod.snd m)) Tip.none],
        AObj.cells
        [AV.int IntKind.i64 (Prod.fst (List.getD (Prod.snd m) (Int.toNat i) ((0 : Int), []))),
        AV.sl 2 (Seq.map T.encN ([], []) (Prod.snd (List.getD (Prod.snd m) (Int.toNat i) ((0 : Int), [])))) Tip.none]])
        (ASpec Try.prog 232 [AV.sl 2 (Seq.map T.encN ([], []) (Prod.snd (List.getD (Prod.snd m) (Int.toNat i) ((0 : Int), [])))) Tip.none]
        [AObj.cells [AV.str { data := List.toArray (Prod.fst m) }, AV.sl 2 (Seq.map T.encR ((0 : Int), []) (Prod.snd m)) Tip.none],
        AObj.cells
        [AV.int IntKind.i64 (Prod.fst (List.getD (Prod.snd m) (Int.toNat i) ((0 : Int), []))),
        AV.sl 2 (Seq.map T.encN ([], []) (Prod.snd (List.getD (Prod.snd m) (Int.toNat i) ((0 : Int), [])))) Tip.none]]
        fun (r : AV) (H' : List AObj) =>
        ∃ (x : Bool),
        r = AV.bool x ∧
        H' =
        [AObj.cells [AV.str { data := List.toArray (Prod.fst m) }, AV.sl 2 (Seq.map T.encR ((0 : Int), []) (Prod.snd m)) Tip.none],
        AObj.cells
        [AV.int IntKind.i64 (Prod.fst (List.getD (Prod.snd m) (Int.toNat i) ((0 : Int), []))),
        AV.sl 2 (Seq.map T.encN ([], []) (Prod.snd (List.getD (Prod.snd m) (Int.toNat i) ((0 : Int), [])))) Tip.none]] ∧
        condP (!x)
        (Post (AV.bool false)
        [AObj.cells [AV.str { data := List.toArray (Prod.fst m) }, AV.sl 2 (Seq.map T.encR ((0 : Int), []) (Prod.snd m)) Tip.none],
        AObj.cells
        [AV.int IntKind.i64 (Prod.fst (List.getD (Prod.snd m) (Int.toNat i) ((0 : Int), []))),
        AV.sl 2 (Seq.map T.encN ([], []) (Prod.snd (List.getD (Prod.snd m) (Int.toNat i) ((0 : Int), [])))) Tip.none]])
        (AWP Try.prog 40 n_1 c185_3
        [(1, AV.ptr 0 0), (3, AV.int IntKind.i64 (Prod.fst (List.getD (Prod.snd m) (Int.toNat i) ((0 : Int), [])))),
        (7, AV.sl 2 (Seq.map T.encR ((0 : Int), []) (Prod.snd m)) Tip.none), (8, AV.int IntKind.i64 n),
        (9, AV.int IntKind.i64 (IntKind.wrap IntKind.i64 (i + (1 : Int))))]
        [AObj.cells [AV.str { data := List.toArray (Prod.fst m) }, AV.sl 2 (Seq.map T.encR ((0 : Int), []) (Prod.snd m)) Tip.none],
        AObj.cells
        [AV.int IntKind.i64 (Prod.fst (List.getD (Prod.snd m) (Int.toNat i) ((0 : Int), []))),
        AV.sl 2 (Seq.map T.encN ([], []) (Prod.snd (List.getD (Prod.snd m) (Int.toNat i) ((0 : Int), [])))) Tip.none]]
        (q185_2 n_1 Post))))))
      (ASpec Try.prog 154 [AV.str { data := List.toArray (Prod.fst m) }]
        [AObj.cells [AV.str { data := List.toArray (Prod.fst m) }, AV.sl 2 (Seq.map T.encR ((0 : Int), []) (Prod.snd m)) Tip.none]] fun (r : AV) (H' : List AObj) =>
        ∃ (x : Bool),
        r = AV.bool x ∧
        H' = [AObj.cells [AV.str { data := List.toArray (Prod.fst m) }, AV.sl 2 (Seq.map T.encR ((0 : Int), []) (Prod.snd m)) Tip.none]] ∧
        condP x
        (Post (AV.bool (decide ((↑(List.length (Prod.snd m)) : Int) ≤ (8 : Int))))
        [AObj.cells [AV.str { data := List.toArray (Prod.fst m) }, AV.sl 2 (Seq.map T.encR ((0 : Int), []) (Prod.snd m)) Tip.none]])
        (Post (AV.bool false) [AObj.cells [AV.str { data := List.toArray (Prod.fst m) }, AV.sl 2 (Seq.map T.encR ((0 : Int), []) (Prod.snd m)) Tip.none]])) →
    AWP Try.prog 40 n_1 c185_3
      [(1, AV.ptr 0 0), (3, AV.int IntKind.i64 e), (7, AV.sl 2 (Seq.map T.encR ((0 : Int), []) (Prod.snd m)) Tip.none),
        (8, AV.int IntKind.i64 n), (9, AV.int IntKind.i64 i)]
      [AObj.cells (T.encM m)] (q185_2 n_1 Post) := fun m e n i n Post h => Go.Ab.AWP.loop' g185 (Cfg.live g185) c185_3 (by kernel_rfl) (by kernel_rfl) (Go.Ab.kc (by kernel_rfl) h)

-- 186
noncomputable def l186 : Nat → List Nat
  | 2 => [1, 3]
  | _ => []
noncomputable def u186 : Nat → Bool
  | _ => false
noncomputable def m186 : Nat → Bool
  | _ => false
noncomputable def g186 : Cfg := { N := 52, live := l186, cut := u186, mu := m186, ret := rets }
noncomputable def c186 : Go.Code := Go.Ab.bodyOf Go.Proofs.Try.f186
noncomputable def q186_0 : Nat → (AV → List AObj → Prop) → AQ := fun (n : Nat) (Post : AV → List AObj → Prop) => endQ Try.prog (resultsOf Try.f186) Post
noncomputable def q186_1 : Nat → (AV → List AObj → Prop) → AQ := fun (n : Nat) (Post : AV → List AObj → Prop) => seqQ (fun (s' : Slots) (H' : List AObj) => awp Try.prog g186 n (codeSnd (codeSnd c186)) s' H' (q186_0 n Post)) (q186_0 n Post)
noncomputable def q186_2 : Nat → (AV → List AObj → Prop) → AQ := fun (n : Nat) (Post : AV → List AObj → Prop) => blockQ 0 (q186_1 n Post)
noncomputable def c186_2 : Go.Code := codeFst (codeSnd (codeFst (codeSnd c186)))
theorem s186 : ∀ (m : T.Mani) (Post : AV → List AObj → Prop),
  AWP Try.prog 52 0 c186_2 [(1, AV.ptr 0 0), (3, AV.int IntKind.i64 (0 : Int))]
      [AObj.cells [AV.str { data := List.toArray (Prod.fst m) }, AV.sl 2 (Seq.map T.encR ((0 : Int), []) (Prod.snd m)) Tip.none]] (q186_2 0 Post) →
    ASpec Try.prog 186 [AV.agg (T.encM m)] [] Post := fun m Post h => Go.Ab.ASpec.of_vc g186 Go.Proofs.Try.func186 (by kernel_rfl) (by kernel_rfl) (by kernel_rfl) (Go.Ab.kc (by kernel_rfl) h)
theorem v186_2 : ∀ (m : T.Mani) (i : Int) (n : Nat) (Post : AV → List AObj → Prop),
  condP (decide (i < (↑(List.length (Prod.snd m)) : Int)))
      (needP ((0 : Int) ≤ i ∧ i < (↑(List.length (Prod.snd m)) : Int))
        (ASpec Try.prog 231 [AV.int IntKind.i64 (Prod.fst (List.getD (Prod.snd m) (Int.toNat i) ((0 : Int), [])))]
        [AObj.cells [AV.str { data := List.toArray (Prod.fst m) }, AV.sl 2 (Seq.map T.encR ((0 : Int), []) (Prod.snd m)) Tip.none],
        AObj.cells
        [AV.int IntKind.i64 (Prod.fst (List.getD (Prod.snd m) (Int.toNat i) ((0 : Int), []))),
        AV.sl 2 (Seq.map T.encN ([], []) (Prod.snd (List.getD (Prod.snd m) (Int.toNat i) ((0 : Int), [])))) Tip.none]]
        fun (r : AV) (H' : List AObj) =>
        ∃ (x : Bool),
        r = AV.bool x ∧
        H' =
        [AObj.cells [AV.str { data := List.toArray (Prod.fst m) }, AV.sl 2 (Seq.map T.encR ((0 : Int), []) (Prod.snd m)) Tip.none],
        AObj.cells
        [AV.int IntKind.i64 (Prod.fst (List.getD (Prod.snd m) (Int.toNat i) ((0 : Int), []))),
        AV.sl 2 (Seq.map T.encN ([], []) (Prod.snd (List.getD (Prod.snd m) (Int.toNat i) ((0 : Int), [])))) Tip.none]] ∧
        condP (!x)
        (Post (AV.bool false)
        [AObj.cells [AV.str { data := List.toArray (Prod.fst m) }, AV.sl 2 (Seq.map T.encR ((0 : Int), []) (Prod.snd m)) Tip.none],
        AObj.cells
        [AV.int IntKind.i64 (Prod.fst (List.getD (Prod.snd m) (Int.toNat i) ((0 : Int), []))),
        AV.sl 2 (Seq.map T.encN ([], []) (Prod.snd (List.getD (Prod.snd m) (Int.toNat i) ((0 : Int), [])))) Tip.none]])
        (ASpec Try.prog 239 [AV.sl 2 (Seq.map T.encN ([], []) (Prod.snd (List.getD (Prod.snd m) (Int.toNat i) ((0 : Int), [])))) Tip.none]
        [AObj.cells [AV.str { data := List.toArray (Prod.fst m) }, AV.sl 2 (Seq.map T.encR ((0 : Int), []) (Prod.snd m)) Tip.none],
        AObj.cells
        [AV.int IntKind.i64 (Prod.fst (List.getD (Prod.snd m) (Int.toNat i) ((0 : Int), []))),
        AV.sl 2 (Seq.map T.encN ([], []) (Prod.snd (List.getD (Prod.snd m) (Int.toNat i) ((0 : Int), [])))) Tip.none]]
        fun (r : AV) (H' : List AObj) =>
        ∃ (x : Bool),
        r = AV.bool x ∧
        H' =
        [AObj.cells [AV.str { data := List.toArray (Prod.fst m) }, AV.sl 2 (Seq.map T.encR ((0 : Int), []) (Prod.snd m)) Tip.none],
        AObj.cells
        [AV.int IntKind.i64 (Prod.fst (List.getD (Prod.snd m) (Int.toNat i) ((0 : Int), []))),
        AV.sl 2 (Seq.map T.encN ([], []) (Prod.snd (List.getD (Prod.snd m) (Int.toNat i) ((0 : Int), [])))) Tip.none]] ∧
        condP (!x)
        (Post (AV.bool false)
        [AObj.cells [AV.str { data := List.toArray (Prod.fst m) }, AV.sl 2 (Seq.map T.encR ((0 : Int), []) (Prod.snd m)) Tip.none],
        AObj.cells
        [AV.int IntKind.i64 (Prod.fst (List.getD (Prod.snd m) (Int.toNat i) ((0 : Int), []))),
        AV.sl 2 (Seq.map T.encN ([], []) (Prod.snd (List.getD (Prod.snd m) (Int.toNat i) ((0 : Int), [])))) Tip.none]])
        (condP (decide (i > (0 : Int)))
        (needP ((0 : Int) ≤ IntKind.wrap IntKind.i64 (i - (1 : Int)) ∧ IntKind.wrap IntKind.i64 (i - (1 : Int)) < (↑(List.length (Prod.snd m)) : Int))
        (condP
        (decide
        (Prod.fst (List.getD (Prod.snd m) (Int.toNat i) ((0 : Int), [])) ≤
        Prod.fst (List.getD (Prod.snd m) (Int.toNat (IntKind.wrap IntKind.i64 (i - (1 : Int)))) ((0 : Int), []))))
        (Post (AV.bool false)
        [AObj.cells [AV.str { data := List.toArray (Prod.fst m) }, AV.sl 2 (Seq.map T.encR ((0 : Int), []) (Prod.snd m)) Tip.none],
        AObj.cells
        [AV.int IntKind.i64 (Prod.fst (List.getD (Prod.snd m) (Int.toNat i) ((0 : Int), []))),
        AV.sl 2 (Seq.map T.encN ([], []) (Prod.snd (List.getD (Prod.snd m) (Int.toNat i) ((0 : Int), [])))) Tip.none]])
        (AWP Try.prog 52 n c186_2 [(1, AV.ptr 0 0), (3, AV.int IntKind.i64 (IntKind.wrap IntKind.i64 (i + (1 : Int))))]
        [AObj.cells [AV.str { data := List.toArray (Prod.fst m) }, AV.sl 2 (Seq.map T.encR ((0 : Int), []) (Prod.snd m)) Tip.none],
        AObj.cells
        [AV.int IntKind.i64 (Prod.fst (List.getD (Prod.snd m) (Int.toNat i) ((0 : Int), []))),
        AV.sl 2 (Seq.map T.encN ([], []) (Prod.snd (List.getD (Prod.snd m) (Int.toNat i) ((0 : Int), [])))) Tip.none]]
        (q186_2 n Post))))
        (AWP Try.prog 52 n c186_2 [(1, AV.ptr 0 0), (3, AV.int IntKind.i64 (IntKind.wrap IntKind.i64 (i + (1 : Int))))]
        [AObj.cells [AV.str { data := List.toArray (Prod.fst m) }, AV.sl 2 (Seq.map T.encR ((0 : Int), []) (Prod.snd m)) Tip.none],
        AObj.cells
        [AV.int IntKind.i64 (Prod.fst (List.getD (Prod.snd m) (Int.toNat i) ((0 : Int), []))),
        AV.sl 2 (Seq.map T.encN ([], []) (Prod.snd (List.getD (Prod.snd m) (Int.toNat i) ((0 : Int), [])))) Tip.none]]
        (q186_2 n Post))))))
      (ASpec Try.prog 39 [AV.str { data := List.toArray (Prod.fst m) }]
        [AObj.cells [AV.str { data := List.toArray (Prod.fst m) }, AV.sl 2 (Seq.map T.encR ((0 : Int), []) (Prod.snd m)) Tip.none]] fun (r : AV) (H' : List AObj) =>
        ∃ (x : Bool),
        r = AV.bool x ∧
        H' = [AObj.cells [AV.str { data := List.toArray (Prod.fst m) }, AV.sl 2 (Seq.map T.encR ((0 : Int), []) (Prod.snd m)) Tip.none]] ∧
        condP x
        (Post (AV.bool (decide ((↑(List.length (Prod.snd m)) : Int) ≤ (8 : Int))))
        [AObj.cells [AV.str { data := List.toArray (Prod.fst m) }, AV.sl 2 (Seq.map T.encR ((0 : Int), []) (Prod.snd m)) Tip.none]])
        (Post (AV.bool false) [AObj.cells [AV.str { data := List.toArray (Prod.fst m) }, AV.sl 2 (Seq.map T.encR ((0 : Int), []) (Prod.snd m)) Tip.none]])) →
    AWP Try.prog 52 n c186_2 [(1, AV.ptr 0 0), (3, AV.int IntKind.i64 i)] [AObj.cells (T.encM m)] (q186_2 n Post) := fun m i n Post h => Go.Ab.AWP.loop' g186 (Cfg.live g186) c186_2 (by kernel_rfl) (by kernel_rfl) (Go.Ab.kc (by kernel_rfl) h)

-- 231
noncomputable def l231 : Nat → List Nat
  | _ => []
noncomputable def u231 : Nat → Bool
  | _ => false
noncomputable def m231 : Nat → Bool
  | _ => false
noncomputable def g231 : Cfg := { N := 9, live := l231, cut := u231, mu := m231, ret := rets }
theorem s231 : ∀ (x : Int) (Post : AV → List AObj → Prop),
  condP (decide (x ≥ (0 : Int))) (Post (AV.bool (decide (x < (1000000000 : Int)))) []) (Post (AV.bool false) []) → ASpec Try.prog 231 [AV.int IntKind.i64 x] [] Post := fun x Post h => Go.Ab.ASpec.of_vc g231 Go.Proofs.Try.func231 (by kernel_rfl) (by kernel_rfl) (by kernel_rfl) (Go.Ab.kc (by kernel_rfl) h)

-- 130
noncomputable def l130 : Nat → List Nat
  | 4 => [0, 3]
  | _ => []
noncomputable def l163 : Nat → List Nat
  | 4 => [0, 1, 5]
  | _ => []
noncomputable def u163 : Nat → Bool
  | _ => false
noncomputable def m163 : Nat → Bool
  | _ => false
noncomputable def g163 : Cfg := { N := 26, live := l163, cut := u163, mu := m163, ret := rets }
noncomputable def c163 : Go.Code := Go.Ab.bodyOf Go.Proofs.Try.f163
noncomputable def q163_0 : Nat → (AV → List AObj → Prop) → AQ := fun (n : Nat) (Post : AV → List AObj → Prop) => endQ Try.prog (resultsOf Try.f163) Post
noncomputable def q163_1 : Nat → (AV → List AObj → Prop) → AQ := fun (n : Nat) (Post : AV → List AObj → Prop) => seqQ (fun (s' : Slots) (H' : List AObj) => awp Try.prog g163 n (codeSnd (codeSnd (codeSnd c163))) s' H' (q163_0 n Post)) (q163_0 n Post)
noncomputable def q163_2 : Nat → (AV → List AObj → Prop) → AQ := fun (n : Nat) (Post : AV → List AObj → Prop) => blockQ 0 (q163_1 n Post)
noncomputable def c163_4 : Go.Code := codeFst (codeSnd (codeFst (codeSnd (codeSnd c163))))
theorem s163 : ∀ (a b : List T.Span) (Post : AV → List AObj → Prop),
  condP ((↑(List.length a) : Int) != (↑(List.length b) : Int)) (Post (AV.bool false) [])
      (AWP Try.prog 26 0 c163_4
        [(0, AV.sl 2 (Seq.map T.encS ((0 : Int), (0 : Int)) a) Tip.none), (1, AV.sl 2 (Seq.map T.encS ((0 : Int), (0 : Int)) b) Tip.none),
        (5, AV.int IntKind.i64 (0 : Int))]
        [] (q163_2 0 Post)) →
    ASpec Try.prog 163 [AV.sl 2 (Seq.map T.encS ((0 : Int), (0 : Int)) a) Tip.none, AV.sl 2 (Seq.map T.encS ((0 : Int), (0 : Int)) b) Tip.none] [] Post := fun a b Post h => Go.Ab.ASpec.of_vc g163 Go.Proofs.Try.func163 (by kernel_rfl) (by kernel_rfl) (by kernel_rfl) (Go.Ab.kc (by kernel_rfl) h)
theorem v163_4 : ∀ (a b : List T.Span) (i : Int) (n : Nat) (Post : AV → List AObj → Prop),
  condP (decide (i < (↑(List.length a) : Int)))
      (needP ((0 : Int) ≤ i ∧ i < (↑(List.length a) : Int))
        (needP ((0 : Int) ≤ i ∧ i < (↑(List.length b) : Int))
        (condP
        (!(Prod.fst (List.getD a (Int.toNat i) ((0 : Int), (0 : Int))) == Prod.fst (List.getD b (Int.toNat i) ((0 : Int), (0 : Int))) &&
        (Prod.snd (List.getD a (Int.toNat i) ((0 : Int), (0 : Int))) == Prod.snd (List.getD b (Int.toNat i) ((0 : Int), (0 : Int))) && true)))
        (Post (AV.bool false) [])
        (AWP Try.prog 26 n c163_4
        [(0, AV.sl 2 (Seq.map T.encS ((0 : Int), (0 : Int)) a) Tip.none), (1, AV.sl 2 (Seq.map T.encS ((0 : Int), (0 : Int)) b) Tip.none),
        (5, AV.int IntKind.i64 (IntKind.wrap IntKind.i64 (i + (1 : Int))))]
        [] (q163_2 n Post)))))
      (Post (AV.bool true) []) →
    AWP Try.prog 26 n c163_4
      [(0, AV.sl 2 (Seq.map T.encS ((0 : Int), (0 : Int)) a) Tip.none), (1, AV.sl 2 (Seq.map T.encS ((0 : Int), (0 : Int)) b) Tip.none),
        (5, AV.int IntKind.i64 i)]
      [] (q163_2 n Post) := fun a b i n Post h => Go.Ab.AWP.loop' g163 (Cfg.live g163) c163_4 (by kernel_rfl) (by kernel_rfl) (Go.Ab.kc (by kernel_rfl) h)

-- 173
noncomputable def l173 : Nat → List Nat
  | 4 => [0, 1, 5]
  | _ => []
noncomputable def u173 : Nat → Bool
  | _ => false
noncomputable def m173 : Nat → Bool
  | _ => false
noncomputable def g173 : Cfg := { N := 42, live := l173, cut := u173, mu := m173, ret := rets }
noncomputable def c173 : Go.Code := Go.Ab.bodyOf Go.Proofs.Try.f173
noncomputable def q173_0 : Nat → (AV → List AObj → Prop) → AQ := fun (n : Nat) (Post : AV → List AObj → Prop) => endQ Try.prog (resultsOf Try.f173) Post
noncomputable def q173_1 : Nat → (AV → List AObj → Prop) → AQ := fun (n : Nat) (Post : AV → List AObj → Prop) => seqQ (fun (s' : Slots) (H' : List AObj) => awp Try.prog g173 n (codeSnd (codeSnd (codeSnd c173))) s' H' (q173_0 n Post)) (q173_0 n Post)
noncomputable def q173_2 : Nat → (AV → List AObj → Prop) → AQ := fun (n : Nat) (Post : AV → List AObj → Prop) => blockQ 0 (q173_1 n Post)
noncomputable def c173_4 : Go.Code := codeFst (codeSnd (codeFst (codeSnd (codeSnd c173))))
theorem s173 : ∀ (a b : List T.Need) (Post : AV → List AObj → Prop),
  condP ((↑(List.length a) : Int) != (↑(List.length b) : Int)) (Post (AV.bool false) [])
      (AWP Try.prog 42 0 c173_4
        [(0, AV.sl 2 (Seq.map T.encN ([], []) a) Tip.none), (1, AV.sl 2 (Seq.map T.encN ([], []) b) Tip.none), (5, AV.int IntKind.i64 (0 : Int))] []
        (q173_2 0 Post)) →
    ASpec Try.prog 173 [AV.sl 2 (Seq.map T.encN ([], []) a) Tip.none, AV.sl 2 (Seq.map T.encN ([], []) b) Tip.none] [] Post := fun a b Post h => Go.Ab.ASpec.of_vc g173 Go.Proofs.Try.func173 (by kernel_rfl) (by kernel_rfl) (by kernel_rfl) (Go.Ab.kc (by kernel_rfl) h)
theorem v173_4 : ∀ (a b : List T.Need) (i : Int) (n : Nat) (Post : AV → List AObj → Prop),
  condP (decide (i < (↑(List.length a) : Int)))
      (needP ((0 : Int) ≤ i ∧ i < (↑(List.length a) : Int))
        (needP ((0 : Int) ≤ i ∧ i < (↑(List.length b) : Int))
        (condP
        (!ByteArray.toList { data := List.toArray (Prod.fst (List.getD a (Int.toNat i) ([], []))) } == ByteArray.toList { data := List.toArray (Prod.fst (List.getD b (Int.toNat i) ([], []))) })
        (Post (AV.bool false) [])
        (needP ((0 : Int) ≤ i ∧ i < (↑(List.length a) : Int))
        (needP ((0 : Int) ≤ i ∧ i < (↑(List.length b) : Int))
        (ASpec Try.prog 163
        [AV.sl 2 (Seq.map T.encS ((0 : Int), (0 : Int)) (Prod.snd (List.getD a (Int.toNat i) ([], [])))) Tip.none,
        AV.sl 2 (Seq.map T.encS ((0 : Int), (0 : Int)) (Prod.snd (List.getD b (Int.toNat i) ([], [])))) Tip.none]
        [] fun (r : AV) (H' : List AObj) =>
        ∃ (x : Bool),
        r = AV.bool x ∧
        H' = [] ∧
        condP (!x) (Post (AV.bool false) [])
        (AWP Try.prog 42 n c173_4
        [(0, AV.sl 2 (Seq.map T.encN ([], []) a) Tip.none), (1, AV.sl 2 (Seq.map T.encN ([], []) b) Tip.none),
        (5, AV.int IntKind.i64 (IntKind.wrap IntKind.i64 (i + (1 : Int))))]
        [] (q173_2 n Post))))))))
      (Post (AV.bool true) []) →
    AWP Try.prog 42 n c173_4
      [(0, AV.sl 2 (Seq.map T.encN ([], []) a) Tip.none), (1, AV.sl 2 (Seq.map T.encN ([], []) b) Tip.none), (5, AV.int IntKind.i64 i)] [] (q173_2 n Post) := fun a b i n Post h => Go.Ab.AWP.loop' g173 (Cfg.live g173) c173_4 (by kernel_rfl) (by kernel_rfl) (Go.Ab.kc (by kernel_rfl) h)

-- 62
noncomputable def l62 : Nat → List Nat
  | 4 => [2, 3, 5]
  | _ => []
noncomputable def u62 : Nat → Bool
  | _ => false
noncomputable def m62 : Nat → Bool
  | _ => false
noncomputable def g62 : Cfg := { N := 56, live := l62, cut := u62, mu := m62, ret := rets }
noncomputable def c62 : Go.Code := Go.Ab.bodyOf Go.Proofs.Try.f62
noncomputable def q62_0 : Nat → (AV → List AObj → Prop) → AQ := fun (n : Nat) (Post : AV → List AObj → Prop) => endQ Try.prog (resultsOf Try.f62) Post
noncomputable def q62_1 : Nat → (AV → List AObj → Prop) → AQ := fun (n : Nat) (Post : AV → List AObj → Prop) => seqQ (fun (s' : Slots) (H' : List AObj) => awp Try.prog g62 n (codeSnd (codeSnd (codeSnd c62))) s' H' (q62_0 n Post)) (q62_0 n Post)
noncomputable def q62_2 : Nat → (AV → List AObj → Prop) → AQ := fun (n : Nat) (Post : AV → List AObj → Prop) => blockQ 0 (q62_1 n Post)
noncomputable def c62_4 : Go.Code := codeFst (codeSnd (codeFst (codeSnd (codeSnd c62))))
theorem s62 : ∀ (a b : T.Mani) (Post : AV → List AObj → Prop),
  condP (!ByteArray.toList { data := List.toArray (Prod.fst a) } == ByteArray.toList { data := List.toArray (Prod.fst b) })
      (Post (AV.bool false)
        [AObj.cells [AV.str { data := List.toArray (Prod.fst a) }, AV.sl 2 (Seq.map T.encR ((0 : Int), []) (Prod.snd a)) Tip.none],
        AObj.cells [AV.str { data := List.toArray (Prod.fst b) }, AV.sl 2 (Seq.map T.encR ((0 : Int), []) (Prod.snd b)) Tip.none]])
      (condP ((↑(List.length (Prod.snd a)) : Int) != (↑(List.length (Prod.snd b)) : Int))
        (Post (AV.bool false)
        [AObj.cells [AV.str { data := List.toArray (Prod.fst a) }, AV.sl 2 (Seq.map T.encR ((0 : Int), []) (Prod.snd a)) Tip.none],
        AObj.cells [AV.str { data := List.toArray (Prod.fst b) }, AV.sl 2 (Seq.map T.encR ((0 : Int), []) (Prod.snd b)) Tip.none]])
        (AWP Try.prog 56 0 c62_4 [(2, AV.ptr 0 0), (3, AV.ptr 1 0), (5, AV.int IntKind.i64 (0 : Int))]
        [AObj.cells [AV.str { data := List.toArray (Prod.fst a) }, AV.sl 2 (Seq.map T.encR ((0 : Int), []) (Prod.snd a)) Tip.none],
        AObj.cells [AV.str { data := List.toArray (Prod.fst b) }, AV.sl 2 (Seq.map T.encR ((0 : Int), []) (Prod.snd b)) Tip.none]]
        (q62_2 0 Post))) →
    ASpec Try.prog 62 [AV.agg (T.encM a), AV.agg (T.encM b)] [] Post := fun a b Post h => Go.Ab.ASpec.of_vc g62 Go.Proofs.Try.func62 (by kernel_rfl) (by kernel_rfl) (by kernel_rfl) (Go.Ab.kc (by kernel_rfl) h)
theorem v62_4 : ∀ (a b : T.Mani) (i : Int) (n : Nat) (Post : AV → List AObj → Prop),
  condP (decide (i < (↑(List.length (Prod.snd a)) : Int)))
      (needP ((0 : Int) ≤ i ∧ i < (↑(List.length (Prod.snd a)) : Int))
        (needP ((0 : Int) ≤ i ∧ i < (↑(List.length (Prod.snd b)) : Int))
        (condP (Prod.fst (List.getD (Prod.snd a) (Int.toNat i) ((0 : Int), [])) != Prod.fst (List.getD (Prod.snd b) (Int.toNat i) ((0 : Int), [])))
        (Post (AV.bool false)
        [AObj.cells [AV.str { data := List.toArray (Prod.fst a) }, AV.sl 2 (Seq.map T.encR ((0 : Int), []) (Prod.snd a)) Tip.none],
        AObj.cells [AV.str { data := List.toArray (Prod.fst b) }, AV.sl 2 (Seq.map T.encR ((0 : Int), []) (Prod.snd b)) Tip.none]])
        (needP ((0 : Int) ≤ i ∧ i < (↑(List.length (Prod.snd a)) : Int))
        (needP ((0 : Int) ≤ i ∧ i < (↑(List.length (Prod.snd b)) : Int))
        (ASpec Try.prog 173
        [AV.sl 2 (Seq.map T.encN ([], []) (Prod.snd (List.getD (Prod.snd a) (Int.toNat i) ((0 : Int), [])))) Tip.none,
        AV.sl 2 (Seq.map T.encN ([], []) (Prod.snd (List.getD (Prod.snd b) (Int.toNat i) ((0 : Int), [])))) Tip.none]
        [AObj.cells [AV.str { data := List.toArray (Prod.fst a) }, AV.sl 2 (Seq.map T.encR ((0 : Int), []) (Prod.snd a)) Tip.none],
        AObj.cells [AV.str { data := List.toArray (Prod.fst b) }, AV.sl 2 (Seq.map T.encR ((0 : Int), []) (Prod.snd b)) Tip.none]]
        fun (r : AV) (H' : List AObj) =>
        ∃ (x : Bool),
        r = AV.bool x ∧
        H' =
        [AObj.cells [AV.str { data := List.toArray (Prod.fst a) }, AV.sl 2 (Seq.map T.encR ((0 : Int), []) (Prod.snd a)) Tip.none],
        AObj.cells [AV.str { data := List.toArray (Prod.fst b) }, AV.sl 2 (Seq.map T.encR ((0 : Int), []) (Prod.snd b)) Tip.none]] ∧
        condP (!x)
        (Post (AV.bool false)
        [AObj.cells [AV.str { data := List.toArray (Prod.fst a) }, AV.sl 2 (Seq.map T.encR ((0 : Int), []) (Prod.snd a)) Tip.none],
        AObj.cells [AV.str { data := List.toArray (Prod.fst b) }, AV.sl 2 (Seq.map T.encR ((0 : Int), []) (Prod.snd b)) Tip.none]])
        (AWP Try.prog 56 n c62_4
        [(2, AV.ptr 0 0), (3, AV.ptr 1 0), (5, AV.int IntKind.i64 (IntKind.wrap IntKind.i64 (i + (1 : Int))))]
        [AObj.cells [AV.str { data := List.toArray (Prod.fst a) }, AV.sl 2 (Seq.map T.encR ((0 : Int), []) (Prod.snd a)) Tip.none],
        AObj.cells [AV.str { data := List.toArray (Prod.fst b) }, AV.sl 2 (Seq.map T.encR ((0 : Int), []) (Prod.snd b)) Tip.none]]
        (q62_2 n Post))))))))
      (Post (AV.bool true)
        [AObj.cells [AV.str { data := List.toArray (Prod.fst a) }, AV.sl 2 (Seq.map T.encR ((0 : Int), []) (Prod.snd a)) Tip.none],
        AObj.cells [AV.str { data := List.toArray (Prod.fst b) }, AV.sl 2 (Seq.map T.encR ((0 : Int), []) (Prod.snd b)) Tip.none]]) →
    AWP Try.prog 56 n c62_4 [(2, AV.ptr 0 0), (3, AV.ptr 1 0), (5, AV.int IntKind.i64 i)] [AObj.cells (T.encM a), AObj.cells (T.encM b)]
      (q62_2 n Post) := fun a b i n Post h => Go.Ab.AWP.loop' g62 (Cfg.live g62) c62_4 (by kernel_rfl) (by kernel_rfl) (Go.Ab.kc (by kernel_rfl) h)

end
end C
end

section
/- Printed: what the code of functions 184, 264, 172, 270, 271, 273, 272, 276, 275, 274, 181, 326, 277 asks for, by the framework's own reading of it; each line is checked against the code. -/

set_option linter.unusedVariables false
set_option maxRecDepth 100000
set_option maxHeartbeats 4000000
open Go Go.Ab Go.Proofs
namespace W
noncomputable section

noncomputable def updC (args : List AV) (H : List AObj) (p e : Int) : List AObj := match args with
  | .ptr c _ :: _ => match H[c]? with
    | some (.cells [.ptr id off]) => V.upd3 [.ptr id off] H p e
    | _ => H
  | _ => H
noncomputable def tl (args : List AV) : List AV := match args with
  | _ :: r => r
  | _ => []
noncomputable def HR (bs : List UInt8) (p e : Int) : List AObj := [V.rd bs p e, .cells [.ptr 0 0], .cells [.fn 270 [.ptr 1 0]], .cells [.fn 271 [.ptr 1 0]], .cells [.fn 272 [.ptr 2 0, .ptr 1 0, .ptr 3 0]]]
noncomputable def retW : List (Nat × Ret) := [
  (9039, ⟨Unit, fun _ _ _ => .bool true, fun _ H _ => H⟩),
  (181, ⟨T.Mani × Int, fun _ _ x => .tup [.agg (T.encM x.1), .int .i64 x.2], fun _ H _ => H⟩),
  (277, ⟨T.Mani × Int, fun _ _ x => .tup [.agg (T.encM x.1), .int .i64 x.2], fun _ H _ => H⟩),
  (184, ⟨List UInt8, fun _ _ x => .sl 1 (.map encB 0 x) .none, fun _ H _ => H⟩),
  (172, ⟨ByteArray, fun _ _ x => .str x, fun _ H _ => H⟩),
  (270, ⟨ByteArray × Int × Int, fun _ _ x => .str x.1, fun a H x => updC a H x.2.1 x.2.2⟩),
  (271, ⟨T.Span × Int × Int, fun _ _ x => .agg (T.encS x.1), fun a H x => updC a H x.2.1 x.2.2⟩),
  (272, ⟨T.Need × Int × Int, fun _ _ x => .agg (T.encN x.1), fun a H x => updC (tl a) H x.2.1 x.2.2⟩),
  (275, ⟨T.Rel × Int × Int, fun _ _ x => .agg (T.encR x.1), fun a H x => updC a H x.2.1 x.2.2⟩),
  (273, ⟨List T.Span × Int × Int, fun _ _ x => .sl 2 (.map T.encS (0, 0) x.1) .none, fun a H x => V.upd3 a H x.2.1 x.2.2⟩),
  (276, ⟨List T.Need × Int × Int, fun _ _ x => .sl 2 (.map T.encN ([], []) x.1) .none, fun a H x => V.upd3 a H x.2.1 x.2.2⟩),
  (274, ⟨List T.Rel × Int × Int, fun _ _ x => .sl 2 (.map T.encR (0, []) x.1) .none, fun a H x => V.upd3 a H x.2.1 x.2.2⟩),
  (326, ⟨List T.Need × ByteArray × Int, fun _ _ x => .sl 2 (.map T.encN ([], []) x.1) .none, fun a H x => V.upd2 a H x.2.1 x.2.2⟩),
  (264, ⟨ByteArray, fun _ _ x => .str x, fun _ H _ => H⟩)]
noncomputable def rets : FuncId → List Ret := lookupR (retW ++ C.retC ++ V.retL)

-- 184
noncomputable def u184 : Nat → Bool
  | _ => false
noncomputable def l270 : Nat → List Nat
  | _ => []
noncomputable def u270 : Nat → Bool
  | _ => false
noncomputable def m270 : Nat → Bool
  | _ => false
noncomputable def g270 : Cfg := { N := 4, live := l270, cut := u270, mu := m270, ret := rets }
theorem s270 : ∀ (bs : List UInt8) (p e : Int) (Post : AV → List AObj → Prop),
  (ASpec Try.prog 145 [AV.ptr 0 0, AV.int IntKind.i64 (24 : Int)]
      [AObj.cells [AV.sl 1 (Seq.map encB (0 : UInt8) bs) Tip.none, AV.int IntKind.i64 p, AV.int IntKind.i64 e], AObj.cells [AV.ptr 0 0],
        AObj.cells [AV.fn (270 : FuncId) [AV.ptr 1 0]], AObj.cells [AV.fn (271 : FuncId) [AV.ptr 1 0]],
        AObj.cells [AV.fn (272 : FuncId) [AV.ptr 2 0, AV.ptr 1 0, AV.ptr 3 0]]]
      fun (r : AV) (H' : List AObj) =>
      ∃ (x : ByteArray × Int × Int),
        r = AV.str (Prod.fst x) ∧
        H' =
        [AObj.cells [AV.sl 1 (Seq.map encB (0 : UInt8) bs) Tip.none, AV.int IntKind.i64 (Prod.fst (Prod.snd x)), AV.int IntKind.i64 (Prod.snd (Prod.snd x))],
        AObj.cells [AV.ptr 0 0], AObj.cells [AV.fn (270 : FuncId) [AV.ptr 1 0]], AObj.cells [AV.fn (271 : FuncId) [AV.ptr 1 0]],
        AObj.cells [AV.fn (272 : FuncId) [AV.ptr 2 0, AV.ptr 1 0, AV.ptr 3 0]]] ∧
        Post (AV.str (Prod.fst x))
        [AObj.cells [AV.sl 1 (Seq.map encB (0 : UInt8) bs) Tip.none, AV.int IntKind.i64 (Prod.fst (Prod.snd x)), AV.int IntKind.i64 (Prod.snd (Prod.snd x))],
        AObj.cells [AV.ptr 0 0], AObj.cells [AV.fn (270 : FuncId) [AV.ptr 1 0]], AObj.cells [AV.fn (271 : FuncId) [AV.ptr 1 0]],
        AObj.cells [AV.fn (272 : FuncId) [AV.ptr 2 0, AV.ptr 1 0, AV.ptr 3 0]]]) →
    ASpec Try.prog 270 [AV.ptr 1 0] (HR bs p e) Post := fun bs p e Post h => Go.Ab.ASpec.of_vc g270 Go.Proofs.Try.func270 (by kernel_rfl) (by kernel_rfl) (by kernel_rfl) (Go.Ab.kc (by kernel_rfl) h)

-- 271
noncomputable def l271 : Nat → List Nat
  | _ => []
noncomputable def u271 : Nat → Bool
  | _ => false
noncomputable def m271 : Nat → Bool
  | _ => false
noncomputable def g271 : Cfg := { N := 11, live := l271, cut := u271, mu := m271, ret := rets }
theorem s271 : ∀ (bs : List UInt8) (p e : Int) (Post : AV → List AObj → Prop),
  (ASpec Try.prog 143 [AV.ptr 0 0, AV.int IntKind.i64 (1000000000 : Int)]
      [AObj.cells [AV.sl 1 (Seq.map encB (0 : UInt8) bs) Tip.none, AV.int IntKind.i64 p, AV.int IntKind.i64 e], AObj.cells [AV.ptr 0 0],
        AObj.cells [AV.fn (270 : FuncId) [AV.ptr 1 0]], AObj.cells [AV.fn (271 : FuncId) [AV.ptr 1 0]],
        AObj.cells [AV.fn (272 : FuncId) [AV.ptr 2 0, AV.ptr 1 0, AV.ptr 3 0]], AObj.cells [AV.int IntKind.i64 (0 : Int), AV.int IntKind.i64 (0 : Int)]]
      fun (r : AV) (H' : List AObj) =>
      ∃ (x : Int × Int × Int),
        r = AV.int IntKind.i64 (Prod.fst x) ∧
        H' =
        [AObj.cells [AV.sl 1 (Seq.map encB (0 : UInt8) bs) Tip.none, AV.int IntKind.i64 (Prod.fst (Prod.snd x)), AV.int IntKind.i64 (Prod.snd (Prod.snd x))],
        AObj.cells [AV.ptr 0 0], AObj.cells [AV.fn (270 : FuncId) [AV.ptr 1 0]], AObj.cells [AV.fn (271 : FuncId) [AV.ptr 1 0]],
        AObj.cells [AV.fn (272 : FuncId) [AV.ptr 2 0, AV.ptr 1 0, AV.ptr 3 0]],
        AObj.cells [AV.int IntKind.i64 (0 : Int), AV.int IntKind.i64 (0 : Int)]] ∧
        ASpec Try.prog 143 [AV.ptr 0 0, AV.int IntKind.i64 (1000000000 : Int)]
        [AObj.cells [AV.sl 1 (Seq.map encB (0 : UInt8) bs) Tip.none, AV.int IntKind.i64 (Prod.fst (Prod.snd x)), AV.int IntKind.i64 (Prod.snd (Prod.snd x))],
        AObj.cells [AV.ptr 0 0], AObj.cells [AV.fn (270 : FuncId) [AV.ptr 1 0]], AObj.cells [AV.fn (271 : FuncId) [AV.ptr 1 0]],
        AObj.cells [AV.fn (272 : FuncId) [AV.ptr 2 0, AV.ptr 1 0, AV.ptr 3 0]],
        AObj.cells [AV.int IntKind.i64 (0 : Int), AV.int IntKind.i64 (0 : Int)]]
        fun (r : AV) (H' : List AObj) =>
        ∃ (x_1 : Int × Int × Int),
        r = AV.int IntKind.i64 (Prod.fst x_1) ∧
        H' =
        [AObj.cells [AV.sl 1 (Seq.map encB (0 : UInt8) bs) Tip.none, AV.int IntKind.i64 (Prod.fst (Prod.snd x_1)), AV.int IntKind.i64 (Prod.snd (Prod.snd x_1))],
        AObj.cells [AV.ptr 0 0], AObj.cells [AV.fn (270 : FuncId) [AV.ptr 1 0]], AObj.cells [AV.fn (271 : FuncId) [AV.ptr 1 0]],
        AObj.cells [AV.fn (272 : FuncId) [AV.ptr 2 0, AV.ptr 1 0, AV.ptr 3 0]],
        AObj.cells [AV.int IntKind.i64 (0 : Int), AV.int IntKind.i64 (0 : Int)]] ∧
        Post (AV.agg [AV.int IntKind.i64 (Prod.fst x), AV.int IntKind.i64 (IntKind.wrap IntKind.i64 (Prod.fst x + Prod.fst x_1))])
        [AObj.cells [AV.sl 1 (Seq.map encB (0 : UInt8) bs) Tip.none, AV.int IntKind.i64 (Prod.fst (Prod.snd x_1)), AV.int IntKind.i64 (Prod.snd (Prod.snd x_1))],
        AObj.cells [AV.ptr 0 0], AObj.cells [AV.fn (270 : FuncId) [AV.ptr 1 0]], AObj.cells [AV.fn (271 : FuncId) [AV.ptr 1 0]],
        AObj.cells [AV.fn (272 : FuncId) [AV.ptr 2 0, AV.ptr 1 0, AV.ptr 3 0]],
        AObj.cells [AV.int IntKind.i64 (Prod.fst x), AV.int IntKind.i64 (IntKind.wrap IntKind.i64 (Prod.fst x + Prod.fst x_1))]]) →
    ASpec Try.prog 271 [AV.ptr 1 0] (HR bs p e) Post := fun bs p e Post h => Go.Ab.ASpec.of_vc g271 Go.Proofs.Try.func271 (by kernel_rfl) (by kernel_rfl) (by kernel_rfl) (Go.Ab.kc (by kernel_rfl) h)

-- 273
noncomputable def l273 : Nat → List Nat
  | 3 => [0, 2, 7, 8]
  | _ => []
noncomputable def u273 : Nat → Bool
  | _ => false
noncomputable def m273 : Nat → Bool
  | _ => false
noncomputable def g273 : Cfg := { N := 27, live := l273, cut := u273, mu := m273, ret := rets }
noncomputable def c273 : Go.Code := Go.Ab.bodyOf Go.Proofs.Try.f273
noncomputable def q273_0 : Nat → (AV → List AObj → Prop) → AQ := fun (n : Nat) (Post : AV → List AObj → Prop) => endQ Try.prog (resultsOf Try.f273) Post
noncomputable def q273_1 : Nat → (AV → List AObj → Prop) → AQ := fun (n : Nat) (Post : AV → List AObj → Prop) => seqQ (fun (s' : Slots) (H' : List AObj) => awp Try.prog g273 n (codeSnd (codeSnd (codeSnd c273))) s' H' (q273_0 n Post)) (q273_0 n Post)
noncomputable def q273_2 : Nat → (AV → List AObj → Prop) → AQ := fun (n : Nat) (Post : AV → List AObj → Prop) => blockQ 0 (q273_1 n Post)
noncomputable def c273_3 : Go.Code := codeFst (codeSnd (codeFst (codeSnd (codeSnd c273))))
theorem s273 : ∀ (bs : List UInt8) (p e most : Int) (Post : AV → List AObj → Prop),
  (ASpec Try.prog 143 [AV.ptr 0 0, AV.int IntKind.i64 most]
      [AObj.cells [AV.sl 1 (Seq.map encB (0 : UInt8) bs) Tip.none, AV.int IntKind.i64 p, AV.int IntKind.i64 e], AObj.cells [AV.ptr 0 0],
        AObj.cells [AV.fn (270 : FuncId) [AV.ptr 1 0]], AObj.cells [AV.fn (271 : FuncId) [AV.ptr 1 0]],
        AObj.cells [AV.fn (272 : FuncId) [AV.ptr 2 0, AV.ptr 1 0, AV.ptr 3 0]]]
      fun (r : AV) (H' : List AObj) =>
      ∃ (x : Int × Int × Int),
        r = AV.int IntKind.i64 (Prod.fst x) ∧
        H' =
        [AObj.cells [AV.sl 1 (Seq.map encB (0 : UInt8) bs) Tip.none, AV.int IntKind.i64 (Prod.fst (Prod.snd x)), AV.int IntKind.i64 (Prod.snd (Prod.snd x))],
        AObj.cells [AV.ptr 0 0], AObj.cells [AV.fn (270 : FuncId) [AV.ptr 1 0]], AObj.cells [AV.fn (271 : FuncId) [AV.ptr 1 0]],
        AObj.cells [AV.fn (272 : FuncId) [AV.ptr 2 0, AV.ptr 1 0, AV.ptr 3 0]]] ∧
        AWP Try.prog 27 5 c273_3
        [(0, AV.ptr 0 0), (2, AV.fn (271 : FuncId) [AV.ptr 1 0]), (7, AV.sl 0 (Seq.raw []) Tip.nil),
        (8, AV.int IntKind.i64 (Prod.fst x))]
        [AObj.cells [AV.sl 1 (Seq.map encB (0 : UInt8) bs) Tip.none, AV.int IntKind.i64 (Prod.fst (Prod.snd x)), AV.int IntKind.i64 (Prod.snd (Prod.snd x))],
        AObj.cells [AV.ptr 0 0], AObj.cells [AV.fn (270 : FuncId) [AV.ptr 1 0]], AObj.cells [AV.fn (271 : FuncId) [AV.ptr 1 0]],
        AObj.cells [AV.fn (272 : FuncId) [AV.ptr 2 0, AV.ptr 1 0, AV.ptr 3 0]]]
        (q273_2 5 Post)) →
    ASpec Try.prog 273 [AV.ptr 0 0, AV.int IntKind.i64 most, AV.fn (271 : FuncId) [AV.ptr 1 0]] (HR bs p e) Post := fun bs p e most Post h => Go.Ab.ASpec.of_vc g273 Go.Proofs.Try.func273 (by kernel_rfl) (by kernel_rfl) (by kernel_rfl) (Go.Ab.kc (by kernel_rfl) h)
theorem v273_3 : ∀ (bs : List UInt8) (p e : Int) (acc : List T.Span) (n : Int) (n_1 : Nat) (Post : AV → List AObj → Prop),
  condP (decide (n > (0 : Int)))
      (ASpec Try.prog 144 [AV.ptr 0 0]
        [AObj.cells [AV.sl 1 (Seq.map encB (0 : UInt8) bs) Tip.none, AV.int IntKind.i64 p, AV.int IntKind.i64 e], AObj.cells [AV.ptr 0 0],
        AObj.cells [AV.fn (270 : FuncId) [AV.ptr 1 0]], AObj.cells [AV.fn (271 : FuncId) [AV.ptr 1 0]],
        AObj.cells [AV.fn (272 : FuncId) [AV.ptr 2 0, AV.ptr 1 0, AV.ptr 3 0]], AObj.tok]
        fun (r : AV) (H' : List AObj) =>
        ∃ (x : Int),
        r = AV.int IntKind.i64 x ∧
        H' =
        [AObj.cells [AV.sl 1 (Seq.map encB (0 : UInt8) bs) Tip.none, AV.int IntKind.i64 p, AV.int IntKind.i64 e], AObj.cells [AV.ptr 0 0],
        AObj.cells [AV.fn (270 : FuncId) [AV.ptr 1 0]], AObj.cells [AV.fn (271 : FuncId) [AV.ptr 1 0]],
        AObj.cells [AV.fn (272 : FuncId) [AV.ptr 2 0, AV.ptr 1 0, AV.ptr 3 0]], AObj.tok] ∧
        condP (x == (0 : Int))
        (ASpec Try.prog 271 [AV.ptr 1 0]
        [AObj.cells [AV.sl 1 (Seq.map encB (0 : UInt8) bs) Tip.none, AV.int IntKind.i64 p, AV.int IntKind.i64 e], AObj.cells [AV.ptr 0 0],
        AObj.cells [AV.fn (270 : FuncId) [AV.ptr 1 0]], AObj.cells [AV.fn (271 : FuncId) [AV.ptr 1 0]],
        AObj.cells [AV.fn (272 : FuncId) [AV.ptr 2 0, AV.ptr 1 0, AV.ptr 3 0]], AObj.tok]
        fun (r : AV) (H' : List AObj) =>
        ∃ (x : T.Span × Int × Int),
        r = AV.agg [AV.int IntKind.i64 (Prod.fst (Prod.fst x)), AV.int IntKind.i64 (Prod.snd (Prod.fst x))] ∧
        H' =
        [AObj.cells [AV.sl 1 (Seq.map encB (0 : UInt8) bs) Tip.none, AV.int IntKind.i64 (Prod.fst (Prod.snd x)), AV.int IntKind.i64 (Prod.snd (Prod.snd x))],
        AObj.cells [AV.ptr 0 0], AObj.cells [AV.fn (270 : FuncId) [AV.ptr 1 0]], AObj.cells [AV.fn (271 : FuncId) [AV.ptr 1 0]],
        AObj.cells [AV.fn (272 : FuncId) [AV.ptr 2 0, AV.ptr 1 0, AV.ptr 3 0]], AObj.tok] ∧
        needP ((List.length acc + 1) * 16 ≤ 140737488351232)
        (AWP Try.prog 27 n_1 c273_3
        [(0, AV.ptr 0 0), (2, AV.fn (271 : FuncId) [AV.ptr 1 0]),
        (7,
        AV.sl 2
        (Seq.app (Seq.map T.encS ((0 : Int), (0 : Int)) acc) (Seq.raw [[AV.int IntKind.i64 (Prod.fst (Prod.fst x)), AV.int IntKind.i64 (Prod.snd (Prod.fst x))]]))
        (Tip.tok 6)),
        (8, AV.int IntKind.i64 (IntKind.wrap IntKind.i64 (n - (1 : Int))))]
        [AObj.cells [AV.sl 1 (Seq.map encB (0 : UInt8) bs) Tip.none, AV.int IntKind.i64 (Prod.fst (Prod.snd x)), AV.int IntKind.i64 (Prod.snd (Prod.snd x))],
        AObj.cells [AV.ptr 0 0], AObj.cells [AV.fn (270 : FuncId) [AV.ptr 1 0]], AObj.cells [AV.fn (271 : FuncId) [AV.ptr 1 0]],
        AObj.cells [AV.fn (272 : FuncId) [AV.ptr 2 0, AV.ptr 1 0, AV.ptr 3 0]], AObj.gone, AObj.tok]
        (q273_2 n_1 Post)))
        (Post (AV.sl 2 (Seq.map T.encS ((0 : Int), (0 : Int)) acc) (Tip.tok 5))
        [AObj.cells [AV.sl 1 (Seq.map encB (0 : UInt8) bs) Tip.none, AV.int IntKind.i64 p, AV.int IntKind.i64 e], AObj.cells [AV.ptr 0 0],
        AObj.cells [AV.fn (270 : FuncId) [AV.ptr 1 0]], AObj.cells [AV.fn (271 : FuncId) [AV.ptr 1 0]],
        AObj.cells [AV.fn (272 : FuncId) [AV.ptr 2 0, AV.ptr 1 0, AV.ptr 3 0]], AObj.tok]))
      (Post (AV.sl 2 (Seq.map T.encS ((0 : Int), (0 : Int)) acc) (Tip.tok 5))
        [AObj.cells [AV.sl 1 (Seq.map encB (0 : UInt8) bs) Tip.none, AV.int IntKind.i64 p, AV.int IntKind.i64 e], AObj.cells [AV.ptr 0 0],
        AObj.cells [AV.fn (270 : FuncId) [AV.ptr 1 0]], AObj.cells [AV.fn (271 : FuncId) [AV.ptr 1 0]],
        AObj.cells [AV.fn (272 : FuncId) [AV.ptr 2 0, AV.ptr 1 0, AV.ptr 3 0]], AObj.tok]) →
    AWP Try.prog 27 n_1 c273_3
      [(0, AV.ptr 0 0), (2, AV.fn (271 : FuncId) [AV.ptr 1 0]),
        (7, AV.sl 2 (Seq.map T.encS ((0 : Int), (0 : Int)) acc) (Tip.tok 5)), (8, AV.int IntKind.i64 n)]
      (HR bs p e ++ [AObj.tok]) (q273_2 n_1 Post) := fun bs p e acc n n Post h => Go.Ab.AWP.loop' g273 (Cfg.live g273) c273_3 (by kernel_rfl) (by kernel_rfl) (Go.Ab.kc (by kernel_rfl) h)

-- 272
noncomputable def l272 : Nat → List Nat
  | _ => []
noncomputable def u272 : Nat → Bool
  | _ => false
noncomputable def m272 : Nat → Bool
  | _ => false
noncomputable def g272 : Cfg := { N := 13, live := l272, cut := u272, mu := m272, ret := rets }
theorem s272 : ∀ (bs : List UInt8) (p e : Int) (Post : AV → List AObj → Prop),
  (ASpec Try.prog 270 [AV.ptr 1 0]
      [AObj.cells [AV.sl 1 (Seq.map encB (0 : UInt8) bs) Tip.none, AV.int IntKind.i64 p, AV.int IntKind.i64 e], AObj.cells [AV.ptr 0 0],
        AObj.cells [AV.fn (270 : FuncId) [AV.ptr 1 0]], AObj.cells [AV.fn (271 : FuncId) [AV.ptr 1 0]],
        AObj.cells [AV.fn (272 : FuncId) [AV.ptr 2 0, AV.ptr 1 0, AV.ptr 3 0]],
        AObj.cells [AV.str { data := #[] }, AV.sl 0 (Seq.raw []) Tip.nil]]
      fun (r : AV) (H' : List AObj) =>
      ∃ (x : ByteArray × Int × Int),
        r = AV.str (Prod.fst x) ∧
        H' =
        [AObj.cells [AV.sl 1 (Seq.map encB (0 : UInt8) bs) Tip.none, AV.int IntKind.i64 (Prod.fst (Prod.snd x)), AV.int IntKind.i64 (Prod.snd (Prod.snd x))],
        AObj.cells [AV.ptr 0 0], AObj.cells [AV.fn (270 : FuncId) [AV.ptr 1 0]], AObj.cells [AV.fn (271 : FuncId) [AV.ptr 1 0]],
        AObj.cells [AV.fn (272 : FuncId) [AV.ptr 2 0, AV.ptr 1 0, AV.ptr 3 0]],
        AObj.cells [AV.str { data := #[] }, AV.sl 0 (Seq.raw []) Tip.nil]] ∧
        ASpec Try.prog 273 [AV.ptr 0 0, AV.int IntKind.i64 (6 : Int), AV.fn (271 : FuncId) [AV.ptr 1 0]]
        [AObj.cells [AV.sl 1 (Seq.map encB (0 : UInt8) bs) Tip.none, AV.int IntKind.i64 (Prod.fst (Prod.snd x)), AV.int IntKind.i64 (Prod.snd (Prod.snd x))],
        AObj.cells [AV.ptr 0 0], AObj.cells [AV.fn (270 : FuncId) [AV.ptr 1 0]], AObj.cells [AV.fn (271 : FuncId) [AV.ptr 1 0]],
        AObj.cells [AV.fn (272 : FuncId) [AV.ptr 2 0, AV.ptr 1 0, AV.ptr 3 0]],
        AObj.cells [AV.str { data := #[] }, AV.sl 0 (Seq.raw []) Tip.nil], AObj.cells [AV.str (Prod.fst x), AV.sl 0 (Seq.raw []) Tip.nil]]
        fun (r : AV) (H' : List AObj) =>
        ∃ (x_1 : List T.Span × Int × Int),
        r = AV.sl 2 (Seq.map T.encS ((0 : Int), (0 : Int)) (Prod.fst x_1)) Tip.none ∧
        H' =
        [AObj.cells [AV.sl 1 (Seq.map encB (0 : UInt8) bs) Tip.none, AV.int IntKind.i64 (Prod.fst (Prod.snd x_1)), AV.int IntKind.i64 (Prod.snd (Prod.snd x_1))],
        AObj.cells [AV.ptr 0 0], AObj.cells [AV.fn (270 : FuncId) [AV.ptr 1 0]], AObj.cells [AV.fn (271 : FuncId) [AV.ptr 1 0]],
        AObj.cells [AV.fn (272 : FuncId) [AV.ptr 2 0, AV.ptr 1 0, AV.ptr 3 0]],
        AObj.cells [AV.str { data := #[] }, AV.sl 0 (Seq.raw []) Tip.nil], AObj.cells [AV.str (Prod.fst x), AV.sl 0 (Seq.raw []) Tip.nil]] ∧
        Post (AV.agg [AV.str (Prod.fst x), AV.sl 2 (Seq.map T.encS ((0 : Int), (0 : Int)) (Prod.fst x_1)) Tip.none])
        [AObj.cells [AV.sl 1 (Seq.map encB (0 : UInt8) bs) Tip.none, AV.int IntKind.i64 (Prod.fst (Prod.snd x_1)), AV.int IntKind.i64 (Prod.snd (Prod.snd x_1))],
        AObj.cells [AV.ptr 0 0], AObj.cells [AV.fn (270 : FuncId) [AV.ptr 1 0]], AObj.cells [AV.fn (271 : FuncId) [AV.ptr 1 0]],
        AObj.cells [AV.fn (272 : FuncId) [AV.ptr 2 0, AV.ptr 1 0, AV.ptr 3 0]],
        AObj.cells [AV.str (Prod.fst x), AV.sl 2 (Seq.map T.encS ((0 : Int), (0 : Int)) (Prod.fst x_1)) Tip.none],
        AObj.cells [AV.str (Prod.fst x), AV.sl 2 (Seq.map T.encS ((0 : Int), (0 : Int)) (Prod.fst x_1)) Tip.none]]) →
    ASpec Try.prog 272 [AV.ptr 2 0, AV.ptr 1 0, AV.ptr 3 0] (HR bs p e) Post := fun bs p e Post h => Go.Ab.ASpec.of_vc g272 Go.Proofs.Try.func272 (by kernel_rfl) (by kernel_rfl) (by kernel_rfl) (Go.Ab.kc (by kernel_rfl) h)

-- 276
noncomputable def l276 : Nat → List Nat
  | 3 => [0, 2, 7, 8]
  | _ => []
noncomputable def u276 : Nat → Bool
  | _ => false
noncomputable def m276 : Nat → Bool
  | _ => false
noncomputable def g276 : Cfg := { N := 27, live := l276, cut := u276, mu := m276, ret := rets }
noncomputable def c276 : Go.Code := Go.Ab.bodyOf Go.Proofs.Try.f276
noncomputable def q276_0 : Nat → (AV → List AObj → Prop) → AQ := fun (n : Nat) (Post : AV → List AObj → Prop) => endQ Try.prog (resultsOf Try.f276) Post
noncomputable def q276_1 : Nat → (AV → List AObj → Prop) → AQ := fun (n : Nat) (Post : AV → List AObj → Prop) => seqQ (fun (s' : Slots) (H' : List AObj) => awp Try.prog g276 n (codeSnd (codeSnd (codeSnd c276))) s' H' (q276_0 n Post)) (q276_0 n Post)
noncomputable def q276_2 : Nat → (AV → List AObj → Prop) → AQ := fun (n : Nat) (Post : AV → List AObj → Prop) => blockQ 0 (q276_1 n Post)
noncomputable def c276_3 : Go.Code := codeFst (codeSnd (codeFst (codeSnd (codeSnd c276))))
theorem s276 : ∀ (bs : List UInt8) (p e most : Int) (Post : AV → List AObj → Prop),
  (ASpec Try.prog 143 [AV.ptr 0 0, AV.int IntKind.i64 most]
      [AObj.cells [AV.sl 1 (Seq.map encB (0 : UInt8) bs) Tip.none, AV.int IntKind.i64 p, AV.int IntKind.i64 e], AObj.cells [AV.ptr 0 0],
        AObj.cells [AV.fn (270 : FuncId) [AV.ptr 1 0]], AObj.cells [AV.fn (271 : FuncId) [AV.ptr 1 0]],
        AObj.cells [AV.fn (272 : FuncId) [AV.ptr 2 0, AV.ptr 1 0, AV.ptr 3 0]]]
      fun (r : AV) (H' : List AObj) =>
      ∃ (x : Int × Int × Int),
        r = AV.int IntKind.i64 (Prod.fst x) ∧
        H' =
        [AObj.cells [AV.sl 1 (Seq.map encB (0 : UInt8) bs) Tip.none, AV.int IntKind.i64 (Prod.fst (Prod.snd x)), AV.int IntKind.i64 (Prod.snd (Prod.snd x))],
        AObj.cells [AV.ptr 0 0], AObj.cells [AV.fn (270 : FuncId) [AV.ptr 1 0]], AObj.cells [AV.fn (271 : FuncId) [AV.ptr 1 0]],
        AObj.cells [AV.fn (272 : FuncId) [AV.ptr 2 0, AV.ptr 1 0, AV.ptr 3 0]]] ∧
        AWP Try.prog 27 5 c276_3
        [(0, AV.ptr 0 0), (2, AV.fn (272 : FuncId) [AV.ptr 2 0, AV.ptr 1 0, AV.ptr 3 0]),
        (7, AV.sl 0 (Seq.raw []) Tip.nil), (8, AV.int IntKind.i64 (Prod.fst x))]
        [AObj.cells [AV.sl 1 (Seq.map encB (0 : UInt8) bs) Tip.none, AV.int IntKind.i64 (Prod.fst (Prod.snd x)), AV.int IntKind.i64 (Prod.snd (Prod.snd x))],
        AObj.cells [AV.ptr 0 0], AObj.cells [AV.fn (270 : FuncId) [AV.ptr 1 0]], AObj.cells [AV.fn (271 : FuncId) [AV.ptr 1 0]],
        AObj.cells [AV.fn (272 : FuncId) [AV.ptr 2 0, AV.ptr 1 0, AV.ptr 3 0]]]
        (q276_2 5 Post)) →
    ASpec Try.prog 276 [AV.ptr 0 0, AV.int IntKind.i64 most, AV.fn (272 : FuncId) [AV.ptr 2 0, AV.ptr 1 0, AV.ptr 3 0]]
      (HR bs p e) Post := fun bs p e most Post h => Go.Ab.ASpec.of_vc g276 Go.Proofs.Try.func276 (by kernel_rfl) (by kernel_rfl) (by kernel_rfl) (Go.Ab.kc (by kernel_rfl) h)
theorem v276_3 : ∀ (bs : List UInt8) (p e : Int) (acc : List T.Need) (n : Int) (n_1 : Nat) (Post : AV → List AObj → Prop),
  condP (decide (n > (0 : Int)))
      (ASpec Try.prog 144 [AV.ptr 0 0]
        [AObj.cells [AV.sl 1 (Seq.map encB (0 : UInt8) bs) Tip.none, AV.int IntKind.i64 p, AV.int IntKind.i64 e], AObj.cells [AV.ptr 0 0],
        AObj.cells [AV.fn (270 : FuncId) [AV.ptr 1 0]], AObj.cells [AV.fn (271 : FuncId) [AV.ptr 1 0]],
        AObj.cells [AV.fn (272 : FuncId) [AV.ptr 2 0, AV.ptr 1 0, AV.ptr 3 0]], AObj.tok]
        fun (r : AV) (H' : List AObj) =>
        ∃ (x : Int),
        r = AV.int IntKind.i64 x ∧
        H' =
        [AObj.cells [AV.sl 1 (Seq.map encB (0 : UInt8) bs) Tip.none, AV.int IntKind.i64 p, AV.int IntKind.i64 e], AObj.cells [AV.ptr 0 0],
        AObj.cells [AV.fn (270 : FuncId) [AV.ptr 1 0]], AObj.cells [AV.fn (271 : FuncId) [AV.ptr 1 0]],
        AObj.cells [AV.fn (272 : FuncId) [AV.ptr 2 0, AV.ptr 1 0, AV.ptr 3 0]], AObj.tok] ∧
        condP (x == (0 : Int))
        (ASpec Try.prog 272 [AV.ptr 2 0, AV.ptr 1 0, AV.ptr 3 0]
        [AObj.cells [AV.sl 1 (Seq.map encB (0 : UInt8) bs) Tip.none, AV.int IntKind.i64 p, AV.int IntKind.i64 e], AObj.cells [AV.ptr 0 0],
        AObj.cells [AV.fn (270 : FuncId) [AV.ptr 1 0]], AObj.cells [AV.fn (271 : FuncId) [AV.ptr 1 0]],
        AObj.cells [AV.fn (272 : FuncId) [AV.ptr 2 0, AV.ptr 1 0, AV.ptr 3 0]], AObj.tok]
        fun (r : AV) (H' : List AObj) =>
        ∃ (x : T.Need × Int × Int),
        r = AV.agg [AV.str { data := List.toArray (Prod.fst (Prod.fst x)) }, AV.sl 2 (Seq.map T.encS ((0 : Int), (0 : Int)) (Prod.snd (Prod.fst x))) Tip.none] ∧
        H' =
        [AObj.cells [AV.sl 1 (Seq.map encB (0 : UInt8) bs) Tip.none, AV.int IntKind.i64 (Prod.fst (Prod.snd x)), AV.int IntKind.i64 (Prod.snd (Prod.snd x))],
        AObj.cells [AV.ptr 0 0], AObj.cells [AV.fn (270 : FuncId) [AV.ptr 1 0]], AObj.cells [AV.fn (271 : FuncId) [AV.ptr 1 0]],
        AObj.cells [AV.fn (272 : FuncId) [AV.ptr 2 0, AV.ptr 1 0, AV.ptr 3 0]], AObj.tok] ∧
        needP ((List.length acc + 1) * 40 ≤ 140737488351232)
        (AWP Try.prog 27 n_1 c276_3
        [(0, AV.ptr 0 0), (2, AV.fn (272 : FuncId) [AV.ptr 2 0, AV.ptr 1 0, AV.ptr 3 0]),
        (7,
        AV.sl 2
        (Seq.app (Seq.map T.encN ([], []) acc)
        (Seq.raw [[AV.str { data := List.toArray (Prod.fst (Prod.fst x)) }, AV.sl 2 (Seq.map T.encS ((0 : Int), (0 : Int)) (Prod.snd (Prod.fst x))) Tip.none]]))
        (Tip.tok 6)),
        (8, AV.int IntKind.i64 (IntKind.wrap IntKind.i64 (n - (1 : Int))))]
        [AObj.cells [AV.sl 1 (Seq.map encB (0 : UInt8) bs) Tip.none, AV.int IntKind.i64 (Prod.fst (Prod.snd x)), AV.int IntKind.i64 (Prod.snd (Prod.snd x))],
        AObj.cells [AV.ptr 0 0], AObj.cells [AV.fn (270 : FuncId) [AV.ptr 1 0]], AObj.cells [AV.fn (271 : FuncId) [AV.ptr 1 0]],
        AObj.cells [AV.fn (272 : FuncId) [AV.ptr 2 0, AV.ptr 1 0, AV.ptr 3 0]], AObj.gone, AObj.tok]
        (q276_2 n_1 Post)))
        (Post (AV.sl 2 (Seq.map T.encN ([], []) acc) (Tip.tok 5))
        [AObj.cells [AV.sl 1 (Seq.map encB (0 : UInt8) bs) Tip.none, AV.int IntKind.i64 p, AV.int IntKind.i64 e], AObj.cells [AV.ptr 0 0],
        AObj.cells [AV.fn (270 : FuncId) [AV.ptr 1 0]], AObj.cells [AV.fn (271 : FuncId) [AV.ptr 1 0]],
        AObj.cells [AV.fn (272 : FuncId) [AV.ptr 2 0, AV.ptr 1 0, AV.ptr 3 0]], AObj.tok]))
      (Post (AV.sl 2 (Seq.map T.encN ([], []) acc) (Tip.tok 5))
        [AObj.cells [AV.sl 1 (Seq.map encB (0 : UInt8) bs) Tip.none, AV.int IntKind.i64 p, AV.int IntKind.i64 e], AObj.cells [AV.ptr 0 0],
        AObj.cells [AV.fn (270 : FuncId) [AV.ptr 1 0]], AObj.cells [AV.fn (271 : FuncId) [AV.ptr 1 0]],
        AObj.cells [AV.fn (272 : FuncId) [AV.ptr 2 0, AV.ptr 1 0, AV.ptr 3 0]], AObj.tok]) →
    AWP Try.prog 27 n_1 c276_3
      [(0, AV.ptr 0 0), (2, AV.fn (272 : FuncId) [AV.ptr 2 0, AV.ptr 1 0, AV.ptr 3 0]),
        (7, AV.sl 2 (Seq.map T.encN ([], []) acc) (Tip.tok 5)), (8, AV.int IntKind.i64 n)]
      (HR bs p e ++ [AObj.tok]) (q276_2 n_1 Post) := fun bs p e acc n n Post h => Go.Ab.AWP.loop' g276 (Cfg.live g276) c276_3 (by kernel_rfl) (by kernel_rfl) (Go.Ab.kc (by kernel_rfl) h)

-- 275
noncomputable def l275 : Nat → List Nat
  | _ => []
noncomputable def u275 : Nat → Bool
  | _ => false
noncomputable def m275 : Nat → Bool
  | _ => false
noncomputable def g275 : Cfg := { N := 12, live := l275, cut := u275, mu := m275, ret := rets }
theorem s275 : ∀ (bs : List UInt8) (p e : Int) (Post : AV → List AObj → Prop),
  (ASpec Try.prog 143 [AV.ptr 0 0, AV.int IntKind.i64 (1000000000 : Int)]
      [AObj.cells [AV.sl 1 (Seq.map encB (0 : UInt8) bs) Tip.none, AV.int IntKind.i64 p, AV.int IntKind.i64 e], AObj.cells [AV.ptr 0 0],
        AObj.cells [AV.fn (270 : FuncId) [AV.ptr 1 0]], AObj.cells [AV.fn (271 : FuncId) [AV.ptr 1 0]],
        AObj.cells [AV.fn (272 : FuncId) [AV.ptr 2 0, AV.ptr 1 0, AV.ptr 3 0]],
        AObj.cells [AV.int IntKind.i64 (0 : Int), AV.sl 0 (Seq.raw []) Tip.nil]]
      fun (r : AV) (H' : List AObj) =>
      ∃ (x : Int × Int × Int),
        r = AV.int IntKind.i64 (Prod.fst x) ∧
        H' =
        [AObj.cells [AV.sl 1 (Seq.map encB (0 : UInt8) bs) Tip.none, AV.int IntKind.i64 (Prod.fst (Prod.snd x)), AV.int IntKind.i64 (Prod.snd (Prod.snd x))],
        AObj.cells [AV.ptr 0 0], AObj.cells [AV.fn (270 : FuncId) [AV.ptr 1 0]], AObj.cells [AV.fn (271 : FuncId) [AV.ptr 1 0]],
        AObj.cells [AV.fn (272 : FuncId) [AV.ptr 2 0, AV.ptr 1 0, AV.ptr 3 0]],
        AObj.cells [AV.int IntKind.i64 (0 : Int), AV.sl 0 (Seq.raw []) Tip.nil]] ∧
        ASpec Try.prog 276
        [AV.ptr 0 0, AV.int IntKind.i64 (6 : Int), AV.fn (272 : FuncId) [AV.ptr 2 0, AV.ptr 1 0, AV.ptr 3 0]]
        [AObj.cells [AV.sl 1 (Seq.map encB (0 : UInt8) bs) Tip.none, AV.int IntKind.i64 (Prod.fst (Prod.snd x)), AV.int IntKind.i64 (Prod.snd (Prod.snd x))],
        AObj.cells [AV.ptr 0 0], AObj.cells [AV.fn (270 : FuncId) [AV.ptr 1 0]], AObj.cells [AV.fn (271 : FuncId) [AV.ptr 1 0]],
        AObj.cells [AV.fn (272 : FuncId) [AV.ptr 2 0, AV.ptr 1 0, AV.ptr 3 0]],
        AObj.cells [AV.int IntKind.i64 (0 : Int), AV.sl 0 (Seq.raw []) Tip.nil], AObj.cells [AV.int IntKind.i64 (Prod.fst x), AV.sl 0 (Seq.raw []) Tip.nil]]
        fun (r : AV) (H' : List AObj) =>
        ∃ (x_1 : List T.Need × Int × Int),
        r = AV.sl 2 (Seq.map T.encN ([], []) (Prod.fst x_1)) Tip.none ∧
        H' =
        [AObj.cells [AV.sl 1 (Seq.map encB (0 : UInt8) bs) Tip.none, AV.int IntKind.i64 (Prod.fst (Prod.snd x_1)), AV.int IntKind.i64 (Prod.snd (Prod.snd x_1))],
        AObj.cells [AV.ptr 0 0], AObj.cells [AV.fn (270 : FuncId) [AV.ptr 1 0]], AObj.cells [AV.fn (271 : FuncId) [AV.ptr 1 0]],
        AObj.cells [AV.fn (272 : FuncId) [AV.ptr 2 0, AV.ptr 1 0, AV.ptr 3 0]],
        AObj.cells [AV.int IntKind.i64 (0 : Int), AV.sl 0 (Seq.raw []) Tip.nil], AObj.cells [AV.int IntKind.i64 (Prod.fst x), AV.sl 0 (Seq.raw []) Tip.nil]] ∧
        Post (AV.agg [AV.int IntKind.i64 (Prod.fst x), AV.sl 2 (Seq.map T.encN ([], []) (Prod.fst x_1)) Tip.none])
        [AObj.cells [AV.sl 1 (Seq.map encB (0 : UInt8) bs) Tip.none, AV.int IntKind.i64 (Prod.fst (Prod.snd x_1)), AV.int IntKind.i64 (Prod.snd (Prod.snd x_1))],
        AObj.cells [AV.ptr 0 0], AObj.cells [AV.fn (270 : FuncId) [AV.ptr 1 0]], AObj.cells [AV.fn (271 : FuncId) [AV.ptr 1 0]],
        AObj.cells [AV.fn (272 : FuncId) [AV.ptr 2 0, AV.ptr 1 0, AV.ptr 3 0]],
        AObj.cells [AV.int IntKind.i64 (Prod.fst x), AV.sl 2 (Seq.map T.encN ([], []) (Prod.fst x_1)) Tip.none],
        AObj.cells [AV.int IntKind.i64 (Prod.fst x), AV.sl 2 (Seq.map T.encN ([], []) (Prod.fst x_1)) Tip.none]]) →
    ASpec Try.prog 275 [AV.ptr 1 0, AV.ptr 4 0] (HR bs p e) Post := fun bs p e Post h => Go.Ab.ASpec.of_vc g275 Go.Proofs.Try.func275 (by kernel_rfl) (by kernel_rfl) (by kernel_rfl) (Go.Ab.kc (by kernel_rfl) h)

-- 274
noncomputable def l274 : Nat → List Nat
  | 3 => [0, 2, 7, 8]
  | _ => []
noncomputable def u274 : Nat → Bool
  | _ => false
noncomputable def m274 : Nat → Bool
  | _ => false
noncomputable def g274 : Cfg := { N := 27, live := l274, cut := u274, mu := m274, ret := rets }
noncomputable def c274 : Go.Code := Go.Ab.bodyOf Go.Proofs.Try.f274
noncomputable def q274_0 : Nat → (AV → List AObj → Prop) → AQ := fun (n : Nat) (Post : AV → List AObj → Prop) => endQ Try.prog (resultsOf Try.f274) Post
noncomputable def q274_1 : Nat → (AV → List AObj → Prop) → AQ := fun (n : Nat) (Post : AV → List AObj → Prop) => seqQ (fun (s' : Slots) (H' : List AObj) => awp Try.prog g274 n (codeSnd (codeSnd (codeSnd c274))) s' H' (q274_0 n Post)) (q274_0 n Post)
noncomputable def q274_2 : Nat → (AV → List AObj → Prop) → AQ := fun (n : Nat) (Post : AV → List AObj → Prop) => blockQ 0 (q274_1 n Post)
noncomputable def c274_3 : Go.Code := codeFst (codeSnd (codeFst (codeSnd (codeSnd c274))))
theorem s274 : ∀ (bs : List UInt8) (p e most : Int) (Post : AV → List AObj → Prop),
  (ASpec Try.prog 143 [AV.ptr 0 0, AV.int IntKind.i64 most]
      [AObj.cells [AV.sl 1 (Seq.map encB (0 : UInt8) bs) Tip.none, AV.int IntKind.i64 p, AV.int IntKind.i64 e], AObj.cells [AV.ptr 0 0],
        AObj.cells [AV.fn (270 : FuncId) [AV.ptr 1 0]], AObj.cells [AV.fn (271 : FuncId) [AV.ptr 1 0]],
        AObj.cells [AV.fn (272 : FuncId) [AV.ptr 2 0, AV.ptr 1 0, AV.ptr 3 0]]]
      fun (r : AV) (H' : List AObj) =>
      ∃ (x : Int × Int × Int),
        r = AV.int IntKind.i64 (Prod.fst x) ∧
        H' =
        [AObj.cells [AV.sl 1 (Seq.map encB (0 : UInt8) bs) Tip.none, AV.int IntKind.i64 (Prod.fst (Prod.snd x)), AV.int IntKind.i64 (Prod.snd (Prod.snd x))],
        AObj.cells [AV.ptr 0 0], AObj.cells [AV.fn (270 : FuncId) [AV.ptr 1 0]], AObj.cells [AV.fn (271 : FuncId) [AV.ptr 1 0]],
        AObj.cells [AV.fn (272 : FuncId) [AV.ptr 2 0, AV.ptr 1 0, AV.ptr 3 0]]] ∧
        AWP Try.prog 27 5 c274_3
        [(0, AV.ptr 0 0), (2, AV.fn (275 : FuncId) [AV.ptr 1 0, AV.ptr 4 0]), (7, AV.sl 0 (Seq.raw []) Tip.nil),
        (8, AV.int IntKind.i64 (Prod.fst x))]
        [AObj.cells [AV.sl 1 (Seq.map encB (0 : UInt8) bs) Tip.none, AV.int IntKind.i64 (Prod.fst (Prod.snd x)), AV.int IntKind.i64 (Prod.snd (Prod.snd x))],
        AObj.cells [AV.ptr 0 0], AObj.cells [AV.fn (270 : FuncId) [AV.ptr 1 0]], AObj.cells [AV.fn (271 : FuncId) [AV.ptr 1 0]],
        AObj.cells [AV.fn (272 : FuncId) [AV.ptr 2 0, AV.ptr 1 0, AV.ptr 3 0]]]
        (q274_2 5 Post)) →
    ASpec Try.prog 274 [AV.ptr 0 0, AV.int IntKind.i64 most, AV.fn (275 : FuncId) [AV.ptr 1 0, AV.ptr 4 0]] (HR bs p e) Post := fun bs p e most Post h => Go.Ab.ASpec.of_vc g274 Go.Proofs.Try.func274 (by kernel_rfl) (by kernel_rfl) (by kernel_rfl) (Go.Ab.kc (by kernel_rfl) h)
theorem v274_3 : ∀ (bs : List UInt8) (p e : Int) (acc : List T.Rel) (n : Int) (n_1 : Nat) (Post : AV → List AObj → Prop),
  condP (decide (n > (0 : Int)))
      (ASpec Try.prog 144 [AV.ptr 0 0]
        [AObj.cells [AV.sl 1 (Seq.map encB (0 : UInt8) bs) Tip.none, AV.int IntKind.i64 p, AV.int IntKind.i64 e], AObj.cells [AV.ptr 0 0],
        AObj.cells [AV.fn (270 : FuncId) [AV.ptr 1 0]], AObj.cells [AV.fn (271 : FuncId) [AV.ptr 1 0]],
        AObj.cells [AV.fn (272 : FuncId) [AV.ptr 2 0, AV.ptr 1 0, AV.ptr 3 0]], AObj.tok]
        fun (r : AV) (H' : List AObj) =>
        ∃ (x : Int),
        r = AV.int IntKind.i64 x ∧
        H' =
        [AObj.cells [AV.sl 1 (Seq.map encB (0 : UInt8) bs) Tip.none, AV.int IntKind.i64 p, AV.int IntKind.i64 e], AObj.cells [AV.ptr 0 0],
        AObj.cells [AV.fn (270 : FuncId) [AV.ptr 1 0]], AObj.cells [AV.fn (271 : FuncId) [AV.ptr 1 0]],
        AObj.cells [AV.fn (272 : FuncId) [AV.ptr 2 0, AV.ptr 1 0, AV.ptr 3 0]], AObj.tok] ∧
        condP (x == (0 : Int))
        (ASpec Try.prog 275 [AV.ptr 1 0, AV.ptr 4 0]
        [AObj.cells [AV.sl 1 (Seq.map encB (0 : UInt8) bs) Tip.none, AV.int IntKind.i64 p, AV.int IntKind.i64 e], AObj.cells [AV.ptr 0 0],
        AObj.cells [AV.fn (270 : FuncId) [AV.ptr 1 0]], AObj.cells [AV.fn (271 : FuncId) [AV.ptr 1 0]],
        AObj.cells [AV.fn (272 : FuncId) [AV.ptr 2 0, AV.ptr 1 0, AV.ptr 3 0]], AObj.tok]
        fun (r : AV) (H' : List AObj) =>
        ∃ (x : T.Rel × Int × Int),
        r = AV.agg [AV.int IntKind.i64 (Prod.fst (Prod.fst x)), AV.sl 2 (Seq.map T.encN ([], []) (Prod.snd (Prod.fst x))) Tip.none] ∧
        H' =
        [AObj.cells [AV.sl 1 (Seq.map encB (0 : UInt8) bs) Tip.none, AV.int IntKind.i64 (Prod.fst (Prod.snd x)), AV.int IntKind.i64 (Prod.snd (Prod.snd x))],
        AObj.cells [AV.ptr 0 0], AObj.cells [AV.fn (270 : FuncId) [AV.ptr 1 0]], AObj.cells [AV.fn (271 : FuncId) [AV.ptr 1 0]],
        AObj.cells [AV.fn (272 : FuncId) [AV.ptr 2 0, AV.ptr 1 0, AV.ptr 3 0]], AObj.tok] ∧
        needP ((List.length acc + 1) * 32 ≤ 140737488351232)
        (AWP Try.prog 27 n_1 c274_3
        [(0, AV.ptr 0 0), (2, AV.fn (275 : FuncId) [AV.ptr 1 0, AV.ptr 4 0]),
        (7,
        AV.sl 2
        (Seq.app (Seq.map T.encR ((0 : Int), []) acc)
        (Seq.raw [[AV.int IntKind.i64 (Prod.fst (Prod.fst x)), AV.sl 2 (Seq.map T.encN ([], []) (Prod.snd (Prod.fst x))) Tip.none]]))
        (Tip.tok 6)),
        (8, AV.int IntKind.i64 (IntKind.wrap IntKind.i64 (n - (1 : Int))))]
        [AObj.cells [AV.sl 1 (Seq.map encB (0 : UInt8) bs) Tip.none, AV.int IntKind.i64 (Prod.fst (Prod.snd x)), AV.int IntKind.i64 (Prod.snd (Prod.snd x))],
        AObj.cells [AV.ptr 0 0], AObj.cells [AV.fn (270 : FuncId) [AV.ptr 1 0]], AObj.cells [AV.fn (271 : FuncId) [AV.ptr 1 0]],
        AObj.cells [AV.fn (272 : FuncId) [AV.ptr 2 0, AV.ptr 1 0, AV.ptr 3 0]], AObj.gone, AObj.tok]
        (q274_2 n_1 Post)))
        (Post (AV.sl 2 (Seq.map T.encR ((0 : Int), []) acc) (Tip.tok 5))
        [AObj.cells [AV.sl 1 (Seq.map encB (0 : UInt8) bs) Tip.none, AV.int IntKind.i64 p, AV.int IntKind.i64 e], AObj.cells [AV.ptr 0 0],
        AObj.cells [AV.fn (270 : FuncId) [AV.ptr 1 0]], AObj.cells [AV.fn (271 : FuncId) [AV.ptr 1 0]],
        AObj.cells [AV.fn (272 : FuncId) [AV.ptr 2 0, AV.ptr 1 0, AV.ptr 3 0]], AObj.tok]))
      (Post (AV.sl 2 (Seq.map T.encR ((0 : Int), []) acc) (Tip.tok 5))
        [AObj.cells [AV.sl 1 (Seq.map encB (0 : UInt8) bs) Tip.none, AV.int IntKind.i64 p, AV.int IntKind.i64 e], AObj.cells [AV.ptr 0 0],
        AObj.cells [AV.fn (270 : FuncId) [AV.ptr 1 0]], AObj.cells [AV.fn (271 : FuncId) [AV.ptr 1 0]],
        AObj.cells [AV.fn (272 : FuncId) [AV.ptr 2 0, AV.ptr 1 0, AV.ptr 3 0]], AObj.tok]) →
    AWP Try.prog 27 n_1 c274_3
      [(0, AV.ptr 0 0), (2, AV.fn (275 : FuncId) [AV.ptr 1 0, AV.ptr 4 0]),
        (7, AV.sl 2 (Seq.map T.encR ((0 : Int), []) acc) (Tip.tok 5)), (8, AV.int IntKind.i64 n)]
      (HR bs p e ++ [AObj.tok]) (q274_2 n_1 Post) := fun bs p e acc n n Post h => Go.Ab.AWP.loop' g274 (Cfg.live g274) c274_3 (by kernel_rfl) (by kernel_rfl) (Go.Ab.kc (by kernel_rfl) h)

-- 181
noncomputable def l181 : Nat → List Nat
  | _ => []
noncomputable def u181 : Nat → Bool
  | _ => false
noncomputable def m181 : Nat → Bool
  | _ => false
noncomputable def g181 : Cfg := { N := 40, live := l181, cut := u181, mu := m181, ret := rets }
theorem s181 : ∀ (bs : List UInt8) (Post : AV → List AObj → Prop),
  condP (decide ((↑(List.length bs) : Int) > (8192 : Int)))
      (Post (AV.tup [AV.agg [AV.str { data := #[] }, AV.sl 0 (Seq.raw []) Tip.nil], AV.int IntKind.i64 (4 : Int)]) [AObj.cells [AV.str { data := #[] }, AV.sl 0 (Seq.raw []) Tip.nil]])
      (ASpec Try.prog 142 [AV.sl 1 (Seq.map encB (0 : UInt8) bs) Tip.none] [AObj.cells [AV.str { data := #[] }, AV.sl 0 (Seq.raw []) Tip.nil]] fun (r : AV) (H' : List AObj) =>
        ∃ (x : List UInt8),
        r = AV.ptr 1 0 ∧
        H' =
        [AObj.cells [AV.str { data := #[] }, AV.sl 0 (Seq.raw []) Tip.nil],
        AObj.cells [AV.sl 1 (Seq.map encB (0 : UInt8) x) Tip.none, AV.int IntKind.i64 (0 : Int), AV.int IntKind.i64 (0 : Int)]] ∧
        ASpec Try.prog 270 [AV.ptr 2 0]
        [AObj.cells [AV.str { data := #[] }, AV.sl 0 (Seq.raw []) Tip.nil],
        AObj.cells [AV.sl 1 (Seq.map encB (0 : UInt8) x) Tip.none, AV.int IntKind.i64 (0 : Int), AV.int IntKind.i64 (0 : Int)], AObj.cells [AV.ptr 1 0],
        AObj.cells [AV.fn 270 [AV.ptr 2 0]], AObj.cells [AV.fn 271 [AV.ptr 2 0]],
        AObj.cells [AV.fn 272 [AV.ptr 3 0, AV.ptr 2 0, AV.ptr 4 0]]]
        fun (r : AV) (H' : List AObj) =>
        ∃ (x_1 : ByteArray × Int × Int),
        r = AV.str (Prod.fst x_1) ∧
        H' =
        [AObj.cells [AV.str { data := #[] }, AV.sl 0 (Seq.raw []) Tip.nil],
        AObj.cells [AV.sl 1 (Seq.map encB (0 : UInt8) x) Tip.none, AV.int IntKind.i64 (Prod.fst (Prod.snd x_1)), AV.int IntKind.i64 (Prod.snd (Prod.snd x_1))],
        AObj.cells [AV.ptr 1 0], AObj.cells [AV.fn 270 [AV.ptr 2 0]], AObj.cells [AV.fn 271 [AV.ptr 2 0]],
        AObj.cells [AV.fn 272 [AV.ptr 3 0, AV.ptr 2 0, AV.ptr 4 0]]] ∧
        ASpec Try.prog 274 [AV.ptr 1 0, AV.int IntKind.i64 (8 : Int), AV.fn 275 [AV.ptr 2 0, AV.ptr 5 0]]
        [AObj.cells [AV.str { data := #[] }, AV.sl 0 (Seq.raw []) Tip.nil],
        AObj.cells [AV.sl 1 (Seq.map encB (0 : UInt8) x) Tip.none, AV.int IntKind.i64 (Prod.fst (Prod.snd x_1)), AV.int IntKind.i64 (Prod.snd (Prod.snd x_1))],
        AObj.cells [AV.ptr 1 0], AObj.cells [AV.fn 270 [AV.ptr 2 0]], AObj.cells [AV.fn 271 [AV.ptr 2 0]],
        AObj.cells [AV.fn 272 [AV.ptr 3 0, AV.ptr 2 0, AV.ptr 4 0]],
        AObj.cells [AV.str (Prod.fst x_1), AV.sl 0 (Seq.raw []) Tip.nil]]
        fun (r : AV) (H' : List AObj) =>
        ∃ (x_2 : List T.Rel × Int × Int),
        r = AV.sl 2 (Seq.map T.encR ((0 : Int), []) (Prod.fst x_2)) Tip.none ∧
        H' =
        [AObj.cells [AV.str { data := #[] }, AV.sl 0 (Seq.raw []) Tip.nil],
        AObj.cells [AV.sl 1 (Seq.map encB (0 : UInt8) x) Tip.none, AV.int IntKind.i64 (Prod.fst (Prod.snd x_2)), AV.int IntKind.i64 (Prod.snd (Prod.snd x_2))],
        AObj.cells [AV.ptr 1 0], AObj.cells [AV.fn 270 [AV.ptr 2 0]], AObj.cells [AV.fn 271 [AV.ptr 2 0]],
        AObj.cells [AV.fn 272 [AV.ptr 3 0, AV.ptr 2 0, AV.ptr 4 0]],
        AObj.cells [AV.str (Prod.fst x_1), AV.sl 0 (Seq.raw []) Tip.nil]] ∧
        ASpec Try.prog 146 [AV.ptr 1 0]
        [AObj.cells [AV.str { data := #[] }, AV.sl 0 (Seq.raw []) Tip.nil],
        AObj.cells [AV.sl 1 (Seq.map encB (0 : UInt8) x) Tip.none, AV.int IntKind.i64 (Prod.fst (Prod.snd x_2)), AV.int IntKind.i64 (Prod.snd (Prod.snd x_2))],
        AObj.cells [AV.ptr 1 0], AObj.cells [AV.fn 270 [AV.ptr 2 0]], AObj.cells [AV.fn 271 [AV.ptr 2 0]],
        AObj.cells [AV.fn 272 [AV.ptr 3 0, AV.ptr 2 0, AV.ptr 4 0]],
        AObj.cells [AV.str (Prod.fst x_1), AV.sl 2 (Seq.map T.encR ((0 : Int), []) (Prod.fst x_2)) Tip.none]]
        fun (r : AV) (H' : List AObj) =>
        ∃ (x_3 : Int),
        r = AV.int IntKind.i64 x_3 ∧
        H' =
        [AObj.cells [AV.str { data := #[] }, AV.sl 0 (Seq.raw []) Tip.nil],
        AObj.cells
        [AV.sl 1 (Seq.map encB (0 : UInt8) x) Tip.none, AV.int IntKind.i64 (Prod.fst (Prod.snd x_2)), AV.int IntKind.i64 (Prod.snd (Prod.snd x_2))],
        AObj.cells [AV.ptr 1 0], AObj.cells [AV.fn 270 [AV.ptr 2 0]],
        AObj.cells [AV.fn 271 [AV.ptr 2 0]],
        AObj.cells [AV.fn 272 [AV.ptr 3 0, AV.ptr 2 0, AV.ptr 4 0]],
        AObj.cells [AV.str (Prod.fst x_1), AV.sl 2 (Seq.map T.encR ((0 : Int), []) (Prod.fst x_2)) Tip.none]] ∧
        condP (x_3 == (0 : Int))
        (ASpec Try.prog 185 [AV.agg [AV.str (Prod.fst x_1), AV.sl 2 (Seq.map T.encR ((0 : Int), []) (Prod.fst x_2)) Tip.none]]
        [AObj.cells [AV.str { data := #[] }, AV.sl 0 (Seq.raw []) Tip.nil],
        AObj.cells
        [AV.sl 1 (Seq.map encB (0 : UInt8) x) Tip.none, AV.int IntKind.i64 (Prod.fst (Prod.snd x_2)), AV.int IntKind.i64 (Prod.snd (Prod.snd x_2))],
        AObj.cells [AV.ptr 1 0], AObj.cells [AV.fn 270 [AV.ptr 2 0]],
        AObj.cells [AV.fn 271 [AV.ptr 2 0]],
        AObj.cells [AV.fn 272 [AV.ptr 3 0, AV.ptr 2 0, AV.ptr 4 0]],
        AObj.cells [AV.str (Prod.fst x_1), AV.sl 2 (Seq.map T.encR ((0 : Int), []) (Prod.fst x_2)) Tip.none]]
        fun (r : AV) (H' : List AObj) =>
        ∃ (x_4 : Bool),
        r = AV.bool x_4 ∧
        H' =
        [AObj.cells [AV.str { data := #[] }, AV.sl 0 (Seq.raw []) Tip.nil],
        AObj.cells
        [AV.sl 1 (Seq.map encB (0 : UInt8) x) Tip.none, AV.int IntKind.i64 (Prod.fst (Prod.snd x_2)),
        AV.int IntKind.i64 (Prod.snd (Prod.snd x_2))],
        AObj.cells [AV.ptr 1 0], AObj.cells [AV.fn 270 [AV.ptr 2 0]],
        AObj.cells [AV.fn 271 [AV.ptr 2 0]],
        AObj.cells [AV.fn 272 [AV.ptr 3 0, AV.ptr 2 0, AV.ptr 4 0]],
        AObj.cells [AV.str (Prod.fst x_1), AV.sl 2 (Seq.map T.encR ((0 : Int), []) (Prod.fst x_2)) Tip.none]] ∧
        condP (!x_4)
        (Post (AV.tup [AV.agg [AV.str { data := #[] }, AV.sl 0 (Seq.raw []) Tip.nil], AV.int IntKind.i64 (3 : Int)])
        [AObj.cells [AV.str { data := #[] }, AV.sl 0 (Seq.raw []) Tip.nil],
        AObj.cells
        [AV.sl 1 (Seq.map encB (0 : UInt8) x) Tip.none, AV.int IntKind.i64 (Prod.fst (Prod.snd x_2)),
        AV.int IntKind.i64 (Prod.snd (Prod.snd x_2))],
        AObj.cells [AV.ptr 1 0], AObj.cells [AV.fn 270 [AV.ptr 2 0]],
        AObj.cells [AV.fn 271 [AV.ptr 2 0]],
        AObj.cells [AV.fn 272 [AV.ptr 3 0, AV.ptr 2 0, AV.ptr 4 0]],
        AObj.cells [AV.str (Prod.fst x_1), AV.sl 2 (Seq.map T.encR ((0 : Int), []) (Prod.fst x_2)) Tip.none]])
        (condP (x_3 != (0 : Int))
        (Post (AV.tup [AV.agg [AV.str { data := #[] }, AV.sl 0 (Seq.raw []) Tip.nil], AV.int IntKind.i64 x_3])
        [AObj.cells [AV.str { data := #[] }, AV.sl 0 (Seq.raw []) Tip.nil],
        AObj.cells
        [AV.sl 1 (Seq.map encB (0 : UInt8) x) Tip.none, AV.int IntKind.i64 (Prod.fst (Prod.snd x_2)),
        AV.int IntKind.i64 (Prod.snd (Prod.snd x_2))],
        AObj.cells [AV.ptr 1 0], AObj.cells [AV.fn 270 [AV.ptr 2 0]],
        AObj.cells [AV.fn 271 [AV.ptr 2 0]],
        AObj.cells [AV.fn 272 [AV.ptr 3 0, AV.ptr 2 0, AV.ptr 4 0]],
        AObj.cells [AV.str (Prod.fst x_1), AV.sl 2 (Seq.map T.encR ((0 : Int), []) (Prod.fst x_2)) Tip.none]])
        (Post
        (AV.tup [AV.agg [AV.str (Prod.fst x_1), AV.sl 2 (Seq.map T.encR ((0 : Int), []) (Prod.fst x_2)) Tip.none], AV.int IntKind.i64 (0 : Int)])
        [AObj.cells [AV.str (Prod.fst x_1), AV.sl 2 (Seq.map T.encR ((0 : Int), []) (Prod.fst x_2)) Tip.none],
        AObj.cells
        [AV.sl 1 (Seq.map encB (0 : UInt8) x) Tip.none, AV.int IntKind.i64 (Prod.fst (Prod.snd x_2)),
        AV.int IntKind.i64 (Prod.snd (Prod.snd x_2))],
        AObj.cells [AV.ptr 1 0], AObj.cells [AV.fn 270 [AV.ptr 2 0]],
        AObj.cells [AV.fn 271 [AV.ptr 2 0]],
        AObj.cells [AV.fn 272 [AV.ptr 3 0, AV.ptr 2 0, AV.ptr 4 0]],
        AObj.cells [AV.str (Prod.fst x_1), AV.sl 2 (Seq.map T.encR ((0 : Int), []) (Prod.fst x_2)) Tip.none]])))
        (condP (x_3 != (0 : Int))
        (Post (AV.tup [AV.agg [AV.str { data := #[] }, AV.sl 0 (Seq.raw []) Tip.nil], AV.int IntKind.i64 x_3])
        [AObj.cells [AV.str { data := #[] }, AV.sl 0 (Seq.raw []) Tip.nil],
        AObj.cells
        [AV.sl 1 (Seq.map encB (0 : UInt8) x) Tip.none, AV.int IntKind.i64 (Prod.fst (Prod.snd x_2)), AV.int IntKind.i64 (Prod.snd (Prod.snd x_2))],
        AObj.cells [AV.ptr 1 0], AObj.cells [AV.fn 270 [AV.ptr 2 0]],
        AObj.cells [AV.fn 271 [AV.ptr 2 0]],
        AObj.cells [AV.fn 272 [AV.ptr 3 0, AV.ptr 2 0, AV.ptr 4 0]],
        AObj.cells [AV.str (Prod.fst x_1), AV.sl 2 (Seq.map T.encR ((0 : Int), []) (Prod.fst x_2)) Tip.none]])
        (Post (AV.tup [AV.agg [AV.str (Prod.fst x_1), AV.sl 2 (Seq.map T.encR ((0 : Int), []) (Prod.fst x_2)) Tip.none], AV.int IntKind.i64 (0 : Int)])
        [AObj.cells [AV.str (Prod.fst x_1), AV.sl 2 (Seq.map T.encR ((0 : Int), []) (Prod.fst x_2)) Tip.none],
        AObj.cells
        [AV.sl 1 (Seq.map encB (0 : UInt8) x) Tip.none, AV.int IntKind.i64 (Prod.fst (Prod.snd x_2)), AV.int IntKind.i64 (Prod.snd (Prod.snd x_2))],
        AObj.cells [AV.ptr 1 0], AObj.cells [AV.fn 270 [AV.ptr 2 0]],
        AObj.cells [AV.fn 271 [AV.ptr 2 0]],
        AObj.cells [AV.fn 272 [AV.ptr 3 0, AV.ptr 2 0, AV.ptr 4 0]],
        AObj.cells [AV.str (Prod.fst x_1), AV.sl 2 (Seq.map T.encR ((0 : Int), []) (Prod.fst x_2)) Tip.none]]))) →
    ASpec Try.prog 181 [AV.sl 1 (Seq.map encB (0 : UInt8) bs) Tip.none] [] Post := fun bs Post h => Go.Ab.ASpec.of_vc g181 Go.Proofs.Try.func181 (by kernel_rfl) (by kernel_rfl) (by kernel_rfl) (Go.Ab.kc (by kernel_rfl) h)

-- 326
noncomputable def l326 : Nat → List Nat
  | 4 => [0, 3, 4, 5]
  | 9 => [0, 3, 4, 5, 6, 7, 8]
  | _ => []
noncomputable def u326 : Nat → Bool
  | _ => false
noncomputable def m326 : Nat → Bool
  | _ => false
noncomputable def g326 : Cfg := { N := 47, live := l326, cut := u326, mu := m326, ret := rets }
noncomputable def c326 : Go.Code := Go.Ab.bodyOf Go.Proofs.Try.f326
noncomputable def q326_0 : Nat → (AV → List AObj → Prop) → AQ := fun (n : Nat) (Post : AV → List AObj → Prop) => endQ Try.prog (resultsOf Try.f326) Post
noncomputable def q326_1 : Nat → (AV → List AObj → Prop) → AQ := fun (n : Nat) (Post : AV → List AObj → Prop) => seqQ (fun (s' : Slots) (H' : List AObj) => awp Try.prog g326 n (codeSnd (codeSnd (codeSnd (codeSnd c326)))) s' H' (q326_0 n Post)) (q326_0 n Post)
noncomputable def q326_2 : Nat → (AV → List AObj → Prop) → AQ := fun (n : Nat) (Post : AV → List AObj → Prop) => blockQ 0 (q326_1 n Post)
noncomputable def c326_4 : Go.Code := codeFst (codeSnd (codeFst (codeSnd (codeSnd (codeSnd c326)))))
theorem s326 : ∀ (s : ByteArray) (e : Int) (Post : AV → List AObj → Prop),
  (ASpec Try.prog 147 [AV.ptr 0 0, AV.int IntKind.i64 (6 : Int)] [AObj.cells [AV.str s, AV.int IntKind.i64 e]] fun (r : AV) (H' : List AObj) =>
      ∃ (x : Int × ByteArray × Int),
        r = AV.int IntKind.i64 (Prod.fst x) ∧
        H' = [AObj.cells [AV.str (Prod.fst (Prod.snd x)), AV.int IntKind.i64 (Prod.snd (Prod.snd x))]] ∧
        AWP Try.prog 47 1 c326_4
        [(0, AV.ptr 0 0), (3, AV.sl 0 (Seq.raw []) Tip.nil), (4, AV.int IntKind.i64 (Prod.fst x)), (5, AV.int IntKind.i64 (0 : Int))]
        [AObj.cells [AV.str (Prod.fst (Prod.snd x)), AV.int IntKind.i64 (Prod.snd (Prod.snd x))]] (q326_2 1 Post)) →
    ASpec Try.prog 326 [AV.ptr 0 0] [AObj.cells [AV.str s, AV.int IntKind.i64 e]] Post := fun s e Post h => Go.Ab.ASpec.of_vc g326 Go.Proofs.Try.func326 (by kernel_rfl) (by kernel_rfl) (by kernel_rfl) (Go.Ab.kc (by kernel_rfl) h)
noncomputable def q326_3 : Nat → (AV → List AObj → Prop) → AQ := fun (n : Nat) (Post : AV → List AObj → Prop) => loopQ Try.prog 47 n c326_4 (q326_2 n Post) (Cfg.live g326)
noncomputable def q326_4 : Nat → (AV → List AObj → Prop) → AQ := fun (n : Nat) (Post : AV → List AObj → Prop) => seqQ (fun (s' : Slots) (H' : List AObj) => awp Try.prog g326 n (codeSnd (codeSnd (codeFst c326_4))) s' H' (q326_3 n Post)) (q326_3 n Post)
noncomputable def q326_5 : Nat → (AV → List AObj → Prop) → AQ := fun (n : Nat) (Post : AV → List AObj → Prop) => blockQ 1 (q326_4 n Post)
noncomputable def q326_6 : Nat → (AV → List AObj → Prop) → AQ := fun (n : Nat) (Post : AV → List AObj → Prop) => seqQ (fun (s' : Slots) (H' : List AObj) => awp Try.prog g326 n (codeSnd (codeSnd (codeSnd (codeFst (codeFst (codeSnd (codeFst c326_4))))))) s' H' (q326_5 n Post)) (q326_5 n Post)
noncomputable def q326_7 : Nat → (AV → List AObj → Prop) → AQ := fun (n : Nat) (Post : AV → List AObj → Prop) => blockQ 2 (q326_6 n Post)
noncomputable def c326_9 : Go.Code := codeFst (codeSnd (codeFst (codeSnd (codeSnd (codeFst (codeFst (codeSnd (codeFst c326_4))))))))
theorem v326_4 : ∀ (s : ByteArray) (e : Int) (acc : List T.Need) (n i : Int) (n_1 : Nat) (Post : AV → List AObj → Prop),
  condP (decide (i < n))
      (ASpec Try.prog 148 [AV.ptr 0 0, AV.int IntKind.i64 (24 : Int)] [AObj.cells [AV.str s, AV.int IntKind.i64 e], AObj.tok] fun (r : AV) (H' : List AObj) =>
        ∃ (x : ByteArray × ByteArray × Int),
        r = AV.str (Prod.fst x) ∧
        H' = [AObj.cells [AV.str (Prod.fst (Prod.snd x)), AV.int IntKind.i64 (Prod.snd (Prod.snd x))], AObj.tok] ∧
        ASpec Try.prog 147 [AV.ptr 0 0, AV.int IntKind.i64 (6 : Int)]
        [AObj.cells [AV.str (Prod.fst (Prod.snd x)), AV.int IntKind.i64 (Prod.snd (Prod.snd x))], AObj.tok, AObj.cells [AV.str (Prod.fst x), AV.sl 0 (Seq.raw []) Tip.nil]]
        fun (r : AV) (H' : List AObj) =>
        ∃ (x_1 : Int × ByteArray × Int),
        r = AV.int IntKind.i64 (Prod.fst x_1) ∧
        H' =
        [AObj.cells [AV.str (Prod.fst (Prod.snd x_1)), AV.int IntKind.i64 (Prod.snd (Prod.snd x_1))], AObj.tok,
        AObj.cells [AV.str (Prod.fst x), AV.sl 0 (Seq.raw []) Tip.nil]] ∧
        AWP Try.prog 47 n_1 c326_9
        [(0, AV.ptr 0 0), (3, AV.sl 2 (Seq.map T.encN ([], []) acc) (Tip.tok 1)), (4, AV.int IntKind.i64 n),
        (5, AV.int IntKind.i64 i), (6, AV.ptr 2 0), (7, AV.int IntKind.i64 (Prod.fst x_1)), (8, AV.int IntKind.i64 (0 : Int))]
        [AObj.cells [AV.str (Prod.fst (Prod.snd x_1)), AV.int IntKind.i64 (Prod.snd (Prod.snd x_1))], AObj.tok, AObj.cells [AV.str (Prod.fst x), AV.sl 0 (Seq.raw []) Tip.nil]]
        (q326_7 n_1 Post))
      (Post (AV.sl 2 (Seq.map T.encN ([], []) acc) (Tip.tok 1)) [AObj.cells [AV.str s, AV.int IntKind.i64 e], AObj.tok]) →
    AWP Try.prog 47 n_1 c326_4
      [(0, AV.ptr 0 0), (3, AV.sl 2 (Seq.map T.encN ([], []) acc) (Tip.tok 1)), (4, AV.int IntKind.i64 n), (5, AV.int IntKind.i64 i)]
      [AObj.cells [AV.str s, AV.int IntKind.i64 e], AObj.tok] (q326_2 n_1 Post) := fun s e acc n i n Post h => Go.Ab.AWP.loop' g326 (Cfg.live g326) c326_4 (by kernel_rfl) (by kernel_rfl) (Go.Ab.kc (by kernel_rfl) h)
theorem v326_9 : ∀ (s : ByteArray) (e : Int) (acc : List T.Need) (n i : Int) (nm : ByteArray) (sp : List T.Span) (k j : Int) (n_1 : Nat) (Post : AV → List AObj → Prop),
  condP (decide (j < k))
      (ASpec Try.prog 147 [AV.ptr 0 0, AV.int IntKind.i64 (1000000000 : Int)]
        [AObj.cells [AV.str s, AV.int IntKind.i64 e], AObj.tok, AObj.cells [AV.str nm, AV.sl 2 (Seq.map T.encS ((0 : Int), (0 : Int)) sp) (Tip.tok 3)], AObj.tok]
        fun (r : AV) (H' : List AObj) =>
        ∃ (x : Int × ByteArray × Int),
        r = AV.int IntKind.i64 (Prod.fst x) ∧
        H' =
        [AObj.cells [AV.str (Prod.fst (Prod.snd x)), AV.int IntKind.i64 (Prod.snd (Prod.snd x))], AObj.tok,
        AObj.cells [AV.str nm, AV.sl 2 (Seq.map T.encS ((0 : Int), (0 : Int)) sp) (Tip.tok 3)], AObj.tok] ∧
        ASpec Try.prog 147 [AV.ptr 0 0, AV.int IntKind.i64 (1000000000 : Int)]
        [AObj.cells [AV.str (Prod.fst (Prod.snd x)), AV.int IntKind.i64 (Prod.snd (Prod.snd x))], AObj.tok,
        AObj.cells [AV.str nm, AV.sl 2 (Seq.map T.encS ((0 : Int), (0 : Int)) sp) (Tip.tok 3)], AObj.tok]
        fun (r : AV) (H' : List AObj) =>
        ∃ (x_1 : Int × ByteArray × Int),
        r = AV.int IntKind.i64 (Prod.fst x_1) ∧
        H' =
        [AObj.cells [AV.str (Prod.fst (Prod.snd x_1)), AV.int IntKind.i64 (Prod.snd (Prod.snd x_1))], AObj.tok,
        AObj.cells [AV.str nm, AV.sl 2 (Seq.map T.encS ((0 : Int), (0 : Int)) sp) (Tip.tok 3)], AObj.tok] ∧
        needP ((List.length sp + 1) * 16 ≤ 140737488351232)
        (AWP Try.prog 47 n_1 c326_9
        [(0, AV.ptr 0 0), (3, AV.sl 2 (Seq.map T.encN ([], []) acc) (Tip.tok 1)), (4, AV.int IntKind.i64 n),
        (5, AV.int IntKind.i64 i), (6, AV.ptr 2 0), (7, AV.int IntKind.i64 k),
        (8, AV.int IntKind.i64 (IntKind.wrap IntKind.i64 (j + (1 : Int))))]
        [AObj.cells [AV.str (Prod.fst (Prod.snd x_1)), AV.int IntKind.i64 (Prod.snd (Prod.snd x_1))], AObj.tok,
        AObj.cells
        [AV.str nm,
        AV.sl 2
        (Seq.app (Seq.map T.encS ((0 : Int), (0 : Int)) sp)
        (Seq.raw [[AV.int IntKind.i64 (Prod.fst x), AV.int IntKind.i64 (IntKind.wrap IntKind.i64 (Prod.fst x + Prod.fst x_1))]]))
        (Tip.tok 4)],
        AObj.gone, AObj.tok]
        (q326_7 n_1 Post)))
      (needP ((List.length acc + 1) * 40 ≤ 140737488351232)
        (AWP Try.prog 47 n_1 c326_4
        [(0, AV.ptr 0 0),
        (3,
        AV.sl 2 (Seq.app (Seq.map T.encN ([], []) acc) (Seq.raw [[AV.str nm, AV.sl 2 (Seq.map T.encS ((0 : Int), (0 : Int)) sp) (Tip.tok 3)]])) (Tip.tok 4)),
        (4, AV.int IntKind.i64 n), (5, AV.int IntKind.i64 (IntKind.wrap IntKind.i64 (i + (1 : Int))))]
        [AObj.cells [AV.str s, AV.int IntKind.i64 e], AObj.gone, AObj.cells [AV.str nm, AV.sl 2 (Seq.map T.encS ((0 : Int), (0 : Int)) sp) (Tip.tok 3)], AObj.tok, AObj.tok]
        (q326_2 n_1 Post))) →
    AWP Try.prog 47 n_1 c326_9
      [(0, AV.ptr 0 0), (3, AV.sl 2 (Seq.map T.encN ([], []) acc) (Tip.tok 1)), (4, AV.int IntKind.i64 n), (5, AV.int IntKind.i64 i),
        (6, AV.ptr 2 0), (7, AV.int IntKind.i64 k), (8, AV.int IntKind.i64 j)]
      [AObj.cells [AV.str s, AV.int IntKind.i64 e], AObj.tok, AObj.cells [AV.str nm, AV.sl 2 (Seq.map T.encS ((0 : Int), (0 : Int)) sp) (Tip.tok 3)], AObj.tok] (q326_7 n_1 Post) := fun s e acc n i nm sp k j n Post h => Go.Ab.AWP.loop' g326 (Cfg.live g326) c326_9 (by kernel_rfl) (by kernel_rfl) (Go.Ab.kc (by kernel_rfl) h)

-- 277
noncomputable def l277 : Nat → List Nat
  | 7 => [2, 4, 5, 6, 7]
  | _ => []
noncomputable def u277 : Nat → Bool
  | _ => false
noncomputable def m277 : Nat → Bool
  | _ => false
noncomputable def g277 : Cfg := { N := 53, live := l277, cut := u277, mu := m277, ret := rets }
noncomputable def c277 : Go.Code := Go.Ab.bodyOf Go.Proofs.Try.f277
noncomputable def q277_0 : Nat → (AV → List AObj → Prop) → AQ := fun (n : Nat) (Post : AV → List AObj → Prop) => endQ Try.prog (resultsOf Try.f277) Post
noncomputable def q277_1 : Nat → (AV → List AObj → Prop) → AQ := fun (n : Nat) (Post : AV → List AObj → Prop) => seqQ (fun (s' : Slots) (H' : List AObj) => awp Try.prog g277 n (codeSnd (codeSnd (codeSnd (codeSnd (codeSnd (codeSnd c277)))))) s' H' (q277_0 n Post)) (q277_0 n Post)
noncomputable def q277_2 : Nat → (AV → List AObj → Prop) → AQ := fun (n : Nat) (Post : AV → List AObj → Prop) => blockQ 0 (q277_1 n Post)
noncomputable def c277_7 : Go.Code := codeFst (codeSnd (codeFst (codeSnd (codeSnd (codeSnd (codeSnd (codeSnd c277)))))))
theorem s277 : ∀ (s : ByteArray) (Post : AV → List AObj → Prop),
  condP (decide ((↑(ByteArray.size s) : Int) > (8192 : Int)))
      (Post (AV.tup [AV.agg [AV.str { data := #[] }, AV.sl 0 (Seq.raw []) Tip.nil], AV.int IntKind.i64 (4 : Int)]) [AObj.cells [AV.str { data := #[] }, AV.sl 0 (Seq.raw []) Tip.nil]])
      (ASpec Try.prog 148 [AV.ptr 1 0, AV.int IntKind.i64 (24 : Int)]
        [AObj.cells [AV.str { data := #[] }, AV.sl 0 (Seq.raw []) Tip.nil], AObj.cells [AV.str s, AV.int IntKind.i64 (0 : Int)]] fun (r : AV) (H' : List AObj) =>
        ∃ (x : ByteArray × ByteArray × Int),
        r = AV.str (Prod.fst x) ∧
        H' = [AObj.cells [AV.str { data := #[] }, AV.sl 0 (Seq.raw []) Tip.nil], AObj.cells [AV.str (Prod.fst (Prod.snd x)), AV.int IntKind.i64 (Prod.snd (Prod.snd x))]] ∧
        ASpec Try.prog 147 [AV.ptr 1 0, AV.int IntKind.i64 (8 : Int)]
        [AObj.cells [AV.str { data := #[] }, AV.sl 0 (Seq.raw []) Tip.nil], AObj.cells [AV.str (Prod.fst (Prod.snd x)), AV.int IntKind.i64 (Prod.snd (Prod.snd x))],
        AObj.cells [AV.str (Prod.fst x), AV.sl 0 (Seq.raw []) Tip.nil]]
        fun (r : AV) (H' : List AObj) =>
        ∃ (x_1 : Int × ByteArray × Int),
        r = AV.int IntKind.i64 (Prod.fst x_1) ∧
        H' =
        [AObj.cells [AV.str { data := #[] }, AV.sl 0 (Seq.raw []) Tip.nil], AObj.cells [AV.str (Prod.fst (Prod.snd x_1)), AV.int IntKind.i64 (Prod.snd (Prod.snd x_1))],
        AObj.cells [AV.str (Prod.fst x), AV.sl 0 (Seq.raw []) Tip.nil]] ∧
        AWP Try.prog 53 0 c277_7
        [(2, AV.ptr 0 0), (4, AV.ptr 1 0), (5, AV.ptr 2 0), (6, AV.int IntKind.i64 (Prod.fst x_1)),
        (7, AV.int IntKind.i64 (0 : Int))]
        [AObj.cells [AV.str { data := #[] }, AV.sl 0 (Seq.raw []) Tip.nil], AObj.cells [AV.str (Prod.fst (Prod.snd x_1)), AV.int IntKind.i64 (Prod.snd (Prod.snd x_1))],
        AObj.cells [AV.str (Prod.fst x), AV.sl 0 (Seq.raw []) Tip.nil]]
        (q277_2 0 Post)) →
    ASpec Try.prog 277 [AV.str s] [] Post := fun s Post h => Go.Ab.ASpec.of_vc g277 Go.Proofs.Try.func277 (by kernel_rfl) (by kernel_rfl) (by kernel_rfl) (Go.Ab.kc (by kernel_rfl) h)
theorem v277_7 : ∀ (s : ByteArray) (e : Int) (nm : ByteArray) (acc : List T.Rel) (n i : Int) (n_1 : Nat) (Post : AV → List AObj → Prop),
  condP (decide (i < n))
      (ASpec Try.prog 147 [AV.ptr 1 0, AV.int IntKind.i64 (1000000000 : Int)]
        [AObj.cells [AV.str { data := #[] }, AV.sl 0 (Seq.raw []) Tip.nil], AObj.cells [AV.str s, AV.int IntKind.i64 e],
        AObj.cells [AV.str nm, AV.sl 2 (Seq.map T.encR ((0 : Int), []) acc) (Tip.tok 3)], AObj.tok]
        fun (r : AV) (H' : List AObj) =>
        ∃ (x : Int × ByteArray × Int),
        r = AV.int IntKind.i64 (Prod.fst x) ∧
        H' =
        [AObj.cells [AV.str { data := #[] }, AV.sl 0 (Seq.raw []) Tip.nil], AObj.cells [AV.str (Prod.fst (Prod.snd x)), AV.int IntKind.i64 (Prod.snd (Prod.snd x))],
        AObj.cells [AV.str nm, AV.sl 2 (Seq.map T.encR ((0 : Int), []) acc) (Tip.tok 3)], AObj.tok] ∧
        ASpec Try.prog 326 [AV.ptr 1 0]
        [AObj.cells [AV.str { data := #[] }, AV.sl 0 (Seq.raw []) Tip.nil], AObj.cells [AV.str (Prod.fst (Prod.snd x)), AV.int IntKind.i64 (Prod.snd (Prod.snd x))],
        AObj.cells [AV.str nm, AV.sl 2 (Seq.map T.encR ((0 : Int), []) acc) (Tip.tok 3)], AObj.tok,
        AObj.cells [AV.int IntKind.i64 (Prod.fst x), AV.sl 0 (Seq.raw []) Tip.nil]]
        fun (r : AV) (H' : List AObj) =>
        ∃ (x_1 : List T.Need × ByteArray × Int),
        r = AV.sl 2 (Seq.map T.encN ([], []) (Prod.fst x_1)) Tip.none ∧
        H' =
        [AObj.cells [AV.str { data := #[] }, AV.sl 0 (Seq.raw []) Tip.nil], AObj.cells [AV.str (Prod.fst (Prod.snd x_1)), AV.int IntKind.i64 (Prod.snd (Prod.snd x_1))],
        AObj.cells [AV.str nm, AV.sl 2 (Seq.map T.encR ((0 : Int), []) acc) (Tip.tok 3)], AObj.tok,
        AObj.cells [AV.int IntKind.i64 (Prod.fst x), AV.sl 0 (Seq.raw []) Tip.nil]] ∧
        needP ((List.length acc + 1) * 32 ≤ 140737488351232)
        (AWP Try.prog 53 n_1 c277_7
        [(2, AV.ptr 0 0), (4, AV.ptr 1 0), (5, AV.ptr 2 0), (6, AV.int IntKind.i64 n),
        (7, AV.int IntKind.i64 (IntKind.wrap IntKind.i64 (i + (1 : Int))))]
        [AObj.cells [AV.str { data := #[] }, AV.sl 0 (Seq.raw []) Tip.nil], AObj.cells [AV.str (Prod.fst (Prod.snd x_1)), AV.int IntKind.i64 (Prod.snd (Prod.snd x_1))],
        AObj.cells
        [AV.str nm,
        AV.sl 2
        (Seq.app (Seq.map T.encR ((0 : Int), []) acc) (Seq.raw [[AV.int IntKind.i64 (Prod.fst x), AV.sl 2 (Seq.map T.encN ([], []) (Prod.fst x_1)) Tip.none]]))
        (Tip.tok 5)],
        AObj.gone, AObj.cells [AV.int IntKind.i64 (Prod.fst x), AV.sl 2 (Seq.map T.encN ([], []) (Prod.fst x_1)) Tip.none], AObj.tok]
        (q277_2 n_1 Post)))
      (ASpec Try.prog 149 [AV.ptr 1 0]
        [AObj.cells [AV.str { data := #[] }, AV.sl 0 (Seq.raw []) Tip.nil], AObj.cells [AV.str s, AV.int IntKind.i64 e],
        AObj.cells [AV.str nm, AV.sl 2 (Seq.map T.encR ((0 : Int), []) acc) (Tip.tok 3)], AObj.tok]
        fun (r : AV) (H' : List AObj) =>
        ∃ (x : Int),
        r = AV.int IntKind.i64 x ∧
        H' =
        [AObj.cells [AV.str { data := #[] }, AV.sl 0 (Seq.raw []) Tip.nil], AObj.cells [AV.str s, AV.int IntKind.i64 e],
        AObj.cells [AV.str nm, AV.sl 2 (Seq.map T.encR ((0 : Int), []) acc) (Tip.tok 3)], AObj.tok] ∧
        condP (x == (0 : Int))
        (ASpec Try.prog 186 [AV.agg [AV.str nm, AV.sl 2 (Seq.map T.encR ((0 : Int), []) acc) (Tip.tok 3)]]
        [AObj.cells [AV.str { data := #[] }, AV.sl 0 (Seq.raw []) Tip.nil], AObj.cells [AV.str s, AV.int IntKind.i64 e],
        AObj.cells [AV.str nm, AV.sl 2 (Seq.map T.encR ((0 : Int), []) acc) (Tip.tok 3)], AObj.tok]
        fun (r : AV) (H' : List AObj) =>
        ∃ (x_1 : Bool),
        r = AV.bool x_1 ∧
        H' =
        [AObj.cells [AV.str { data := #[] }, AV.sl 0 (Seq.raw []) Tip.nil], AObj.cells [AV.str s, AV.int IntKind.i64 e],
        AObj.cells [AV.str nm, AV.sl 2 (Seq.map T.encR ((0 : Int), []) acc) (Tip.tok 3)], AObj.tok] ∧
        condP (!x_1)
        (Post (AV.tup [AV.agg [AV.str { data := #[] }, AV.sl 0 (Seq.raw []) Tip.nil], AV.int IntKind.i64 (3 : Int)])
        [AObj.cells [AV.str { data := #[] }, AV.sl 0 (Seq.raw []) Tip.nil], AObj.cells [AV.str s, AV.int IntKind.i64 e],
        AObj.cells [AV.str nm, AV.sl 2 (Seq.map T.encR ((0 : Int), []) acc) (Tip.tok 3)], AObj.tok])
        (condP (x != (0 : Int))
        (Post (AV.tup [AV.agg [AV.str { data := #[] }, AV.sl 0 (Seq.raw []) Tip.nil], AV.int IntKind.i64 x])
        [AObj.cells [AV.str { data := #[] }, AV.sl 0 (Seq.raw []) Tip.nil], AObj.cells [AV.str s, AV.int IntKind.i64 e],
        AObj.cells [AV.str nm, AV.sl 2 (Seq.map T.encR ((0 : Int), []) acc) (Tip.tok 3)], AObj.tok])
        (Post (AV.tup [AV.agg [AV.str nm, AV.sl 2 (Seq.map T.encR ((0 : Int), []) acc) (Tip.tok 3)], AV.int IntKind.i64 (0 : Int)])
        [AObj.cells [AV.str nm, AV.sl 2 (Seq.map T.encR ((0 : Int), []) acc) (Tip.tok 3)], AObj.cells [AV.str s, AV.int IntKind.i64 e],
        AObj.cells [AV.str nm, AV.sl 2 (Seq.map T.encR ((0 : Int), []) acc) (Tip.tok 3)], AObj.tok])))
        (condP (x != (0 : Int))
        (Post (AV.tup [AV.agg [AV.str { data := #[] }, AV.sl 0 (Seq.raw []) Tip.nil], AV.int IntKind.i64 x])
        [AObj.cells [AV.str { data := #[] }, AV.sl 0 (Seq.raw []) Tip.nil], AObj.cells [AV.str s, AV.int IntKind.i64 e],
        AObj.cells [AV.str nm, AV.sl 2 (Seq.map T.encR ((0 : Int), []) acc) (Tip.tok 3)], AObj.tok])
        (Post (AV.tup [AV.agg [AV.str nm, AV.sl 2 (Seq.map T.encR ((0 : Int), []) acc) (Tip.tok 3)], AV.int IntKind.i64 (0 : Int)])
        [AObj.cells [AV.str nm, AV.sl 2 (Seq.map T.encR ((0 : Int), []) acc) (Tip.tok 3)], AObj.cells [AV.str s, AV.int IntKind.i64 e],
        AObj.cells [AV.str nm, AV.sl 2 (Seq.map T.encR ((0 : Int), []) acc) (Tip.tok 3)], AObj.tok]))) →
    AWP Try.prog 53 n_1 c277_7
      [(2, AV.ptr 0 0), (4, AV.ptr 1 0), (5, AV.ptr 2 0), (6, AV.int IntKind.i64 n), (7, AV.int IntKind.i64 i)]
      [AObj.cells [AV.str { data := #[] }, AV.sl 0 (Seq.raw []) Tip.nil], AObj.cells [AV.str s, AV.int IntKind.i64 e],
        AObj.cells [AV.str nm, AV.sl 2 (Seq.map T.encR ((0 : Int), []) acc) (Tip.tok 3)], AObj.tok]
      (q277_2 n_1 Post) := fun s e nm acc n i n Post h => Go.Ab.AWP.loop' g277 (Cfg.live g277) c277_7 (by kernel_rfl) (by kernel_rfl) (Go.Ab.kc (by kernel_rfl) h)

end
end W
end

section
/- Entries, and what an index knows. -/

open Go Go.Ab Go.Proofs
namespace T
/-- name, body -/
abbrev Ent := List UInt8 × List UInt8
noncomputable def encEn (x : Ent) : List AV := [.str ⟨x.1.toArray⟩, .sl 1 (.map encB 0 x.2) .none]
/-- a manifest, or a name that is broken -/
abbrev Known := Option Mani
noncomputable def encK : Known → AV
  | some m => .iface 276 (.agg (encM m))
  | none => .iface 365 (.agg [])
noncomputable def EK : Enc Known := ⟨encK, fun a K => optionP a (fun m => K (.iface 276 (.agg (encM m)))) (K (.iface 365 (.agg []))), fun a K h => by cases a <;> exact h⟩
abbrev Kn := List (ByteArray × Known)
noncomputable def HX (es : Kn) : List AObj := [.mp (.typed EK es), .cells [.map 0]]
end T
end

section
/- Printed: what the code of functions 37, 112, 120, 116, 121, 113, 414, 419, 218, 255, 305, 221, 111 asks for, by the framework's own reading of it; each line is checked against the code. -/

set_option linter.unusedVariables false
set_option maxRecDepth 100000
set_option maxHeartbeats 4000000
open Go Go.Ab Go.Proofs
namespace X
noncomputable section

noncomputable def updI (args : List AV) (H : List AObj) (es : T.Kn) : List AObj := match args with
  | .ptr p _ :: _ => match H[p]? with
    | some (.cells [.map q]) => H.set q (.mp (.typed T.EK es))
    | _ => H
  | _ => H
noncomputable def retX : List (Nat × Ret) := [
  (37, ⟨Bool, fun _ _ x => .bool x, fun _ H _ => H⟩), (120, ⟨Bool, fun _ _ x => .bool x, fun _ H _ => H⟩),
  (111, ⟨Unit, fun _ _ _ => .bool true, fun _ H _ => H⟩),
  (414, ⟨Unit, fun _ _ _ => .bool true, fun _ H _ => H⟩),
  (419, ⟨Unit, fun _ _ _ => .bool false, fun _ H _ => H⟩),
  (112, ⟨Unit, fun _ H _ => .ptr (H.length + 1) 0, fun _ H _ => H ++ [.mp (.typed T.EK []), .cells [.map H.length]]⟩),
  (116, ⟨T.Mani × Bool, fun _ _ x => .tup [.agg (T.encM x.1), .bool x.2], fun _ H _ => H⟩),
  (121, ⟨Int, fun _ _ x => .int .i64 x, fun _ H _ => H⟩),
  (113, ⟨Int × T.Kn, fun _ _ x => .int .i64 x.1, fun a H x => updI a H x.2⟩),
  (221, ⟨T.Mani, fun _ _ x => .agg (T.encM x), fun _ H _ => H⟩),
  (305, ⟨T.Rel, fun _ _ x => .agg (T.encR x), fun _ H _ => H⟩),
  (255, ⟨List T.Span, fun _ _ x => .sl 2 (.map T.encS (0, 0) x) .none, fun _ H _ => H⟩),
  (218, ⟨T.Mani, fun _ _ x => .iface 276 (.agg (T.encM x)), fun _ H _ => H⟩),
  (218, ⟨Unit, fun _ _ _ => .iface 365 (.agg []), fun _ H _ => H⟩)]
noncomputable def rets : FuncId → List Ret := lookupR (retX ++ W.retW ++ C.retC ++ V.retL)

-- 37
noncomputable def l37 : Nat → List Nat
  | 4 => [0, 3]
  | _ => []
noncomputable def u37 : Nat → Bool
  | _ => false
noncomputable def m37 : Nat → Bool
  | _ => false
noncomputable def g37 : Cfg := { N := 29, live := l37, cut := u37, mu := m37, ret := rets }
noncomputable def c37 : Go.Code := Go.Ab.bodyOf Go.Proofs.Try.f37
noncomputable def q37_0 : Nat → (AV → List AObj → Prop) → AQ := fun (n : Nat) (Post : AV → List AObj → Prop) => endQ Try.prog (resultsOf Try.f37) Post
noncomputable def q37_1 : Nat → (AV → List AObj → Prop) → AQ := fun (n : Nat) (Post : AV → List AObj → Prop) => seqQ (fun (s' : Slots) (H' : List AObj) => awp Try.prog g37 n (codeSnd (codeSnd (codeSnd c37))) s' H' (q37_0 n Post)) (q37_0 n Post)
noncomputable def q37_2 : Nat → (AV → List AObj → Prop) → AQ := fun (n : Nat) (Post : AV → List AObj → Prop) => blockQ 0 (q37_1 n Post)
noncomputable def c37_4 : Go.Code := codeFst (codeSnd (codeFst (codeSnd (codeSnd c37))))
theorem s37 : ∀ (l : List T.Ent) (Post : AV → List AObj → Prop),
  condP (decide ((↑(List.length l) : Int) > (30 : Int))) (Post (AV.bool true) [])
      (AWP Try.prog 29 0 c37_4 [(0, AV.sl 2 (Seq.map T.encEn ([], []) l) Tip.none), (3, AV.int IntKind.i64 (0 : Int))] [] (q37_2 0 Post)) →
    ASpec Try.prog 37 [AV.sl 2 (Seq.map T.encEn ([], []) l) Tip.none] [] Post := fun l Post h => Go.Ab.ASpec.of_vc g37 Go.Proofs.Try.func37 (by kernel_rfl) (by kernel_rfl) (by kernel_rfl) (Go.Ab.kc (by kernel_rfl) h)
theorem v37_4 : ∀ (l : List T.Ent) (i : Int) (n : Nat) (Post : AV → List AObj → Prop),
  condP (decide (i < (↑(List.length l) : Int)))
      (needP ((0 : Int) ≤ i ∧ i < (↑(List.length l) : Int))
        (condP (decide ((↑(ByteArray.size { data := List.toArray (Prod.fst (List.getD l (Int.toNat i) ([], []))) }) : Int) > (200 : Int))) (Post (AV.bool true) [])
        (needP ((0 : Int) ≤ i ∧ i < (↑(List.length l) : Int))
        (condP (decide ((↑(List.length (Prod.snd (List.getD l (Int.toNat i) ([], [])))) : Int) > (9000 : Int))) (Post (AV.bool true) [])
        (AWP Try.prog 29 n c37_4 [(0, AV.sl 2 (Seq.map T.encEn ([], []) l) Tip.none), (3, AV.int IntKind.i64 (IntKind.wrap IntKind.i64 (i + (1 : Int))))] []
        (q37_2 n Post))))))
      (Post (AV.bool false) []) →
    AWP Try.prog 29 n c37_4 [(0, AV.sl 2 (Seq.map T.encEn ([], []) l) Tip.none), (3, AV.int IntKind.i64 i)] [] (q37_2 n Post) := fun l i n Post h => Go.Ab.AWP.loop' g37 (Cfg.live g37) c37_4 (by kernel_rfl) (by kernel_rfl) (Go.Ab.kc (by kernel_rfl) h)

-- 112
noncomputable def l112 : Nat → List Nat
  | _ => []
noncomputable def u112 : Nat → Bool
  | _ => false
noncomputable def m112 : Nat → Bool
  | _ => false
noncomputable def g112 : Cfg := { N := 4, live := l112, cut := u112, mu := m112, ret := rets }
theorem s112 : ∀ (Post : AV → List AObj → Prop), Post (AV.ptr 1 0) [AObj.mp MM.nil, AObj.cells [AV.map 0]] → ASpec Try.prog 112 [] [] Post := fun Post h => Go.Ab.ASpec.of_vc g112 Go.Proofs.Try.func112 (by kernel_rfl) (by kernel_rfl) (by kernel_rfl) (Go.Ab.kc (by kernel_rfl) h)

-- 120
noncomputable def l120 : Nat → List Nat
  | _ => []
noncomputable def u120 : Nat → Bool
  | _ => false
noncomputable def m120 : Nat → Bool
  | _ => false
noncomputable def g120 : Cfg := { N := 19, live := l120, cut := u120, mu := m120, ret := rets }
theorem s120 : ∀ (es : T.Kn) (s : ByteArray) (Post : AV → List AObj → Prop),
  optionP (findM es s)
      (fun (x : T.Known) =>
        optionP x (fun (x : T.Mani) => Post (AV.bool true) [AObj.mp (MM.typed T.EK es), AObj.cells [AV.map 0]])
        (Post (AV.bool true) [AObj.mp (MM.typed T.EK es), AObj.cells [AV.map 0]]))
      (Post (AV.bool false) [AObj.mp (MM.typed T.EK es), AObj.cells [AV.map 0]]) →
    ASpec Try.prog 120 [AV.ptr 1 0, AV.str s] (T.HX es) Post := fun es s Post h => Go.Ab.ASpec.of_vc g120 Go.Proofs.Try.func120 (by kernel_rfl) (by kernel_rfl) (by kernel_rfl) (Go.Ab.kc (by kernel_rfl) h)

-- 116
noncomputable def l116 : Nat → List Nat
  | _ => []
noncomputable def u116 : Nat → Bool
  | _ => false
noncomputable def m116 : Nat → Bool
  | _ => false
noncomputable def g116 : Cfg := { N := 35, live := l116, cut := u116, mu := m116, ret := rets }
theorem s116 : ∀ (es : T.Kn) (s : ByteArray) (Post : AV → List AObj → Prop),
  (ASpec Try.prog 120 [AV.ptr 1 0, AV.str s]
      [AObj.mp (MM.typed T.EK es), AObj.cells [AV.map 0], AObj.cells [AV.str { data := #[] }, AV.sl 0 (Seq.raw []) Tip.nil],
        AObj.cells [AV.str s, AV.sl 0 (Seq.raw []) Tip.nil]]
      fun (r : AV) (H' : List AObj) =>
      ∃ (x : Bool),
        r = AV.bool x ∧
        H' =
        [AObj.mp (MM.typed T.EK es), AObj.cells [AV.map 0], AObj.cells [AV.str { data := #[] }, AV.sl 0 (Seq.raw []) Tip.nil],
        AObj.cells [AV.str s, AV.sl 0 (Seq.raw []) Tip.nil]] ∧
        condP (!x)
        (Post (AV.tup [AV.agg [AV.str s, AV.sl 0 (Seq.raw []) Tip.nil], AV.bool false])
        [AObj.mp (MM.typed T.EK es), AObj.cells [AV.map 0], AObj.cells [AV.str s, AV.sl 0 (Seq.raw []) Tip.nil], AObj.cells [AV.str s, AV.sl 0 (Seq.raw []) Tip.nil]])
        (optionP (findM es s)
        (fun (x : T.Known) =>
        optionP x
        (fun (x : T.Mani) =>
        ASpec Try.prog 414 [AV.agg [AV.str { data := List.toArray (Prod.fst x) }, AV.sl 2 (Seq.map T.encR ((0 : Int), []) (Prod.snd x)) Tip.none]]
        [AObj.mp (MM.typed T.EK es), AObj.cells [AV.map 0], AObj.cells [AV.str { data := #[] }, AV.sl 0 (Seq.raw []) Tip.nil],
        AObj.cells [AV.str s, AV.sl 0 (Seq.raw []) Tip.nil]]
        fun (r : AV) (H' : List AObj) =>
        ∃ (x : Unit),
        r = AV.bool true ∧
        H' =
        [AObj.mp (MM.typed T.EK es), AObj.cells [AV.map 0], AObj.cells [AV.str { data := #[] }, AV.sl 0 (Seq.raw []) Tip.nil],
        AObj.cells [AV.str s, AV.sl 0 (Seq.raw []) Tip.nil]] ∧
        optionP (findM es s)
        (fun (x : T.Known) =>
        optionP x
        (fun (x : T.Mani) =>
        ASpec Try.prog 221 [AV.agg [AV.str { data := List.toArray (Prod.fst x) }, AV.sl 2 (Seq.map T.encR ((0 : Int), []) (Prod.snd x)) Tip.none]]
        [AObj.mp (MM.typed T.EK es), AObj.cells [AV.map 0], AObj.cells [AV.str { data := #[] }, AV.sl 0 (Seq.raw []) Tip.nil],
        AObj.cells [AV.str s, AV.sl 0 (Seq.raw []) Tip.nil],
        AObj.cells [AV.str { data := List.toArray (Prod.fst x) }, AV.sl 2 (Seq.map T.encR ((0 : Int), []) (Prod.snd x)) Tip.none]]
        fun (r : AV) (H' : List AObj) =>
        ∃ (x_1 : List UInt8 × List T.Rel),
        r = AV.agg [AV.str { data := List.toArray (Prod.fst x_1) }, AV.sl 2 (Seq.map T.encR ((0 : Int), []) (Prod.snd x_1)) Tip.none] ∧
        H' =
        [AObj.mp (MM.typed T.EK es), AObj.cells [AV.map 0], AObj.cells [AV.str { data := #[] }, AV.sl 0 (Seq.raw []) Tip.nil],
        AObj.cells [AV.str s, AV.sl 0 (Seq.raw []) Tip.nil],
        AObj.cells [AV.str { data := List.toArray (Prod.fst x) }, AV.sl 2 (Seq.map T.encR ((0 : Int), []) (Prod.snd x)) Tip.none]] ∧
        Post
        (AV.tup
        [AV.agg [AV.str { data := List.toArray (Prod.fst x_1) }, AV.sl 2 (Seq.map T.encR ((0 : Int), []) (Prod.snd x_1)) Tip.none], AV.bool true])
        [AObj.mp (MM.typed T.EK es), AObj.cells [AV.map 0],
        AObj.cells [AV.str { data := List.toArray (Prod.fst x_1) }, AV.sl 2 (Seq.map T.encR ((0 : Int), []) (Prod.snd x_1)) Tip.none],
        AObj.cells [AV.str s, AV.sl 0 (Seq.raw []) Tip.nil],
        AObj.cells [AV.str { data := List.toArray (Prod.fst x) }, AV.sl 2 (Seq.map T.encR ((0 : Int), []) (Prod.snd x)) Tip.none]])
        False)
        False)
        (ASpec Try.prog 419 [AV.agg []]
        [AObj.mp (MM.typed T.EK es), AObj.cells [AV.map 0], AObj.cells [AV.str { data := #[] }, AV.sl 0 (Seq.raw []) Tip.nil],
        AObj.cells [AV.str s, AV.sl 0 (Seq.raw []) Tip.nil]]
        fun (r : AV) (H' : List AObj) =>
        ∃ (x : Unit),
        r = AV.bool false ∧
        H' =
        [AObj.mp (MM.typed T.EK es), AObj.cells [AV.map 0], AObj.cells [AV.str { data := #[] }, AV.sl 0 (Seq.raw []) Tip.nil],
        AObj.cells [AV.str s, AV.sl 0 (Seq.raw []) Tip.nil]] ∧
        Post (AV.tup [AV.agg [AV.str s, AV.sl 0 (Seq.raw []) Tip.nil], AV.bool false])
        [AObj.mp (MM.typed T.EK es), AObj.cells [AV.map 0], AObj.cells [AV.str s, AV.sl 0 (Seq.raw []) Tip.nil],
        AObj.cells [AV.str s, AV.sl 0 (Seq.raw []) Tip.nil]]))
        False)) →
    ASpec Try.prog 116 [AV.ptr 1 0, AV.str s] (T.HX es) Post := fun es s Post h => Go.Ab.ASpec.of_vc g116 Go.Proofs.Try.func116 (by kernel_rfl) (by kernel_rfl) (by kernel_rfl) (Go.Ab.kc (by kernel_rfl) h)

-- 121
noncomputable def l121 : Nat → List Nat
  | _ => []
noncomputable def u121 : Nat → Bool
  | _ => false
noncomputable def m121 : Nat → Bool
  | _ => false
noncomputable def g121 : Cfg := { N := 10, live := l121, cut := u121, mu := m121, ret := rets }
theorem s121 : ∀ (es : T.Kn) (Post : AV → List AObj → Prop),
  Post (AV.int IntKind.i64 (↑(MM.len (MM.typed T.EK es)) : Int)) [AObj.mp (MM.typed T.EK es), AObj.cells [AV.map 0]] → ASpec Try.prog 121 [AV.ptr 1 0] (T.HX es) Post := fun es Post h => Go.Ab.ASpec.of_vc g121 Go.Proofs.Try.func121 (by kernel_rfl) (by kernel_rfl) (by kernel_rfl) (Go.Ab.kc (by kernel_rfl) h)

-- 113
noncomputable def l113 : Nat → List Nat
  | _ => []
noncomputable def u113 : Nat → Bool
  | _ => false
noncomputable def m113 : Nat → Bool
  | _ => false
noncomputable def g113 : Cfg := { N := 32, live := l113, cut := u113, mu := m113, ret := rets }
theorem s113 : ∀ (es : T.Kn) (s : ByteArray) (bs : List UInt8) (Post : AV → List AObj → Prop),
  (ASpec Try.prog 154 [AV.str s] [AObj.mp (MM.typed T.EK es), AObj.cells [AV.map 0]] fun (r : AV) (H' : List AObj) =>
      ∃ (x : Bool),
        r = AV.bool x ∧
        H' = [AObj.mp (MM.typed T.EK es), AObj.cells [AV.map 0]] ∧
        condP (!x) (Post (AV.int IntKind.i64 (1 : Int)) [AObj.mp (MM.typed T.EK es), AObj.cells [AV.map 0]])
        (condP (decide ((↑(List.length bs) : Int) > (8192 : Int))) (Post (AV.int IntKind.i64 (1 : Int)) [AObj.mp (MM.typed T.EK es), AObj.cells [AV.map 0]])
        (ASpec Try.prog 120 [AV.ptr 1 0, AV.str s] [AObj.mp (MM.typed T.EK es), AObj.cells [AV.map 0]] fun (r : AV) (H' : List AObj) =>
        ∃ (x : Bool),
        r = AV.bool x ∧
        H' = [AObj.mp (MM.typed T.EK es), AObj.cells [AV.map 0]] ∧
        condP x (Post (AV.int IntKind.i64 (6 : Int)) [AObj.mp (MM.typed T.EK es), AObj.cells [AV.map 0]])
        (ASpec Try.prog 218 [AV.str s, AV.sl 1 (Seq.map encB (0 : UInt8) bs) Tip.none] [AObj.mp (MM.typed T.EK es), AObj.cells [AV.map 0]]
        fun (r : AV) (H' : List AObj) =>
        (∃ (x : List UInt8 × List T.Rel),
        r = AV.iface (276 : TypeId) (AV.agg [AV.str { data := List.toArray (Prod.fst x) }, AV.sl 2 (Seq.map T.encR ((0 : Int), []) (Prod.snd x)) Tip.none]) ∧
        H' = [AObj.mp (MM.typed T.EK es), AObj.cells [AV.map 0]] ∧
        (AV.map 0 = AV.map 0 ∧ [AObj.mp (MM.typed T.EK es), AObj.cells [AV.map 0]] = [AObj.mp (MM.typed T.EK es), AObj.cells [AV.map 0]]) ∧
        Post (AV.int IntKind.i64 (0 : Int))
        [AObj.mp
        (MM.put (MM.typed T.EK es) s
        (AV.iface (276 : TypeId)
        (AV.agg [AV.str { data := List.toArray (Prod.fst x) }, AV.sl 2 (Seq.map T.encR ((0 : Int), []) (Prod.snd x)) Tip.none]))),
        AObj.cells [AV.map 0]]) ∨
        ∃ (x : Unit),
        r = AV.iface (365 : TypeId) (AV.agg []) ∧
        H' = [AObj.mp (MM.typed T.EK es), AObj.cells [AV.map 0]] ∧
        (AV.map 0 = AV.map 0 ∧ [AObj.mp (MM.typed T.EK es), AObj.cells [AV.map 0]] = [AObj.mp (MM.typed T.EK es), AObj.cells [AV.map 0]]) ∧
        Post (AV.int IntKind.i64 (0 : Int)) [AObj.mp (MM.put (MM.typed T.EK es) s (AV.iface (365 : TypeId) (AV.agg []))), AObj.cells [AV.map 0]])))) →
    ASpec Try.prog 113 [AV.ptr 1 0, AV.str s, AV.sl 1 (Seq.map encB (0 : UInt8) bs) Tip.none] (T.HX es) Post := fun es s bs Post h => Go.Ab.ASpec.of_vc g113 Go.Proofs.Try.func113 (by kernel_rfl) (by kernel_rfl) (by kernel_rfl) (Go.Ab.kc (by kernel_rfl) h)

-- 414
noncomputable def l414 : Nat → List Nat
  | _ => []
noncomputable def u414 : Nat → Bool
  | _ => false
noncomputable def m414 : Nat → Bool
  | _ => false
noncomputable def g414 : Cfg := { N := 3, live := l414, cut := u414, mu := m414, ret := rets }
theorem s414 : ∀ (m : T.Mani) (Post : AV → List AObj → Prop),
  Post (AV.bool true) [AObj.cells [AV.str { data := List.toArray (Prod.fst m) }, AV.sl 2 (Seq.map T.encR ((0 : Int), []) (Prod.snd m)) Tip.none]] →
    ASpec Try.prog 414 [AV.agg (T.encM m)] [] Post := fun m Post h => Go.Ab.ASpec.of_vc g414 Go.Proofs.Try.func414 (by kernel_rfl) (by kernel_rfl) (by kernel_rfl) (Go.Ab.kc (by kernel_rfl) h)

-- 419
noncomputable def l419 : Nat → List Nat
  | _ => []
noncomputable def u419 : Nat → Bool
  | _ => false
noncomputable def m419 : Nat → Bool
  | _ => false
noncomputable def g419 : Cfg := { N := 3, live := l419, cut := u419, mu := m419, ret := rets }
theorem s419 : ∀ (Post : AV → List AObj → Prop), Post (AV.bool false) [AObj.cells []] → ASpec Try.prog 419 [AV.agg []] [] Post := fun Post h => Go.Ab.ASpec.of_vc g419 Go.Proofs.Try.func419 (by kernel_rfl) (by kernel_rfl) (by kernel_rfl) (Go.Ab.kc (by kernel_rfl) h)

-- 218
noncomputable def l218 : Nat → List Nat
  | _ => []
noncomputable def u218 : Nat → Bool
  | _ => false
noncomputable def m218 : Nat → Bool
  | _ => false
noncomputable def g218 : Cfg := { N := 25, live := l218, cut := u218, mu := m218, ret := rets }
theorem s218 : ∀ (s : ByteArray) (bs : List UInt8) (Post : AV → List AObj → Prop),
  (ASpec Try.prog 181 [AV.sl 1 (Seq.map encB (0 : UInt8) bs) Tip.none] [] fun (r : AV) (H' : List AObj) =>
      ∃ (x : T.Mani × Int),
        r =
        AV.tup
        [AV.agg [AV.str { data := List.toArray (Prod.fst (Prod.fst x)) }, AV.sl 2 (Seq.map T.encR ((0 : Int), []) (Prod.snd (Prod.fst x))) Tip.none], AV.int IntKind.i64 (Prod.snd x)] ∧
        H' = [] ∧
        condP (Prod.snd x != (0 : Int))
        (Post (AV.iface 365 (AV.agg []))
        [AObj.cells [AV.str { data := List.toArray (Prod.fst (Prod.fst x)) }, AV.sl 2 (Seq.map T.encR ((0 : Int), []) (Prod.snd (Prod.fst x))) Tip.none]])
        (condP (!ByteArray.toList { data := List.toArray (Prod.fst (Prod.fst x)) } == ByteArray.toList s)
        (Post (AV.iface 365 (AV.agg []))
        [AObj.cells [AV.str { data := List.toArray (Prod.fst (Prod.fst x)) }, AV.sl 2 (Seq.map T.encR ((0 : Int), []) (Prod.snd (Prod.fst x))) Tip.none]])
        (Post (AV.iface 276 (AV.agg [AV.str { data := List.toArray (Prod.fst (Prod.fst x)) }, AV.sl 2 (Seq.map T.encR ((0 : Int), []) (Prod.snd (Prod.fst x))) Tip.none]))
        [AObj.cells [AV.str { data := List.toArray (Prod.fst (Prod.fst x)) }, AV.sl 2 (Seq.map T.encR ((0 : Int), []) (Prod.snd (Prod.fst x))) Tip.none]]))) →
    ASpec Try.prog 218 [AV.str s, AV.sl 1 (Seq.map encB (0 : UInt8) bs) Tip.none] [] Post := fun s bs Post h => Go.Ab.ASpec.of_vc g218 Go.Proofs.Try.func218 (by kernel_rfl) (by kernel_rfl) (by kernel_rfl) (Go.Ab.kc (by kernel_rfl) h)

-- 255
noncomputable def l255 : Nat → List Nat
  | _ => []
noncomputable def u255 : Nat → Bool
  | _ => false
noncomputable def m255 : Nat → Bool
  | _ => false
noncomputable def g255 : Cfg := { N := 8, live := l255, cut := u255, mu := m255, ret := rets }
theorem s255 : ∀ (l : List T.Span) (Post : AV → List AObj → Prop),
  (∀ (b : Bool),
      (b = true → Seq.toList (Seq.map T.encS ((0 : Int), (0 : Int)) l) = []) →
        condP b (Post (AV.sl 0 (Seq.raw []) Tip.nil) [])
        (needP (∀ (x : T.Span), List.all (T.encS x) oneAV = true)
        (needP ((0 + List.length l) * 16 ≤ 140737488351232)
        (Post (AV.sl 2 (Seq.app (Seq.raw []) (Seq.map T.encS ((0 : Int), (0 : Int)) l)) (Tip.tok 0)) [AObj.tok])))) →
    ASpec Try.prog 255 [AV.sl 2 (Seq.map T.encS ((0 : Int), (0 : Int)) l) Tip.none] [] Post := fun l Post h => Go.Ab.ASpec.of_vc g255 Go.Proofs.Try.func255 (by kernel_rfl) (by kernel_rfl) (by kernel_rfl) (Go.Ab.kc (by kernel_rfl) h)

-- 305
noncomputable def l305 : Nat → List Nat
  | 3 => [2, 3, 10, 11, 12]
  | _ => []
noncomputable def u305 : Nat → Bool
  | _ => false
noncomputable def m305 : Nat → Bool
  | _ => false
noncomputable def g305 : Cfg := { N := 29, live := l305, cut := u305, mu := m305, ret := rets }
noncomputable def c305 : Go.Code := Go.Ab.bodyOf Go.Proofs.Try.f305
noncomputable def q305_0 : Nat → (AV → List AObj → Prop) → AQ := fun (n : Nat) (Post : AV → List AObj → Prop) => endQ Try.prog (resultsOf Try.f305) Post
noncomputable def q305_1 : Nat → (AV → List AObj → Prop) → AQ := fun (n : Nat) (Post : AV → List AObj → Prop) => seqQ (fun (s' : Slots) (H' : List AObj) => awp Try.prog g305 n (codeSnd (codeSnd (codeSnd c305))) s' H' (q305_0 n Post)) (q305_0 n Post)
noncomputable def q305_2 : Nat → (AV → List AObj → Prop) → AQ := fun (n : Nat) (Post : AV → List AObj → Prop) => blockQ 0 (q305_1 n Post)
noncomputable def c305_3 : Go.Code := codeFst (codeSnd (codeFst (codeSnd (codeSnd c305))))
theorem s305 : ∀ (r : T.Rel) (Post : AV → List AObj → Prop),
  AWP Try.prog 29 0 c305_3
      [(2, AV.ptr 1 0), (3, AV.ptr 2 0), (10, AV.sl 2 (Seq.map T.encN ([], []) (Prod.snd r)) Tip.none),
        (11, AV.int IntKind.i64 (↑(List.length (Prod.snd r)) : Int)), (12, AV.int IntKind.i64 (0 : Int))]
      [AObj.cells [AV.int IntKind.i64 (Prod.fst r), AV.sl 2 (Seq.map T.encN ([], []) (Prod.snd r)) Tip.none], AObj.cells [AV.int IntKind.i64 (0 : Int), AV.sl 0 (Seq.raw []) Tip.nil],
        AObj.cells [AV.int IntKind.i64 (Prod.fst r), AV.sl 0 (Seq.raw []) Tip.nil]]
      (q305_2 0 Post) →
    ASpec Try.prog 305 [AV.agg (T.encR r)] [] Post := fun r Post h => Go.Ab.ASpec.of_vc g305 Go.Proofs.Try.func305 (by kernel_rfl) (by kernel_rfl) (by kernel_rfl) (Go.Ab.kc (by kernel_rfl) h)
theorem v305_3 : ∀ (v : Int) (acc l : List T.Need) (n i : Int) (n_1 : Nat) (Post : AV → List AObj → Prop),
  condP (decide (i < n))
      (needP ((0 : Int) ≤ i ∧ i < (↑(List.length l) : Int))
        (ASpec Try.prog 255 [AV.sl 2 (Seq.map T.encS ((0 : Int), (0 : Int)) (Prod.snd (List.getD l (Int.toNat i) ([], [])))) Tip.none]
        [AObj.cells [AV.int IntKind.i64 (0 : Int), AV.sl 0 (Seq.raw []) Tip.nil], AObj.cells [AV.int IntKind.i64 v, AV.sl 2 (Seq.map T.encN ([], []) acc) (Tip.tok 2)],
        AObj.tok,
        AObj.cells
        [AV.str { data := List.toArray (Prod.fst (List.getD l (Int.toNat i) ([], []))) },
        AV.sl 2 (Seq.map T.encS ((0 : Int), (0 : Int)) (Prod.snd (List.getD l (Int.toNat i) ([], [])))) Tip.none]]
        fun (r : AV) (H' : List AObj) =>
        ∃ (x : List T.Span),
        r = AV.sl 2 (Seq.map T.encS ((0 : Int), (0 : Int)) x) Tip.none ∧
        H' =
        [AObj.cells [AV.int IntKind.i64 (0 : Int), AV.sl 0 (Seq.raw []) Tip.nil],
        AObj.cells [AV.int IntKind.i64 v, AV.sl 2 (Seq.map T.encN ([], []) acc) (Tip.tok 2)], AObj.tok,
        AObj.cells
        [AV.str { data := List.toArray (Prod.fst (List.getD l (Int.toNat i) ([], []))) },
        AV.sl 2 (Seq.map T.encS ((0 : Int), (0 : Int)) (Prod.snd (List.getD l (Int.toNat i) ([], [])))) Tip.none]] ∧
        (AV.str { data := List.toArray (Prod.fst (List.getD l (Int.toNat i) ([], []))) } = AV.str { data := List.toArray (Prod.fst (List.getD l (Int.toNat i) ([], []))) } ∧
        [AObj.cells [AV.int IntKind.i64 (0 : Int), AV.sl 0 (Seq.raw []) Tip.nil],
        AObj.cells [AV.int IntKind.i64 v, AV.sl 2 (Seq.map T.encN ([], []) acc) (Tip.tok 2)], AObj.tok,
        AObj.cells
        [AV.str { data := List.toArray (Prod.fst (List.getD l (Int.toNat i) ([], []))) },
        AV.sl 2 (Seq.map T.encS ((0 : Int), (0 : Int)) (Prod.snd (List.getD l (Int.toNat i) ([], [])))) Tip.none]] =
        [AObj.cells [AV.int IntKind.i64 (0 : Int), AV.sl 0 (Seq.raw []) Tip.nil],
        AObj.cells [AV.int IntKind.i64 v, AV.sl 2 (Seq.map T.encN ([], []) acc) (Tip.tok 2)], AObj.tok,
        AObj.cells
        [AV.str { data := List.toArray (Prod.fst (List.getD l (Int.toNat i) ([], []))) },
        AV.sl 2 (Seq.map T.encS ((0 : Int), (0 : Int)) (Prod.snd (List.getD l (Int.toNat i) ([], [])))) Tip.none]]) ∧
        (AV.sl 2 (Seq.map T.encN ([], []) acc) (Tip.tok 2) = AV.sl 2 (Seq.map T.encN ([], []) acc) (Tip.tok 2) ∧
        [AObj.cells [AV.int IntKind.i64 (0 : Int), AV.sl 0 (Seq.raw []) Tip.nil],
        AObj.cells [AV.int IntKind.i64 v, AV.sl 2 (Seq.map T.encN ([], []) acc) (Tip.tok 2)], AObj.tok,
        AObj.cells
        [AV.str { data := List.toArray (Prod.fst (List.getD l (Int.toNat i) ([], []))) },
        AV.sl 2 (Seq.map T.encS ((0 : Int), (0 : Int)) (Prod.snd (List.getD l (Int.toNat i) ([], [])))) Tip.none]] =
        [AObj.cells [AV.int IntKind.i64 (0 : Int), AV.sl 0 (Seq.raw []) Tip.nil],
        AObj.cells [AV.int IntKind.i64 v, AV.sl 2 (Seq.map T.encN ([], []) acc) (Tip.tok 2)], AObj.tok,
        AObj.cells
        [AV.str { data := List.toArray (Prod.fst (List.getD l (Int.toNat i) ([], []))) },
        AV.sl 2 (Seq.map T.encS ((0 : Int), (0 : Int)) (Prod.snd (List.getD l (Int.toNat i) ([], [])))) Tip.none]]) ∧
        needP ((List.length acc + 1) * 40 ≤ 140737488351232)
        (AWP Try.prog 29 n_1 c305_3
        [(2, AV.ptr 0 0), (3, AV.ptr 1 0), (10, AV.sl 2 (Seq.map T.encN ([], []) l) Tip.none),
        (11, AV.int IntKind.i64 n), (12, AV.int IntKind.i64 (IntKind.wrap IntKind.i64 (i + (1 : Int))))]
        [AObj.cells [AV.int IntKind.i64 (0 : Int), AV.sl 0 (Seq.raw []) Tip.nil],
        AObj.cells
        [AV.int IntKind.i64 v,
        AV.sl 2
        (Seq.app (Seq.map T.encN ([], []) acc)
        (Seq.raw [[AV.str { data := List.toArray (Prod.fst (List.getD l (Int.toNat i) ([], []))) }, AV.sl 2 (Seq.map T.encS ((0 : Int), (0 : Int)) x) Tip.none]]))
        (Tip.tok 4)],
        AObj.gone,
        AObj.cells
        [AV.str { data := List.toArray (Prod.fst (List.getD l (Int.toNat i) ([], []))) },
        AV.sl 2 (Seq.map T.encS ((0 : Int), (0 : Int)) (Prod.snd (List.getD l (Int.toNat i) ([], [])))) Tip.none],
        AObj.tok]
        (q305_2 n_1 Post))))
      (Post (AV.agg [AV.int IntKind.i64 v, AV.sl 2 (Seq.map T.encN ([], []) acc) (Tip.tok 2)])
        [AObj.cells [AV.int IntKind.i64 v, AV.sl 2 (Seq.map T.encN ([], []) acc) (Tip.tok 2)],
        AObj.cells [AV.int IntKind.i64 v, AV.sl 2 (Seq.map T.encN ([], []) acc) (Tip.tok 2)], AObj.tok]) →
    AWP Try.prog 29 n_1 c305_3
      [(2, AV.ptr 0 0), (3, AV.ptr 1 0), (10, AV.sl 2 (Seq.map T.encN ([], []) l) Tip.none), (11, AV.int IntKind.i64 n),
        (12, AV.int IntKind.i64 i)]
      [AObj.cells [AV.int IntKind.i64 (0 : Int), AV.sl 0 (Seq.raw []) Tip.nil], AObj.cells [AV.int IntKind.i64 v, AV.sl 2 (Seq.map T.encN ([], []) acc) (Tip.tok 2)], AObj.tok]
      (q305_2 n_1 Post) := fun v acc l n i n Post h => Go.Ab.AWP.loop' g305 (Cfg.live g305) c305_3 (by kernel_rfl) (by kernel_rfl) (Go.Ab.kc (by kernel_rfl) h)

-- 221
noncomputable def l221 : Nat → List Nat
  | 3 => [2, 3, 10, 11, 12]
  | _ => []
noncomputable def u221 : Nat → Bool
  | _ => false
noncomputable def m221 : Nat → Bool
  | _ => false
noncomputable def g221 : Cfg := { N := 25, live := l221, cut := u221, mu := m221, ret := rets }
noncomputable def c221 : Go.Code := Go.Ab.bodyOf Go.Proofs.Try.f221
noncomputable def q221_0 : Nat → (AV → List AObj → Prop) → AQ := fun (n : Nat) (Post : AV → List AObj → Prop) => endQ Try.prog (resultsOf Try.f221) Post
noncomputable def q221_1 : Nat → (AV → List AObj → Prop) → AQ := fun (n : Nat) (Post : AV → List AObj → Prop) => seqQ (fun (s' : Slots) (H' : List AObj) => awp Try.prog g221 n (codeSnd (codeSnd (codeSnd c221))) s' H' (q221_0 n Post)) (q221_0 n Post)
noncomputable def q221_2 : Nat → (AV → List AObj → Prop) → AQ := fun (n : Nat) (Post : AV → List AObj → Prop) => blockQ 0 (q221_1 n Post)
noncomputable def c221_3 : Go.Code := codeFst (codeSnd (codeFst (codeSnd (codeSnd c221))))
theorem s221 : ∀ (m : T.Mani) (Post : AV → List AObj → Prop),
  AWP Try.prog 25 0 c221_3
      [(2, AV.ptr 1 0), (3, AV.ptr 2 0), (10, AV.sl 2 (Seq.map T.encR ((0 : Int), []) (Prod.snd m)) Tip.none),
        (11, AV.int IntKind.i64 (↑(List.length (Prod.snd m)) : Int)), (12, AV.int IntKind.i64 (0 : Int))]
      [AObj.cells [AV.str { data := List.toArray (Prod.fst m) }, AV.sl 2 (Seq.map T.encR ((0 : Int), []) (Prod.snd m)) Tip.none],
        AObj.cells [AV.str { data := #[] }, AV.sl 0 (Seq.raw []) Tip.nil], AObj.cells [AV.str { data := List.toArray (Prod.fst m) }, AV.sl 0 (Seq.raw []) Tip.nil]]
      (q221_2 0 Post) →
    ASpec Try.prog 221 [AV.agg (T.encM m)] [] Post := fun m Post h => Go.Ab.ASpec.of_vc g221 Go.Proofs.Try.func221 (by kernel_rfl) (by kernel_rfl) (by kernel_rfl) (Go.Ab.kc (by kernel_rfl) h)
theorem v221_3 : ∀ (s : ByteArray) (acc l : List T.Rel) (n i : Int) (n_1 : Nat) (Post : AV → List AObj → Prop),
  condP (decide (i < n))
      (needP ((0 : Int) ≤ i ∧ i < (↑(List.length l) : Int))
        (ASpec Try.prog 305
        [AV.agg
        [AV.int IntKind.i64 (Prod.fst (List.getD l (Int.toNat i) ((0 : Int), []))), AV.sl 2 (Seq.map T.encN ([], []) (Prod.snd (List.getD l (Int.toNat i) ((0 : Int), [])))) Tip.none]]
        [AObj.cells [AV.str { data := #[] }, AV.sl 0 (Seq.raw []) Tip.nil], AObj.cells [AV.str s, AV.sl 2 (Seq.map T.encR ((0 : Int), []) acc) (Tip.tok 2)], AObj.tok,
        AObj.cells
        [AV.int IntKind.i64 (Prod.fst (List.getD l (Int.toNat i) ((0 : Int), []))), AV.sl 2 (Seq.map T.encN ([], []) (Prod.snd (List.getD l (Int.toNat i) ((0 : Int), [])))) Tip.none]]
        fun (r : AV) (H' : List AObj) =>
        ∃ (x : Int × List T.Need),
        r = AV.agg [AV.int IntKind.i64 (Prod.fst x), AV.sl 2 (Seq.map T.encN ([], []) (Prod.snd x)) Tip.none] ∧
        H' =
        [AObj.cells [AV.str { data := #[] }, AV.sl 0 (Seq.raw []) Tip.nil], AObj.cells [AV.str s, AV.sl 2 (Seq.map T.encR ((0 : Int), []) acc) (Tip.tok 2)], AObj.tok,
        AObj.cells
        [AV.int IntKind.i64 (Prod.fst (List.getD l (Int.toNat i) ((0 : Int), []))),
        AV.sl 2 (Seq.map T.encN ([], []) (Prod.snd (List.getD l (Int.toNat i) ((0 : Int), [])))) Tip.none]] ∧
        (AV.sl 2 (Seq.map T.encR ((0 : Int), []) acc) (Tip.tok 2) = AV.sl 2 (Seq.map T.encR ((0 : Int), []) acc) (Tip.tok 2) ∧
        [AObj.cells [AV.str { data := #[] }, AV.sl 0 (Seq.raw []) Tip.nil], AObj.cells [AV.str s, AV.sl 2 (Seq.map T.encR ((0 : Int), []) acc) (Tip.tok 2)],
        AObj.tok,
        AObj.cells
        [AV.int IntKind.i64 (Prod.fst (List.getD l (Int.toNat i) ((0 : Int), []))),
        AV.sl 2 (Seq.map T.encN ([], []) (Prod.snd (List.getD l (Int.toNat i) ((0 : Int), [])))) Tip.none]] =
        [AObj.cells [AV.str { data := #[] }, AV.sl 0 (Seq.raw []) Tip.nil], AObj.cells [AV.str s, AV.sl 2 (Seq.map T.encR ((0 : Int), []) acc) (Tip.tok 2)],
        AObj.tok,
        AObj.cells
        [AV.int IntKind.i64 (Prod.fst (List.getD l (Int.toNat i) ((0 : Int), []))),
        AV.sl 2 (Seq.map T.encN ([], []) (Prod.snd (List.getD l (Int.toNat i) ((0 : Int), [])))) Tip.none]]) ∧
        needP ((List.length acc + 1) * 32 ≤ 140737488351232)
        (AWP Try.prog 25 n_1 c221_3
        [(2, AV.ptr 0 0), (3, AV.ptr 1 0), (10, AV.sl 2 (Seq.map T.encR ((0 : Int), []) l) Tip.none),
        (11, AV.int IntKind.i64 n), (12, AV.int IntKind.i64 (IntKind.wrap IntKind.i64 (i + (1 : Int))))]
        [AObj.cells [AV.str { data := #[] }, AV.sl 0 (Seq.raw []) Tip.nil],
        AObj.cells
        [AV.str s,
        AV.sl 2
        (Seq.app (Seq.map T.encR ((0 : Int), []) acc) (Seq.raw [[AV.int IntKind.i64 (Prod.fst x), AV.sl 2 (Seq.map T.encN ([], []) (Prod.snd x)) Tip.none]]))
        (Tip.tok 4)],
        AObj.gone,
        AObj.cells
        [AV.int IntKind.i64 (Prod.fst (List.getD l (Int.toNat i) ((0 : Int), []))),
        AV.sl 2 (Seq.map T.encN ([], []) (Prod.snd (List.getD l (Int.toNat i) ((0 : Int), [])))) Tip.none],
        AObj.tok]
        (q221_2 n_1 Post))))
      (Post (AV.agg [AV.str s, AV.sl 2 (Seq.map T.encR ((0 : Int), []) acc) (Tip.tok 2)])
        [AObj.cells [AV.str s, AV.sl 2 (Seq.map T.encR ((0 : Int), []) acc) (Tip.tok 2)],
        AObj.cells [AV.str s, AV.sl 2 (Seq.map T.encR ((0 : Int), []) acc) (Tip.tok 2)], AObj.tok]) →
    AWP Try.prog 25 n_1 c221_3
      [(2, AV.ptr 0 0), (3, AV.ptr 1 0), (10, AV.sl 2 (Seq.map T.encR ((0 : Int), []) l) Tip.none), (11, AV.int IntKind.i64 n),
        (12, AV.int IntKind.i64 i)]
      [AObj.cells [AV.str { data := #[] }, AV.sl 0 (Seq.raw []) Tip.nil], AObj.cells [AV.str s, AV.sl 2 (Seq.map T.encR ((0 : Int), []) acc) (Tip.tok 2)], AObj.tok]
      (q221_2 n_1 Post) := fun s acc l n i n Post h => Go.Ab.AWP.loop' g221 (Cfg.live g221) c221_3 (by kernel_rfl) (by kernel_rfl) (Go.Ab.kc (by kernel_rfl) h)

-- 111
noncomputable def l111 : Nat → List Nat
  | _ => []
noncomputable def u111 : Nat → Bool
  | _ => false
noncomputable def m111 : Nat → Bool
  | _ => false
noncomputable def g111 : Cfg := { N := 28, live := l111, cut := u111, mu := m111, ret := rets }
theorem s111 : ∀ (Post : AV → List AObj → Prop),
  (ASpec Try.prog 112 [] [] fun (r : AV) (H' : List AObj) =>
      ∃ (x : Unit),
        r = AV.ptr 1 0 ∧
        H' = [AObj.mp (MM.typed T.EK []), AObj.cells [AV.map 0]] ∧
        ASpec Try.prog 113 [AV.ptr 1 0, AV.str { data := #[(97 : UInt8)] }, AV.sl 0 (Seq.raw []) Tip.nil]
        [AObj.mp (MM.typed T.EK []), AObj.cells [AV.map 0]] fun (r : AV) (H' : List AObj) =>
        ∃ (x : Int × T.Kn),
        r = AV.int IntKind.i64 (Prod.fst x) ∧
        H' = [AObj.mp (MM.typed T.EK (Prod.snd x)), AObj.cells [AV.map 0]] ∧
        ASpec Try.prog 116 [AV.ptr 1 0, AV.str { data := #[(97 : UInt8)] }] [AObj.mp (MM.typed T.EK (Prod.snd x)), AObj.cells [AV.map 0]]
        fun (r : AV) (H' : List AObj) =>
        ∃ (x_1 : T.Mani × Bool),
        r =
        AV.tup
        [AV.agg [AV.str { data := List.toArray (Prod.fst (Prod.fst x_1)) }, AV.sl 2 (Seq.map T.encR ((0 : Int), []) (Prod.snd (Prod.fst x_1))) Tip.none],
        AV.bool (Prod.snd x_1)] ∧
        H' = [AObj.mp (MM.typed T.EK (Prod.snd x)), AObj.cells [AV.map 0]] ∧
        condP (Prod.fst x == (0 : Int))
        (condP (!Prod.snd x_1)
        (ASpec Try.prog 120 [AV.ptr 1 0, AV.str { data := #[(97 : UInt8)] }]
        [AObj.mp (MM.typed T.EK (Prod.snd x)), AObj.cells [AV.map 0],
        AObj.cells [AV.str { data := List.toArray (Prod.fst (Prod.fst x_1)) }, AV.sl 2 (Seq.map T.encR ((0 : Int), []) (Prod.snd (Prod.fst x_1))) Tip.none]]
        fun (r : AV) (H' : List AObj) =>
        ∃ (x_2 : Bool),
        r = AV.bool x_2 ∧
        H' =
        [AObj.mp (MM.typed T.EK (Prod.snd x)), AObj.cells [AV.map 0],
        AObj.cells
        [AV.str { data := List.toArray (Prod.fst (Prod.fst x_1)) }, AV.sl 2 (Seq.map T.encR ((0 : Int), []) (Prod.snd (Prod.fst x_1))) Tip.none]] ∧
        condP x_2
        (ASpec Try.prog 113 [AV.ptr 1 0, AV.str { data := #[(97 : UInt8)] }, AV.sl 0 (Seq.raw []) Tip.nil]
        [AObj.mp (MM.typed T.EK (Prod.snd x)), AObj.cells [AV.map 0],
        AObj.cells
        [AV.str { data := List.toArray (Prod.fst (Prod.fst x_1)) }, AV.sl 2 (Seq.map T.encR ((0 : Int), []) (Prod.snd (Prod.fst x_1))) Tip.none]]
        fun (r : AV) (H' : List AObj) =>
        ∃ (x : Int × T.Kn),
        r = AV.int IntKind.i64 (Prod.fst x) ∧
        H' =
        [AObj.mp (MM.typed T.EK (Prod.snd x)), AObj.cells [AV.map 0],
        AObj.cells
        [AV.str { data := List.toArray (Prod.fst (Prod.fst x_1)) },
        AV.sl 2 (Seq.map T.encR ((0 : Int), []) (Prod.snd (Prod.fst x_1))) Tip.none]] ∧
        Post (AV.bool (Prod.fst x == (6 : Int)))
        [AObj.mp (MM.typed T.EK (Prod.snd x)), AObj.cells [AV.map 0],
        AObj.cells
        [AV.str { data := List.toArray (Prod.fst (Prod.fst x_1)) },
        AV.sl 2 (Seq.map T.encR ((0 : Int), []) (Prod.snd (Prod.fst x_1))) Tip.none]])
        (Post (AV.bool false)
        [AObj.mp (MM.typed T.EK (Prod.snd x)), AObj.cells [AV.map 0],
        AObj.cells
        [AV.str { data := List.toArray (Prod.fst (Prod.fst x_1)) }, AV.sl 2 (Seq.map T.encR ((0 : Int), []) (Prod.snd (Prod.fst x_1))) Tip.none]]))
        (Post (AV.bool false)
        [AObj.mp (MM.typed T.EK (Prod.snd x)), AObj.cells [AV.map 0],
        AObj.cells [AV.str { data := List.toArray (Prod.fst (Prod.fst x_1)) }, AV.sl 2 (Seq.map T.encR ((0 : Int), []) (Prod.snd (Prod.fst x_1))) Tip.none]]))
        (Post (AV.bool false)
        [AObj.mp (MM.typed T.EK (Prod.snd x)), AObj.cells [AV.map 0],
        AObj.cells [AV.str { data := List.toArray (Prod.fst (Prod.fst x_1)) }, AV.sl 2 (Seq.map T.encR ((0 : Int), []) (Prod.snd (Prod.fst x_1))) Tip.none]])) →
    ASpec Try.prog 111 [] [] Post := fun Post h => Go.Ab.ASpec.of_vc g111 Go.Proofs.Try.func111 (by kernel_rfl) (by kernel_rfl) (by kernel_rfl) (Go.Ab.kc (by kernel_rfl) h)

end
end X
end

section
/- Names as cells. -/

open Go Go.Ab Go.Proofs
namespace T
noncomputable def encL (x : List UInt8) : List AV := [.str ⟨x.toArray⟩]
end T
end

section
/- Printed: what the code of functions 58, 38, 37, 183, 278, 279, 61, 166, 59, 64, 47, 182, 60, 65, 63, 67, 68, 69, 57, 7, 8 asks for, by the framework's own reading of it; each line is checked against the code. -/

set_option linter.unusedVariables false
set_option maxRecDepth 100000
set_option maxHeartbeats 4000000
open Go Go.Ab Go.Proofs
namespace Dp
noncomputable section

noncomputable def retD : List (Nat × Ret) := [
  (58, ⟨Bool, fun _ _ x => .bool x, fun _ H _ => H⟩),
  (38, ⟨Bool, fun _ _ x => .bool x, fun _ H _ => H⟩),
  (183, ⟨Int × Bool, fun _ _ x => .tup [.int .i64 x.1, .bool x.2], fun _ H _ => H⟩),
  (278, ⟨Int × Bool, fun _ _ x => .tup [.int .i64 x.1, .bool x.2], fun _ H _ => H⟩),
  (279, ⟨Int, fun _ _ x => .int .i64 x, fun _ H _ => H⟩),
  (280, ⟨Int, fun _ _ x => .int .i64 x, fun _ H _ => H⟩),
  (61, ⟨List UInt8, fun _ _ x => .sl 1 (.map encB 0 x) .none, fun _ H _ => H⟩),
  (166, ⟨List UInt8, fun _ _ x => .sl 1 (.map encB 0 x) .none, fun _ H _ => H⟩),
  (59, ⟨T.Mani × Bool, fun _ _ x => .tup [.agg (T.encM x.1), .bool x.2], fun _ H _ => H⟩),
  (182, ⟨T.Mani × Bool, fun _ _ x => .tup [.agg (T.encM x.1), .bool x.2], fun _ H _ => H⟩),
  (60, ⟨T.Mani × Bool, fun _ _ x => .tup [.agg (T.encM x.1), .bool x.2], fun _ H _ => H⟩),
  (64, ⟨List (List UInt8), fun _ _ x => .sl 1 (.map T.encL [] x) .none, fun _ H _ => H⟩),
  (65, ⟨List (List UInt8), fun _ _ x => .sl 1 (.map T.encL [] x) .none, fun _ H _ => H⟩),
  (63, ⟨Bool, fun _ _ x => .bool x, fun _ H _ => H⟩),
  (67, ⟨List T.Ent × Bool, fun _ _ x => .tup [.sl 2 (.map T.encEn ([], []) x.1) .none, .bool x.2], fun _ H _ => H⟩),
  (68, ⟨List T.Ent × Bool, fun _ _ x => .tup [.sl 2 (.map T.encEn ([], []) x.1) .none, .bool x.2], fun _ H _ => H⟩),
  (69, ⟨Bool, fun _ _ x => .bool x, fun _ H _ => H⟩),
  (37, ⟨Bool, fun _ _ x => .bool x, fun _ H _ => H⟩),
  (47, ⟨ByteArray, fun _ _ x => .str x, fun _ H _ => H⟩),
  (57, ⟨Unit, fun _ _ _ => .bool true, fun _ H _ => H⟩)]
noncomputable def rets : FuncId → List Ret := lookupR (retD ++ W.retW ++ C.retC ++ V.retL)

-- 58
noncomputable def u58 : Nat → Bool
  | _ => false
noncomputable def l37 : Nat → List Nat
  | 4 => [0, 3]
  | _ => []
noncomputable def l182 : Nat → List Nat
  | _ => []
noncomputable def u182 : Nat → Bool
  | _ => false
noncomputable def m182 : Nat → Bool
  | _ => false
noncomputable def g182 : Cfg := { N := 24, live := l182, cut := u182, mu := m182, ret := rets }
theorem s182 : ∀ (s b : List UInt8) (Post : AV → List AObj → Prop),
  (ASpec Try.prog 277 [AV.str { data := List.toArray b }] [AObj.cells [AV.str { data := #[] }, AV.sl 0 (Seq.raw []) Tip.nil]] fun (r : AV) (H' : List AObj) =>
      ∃ (x : T.Mani × Int),
        r =
        AV.tup
        [AV.agg [AV.str { data := List.toArray (Prod.fst (Prod.fst x)) }, AV.sl 2 (Seq.map T.encR ((0 : Int), []) (Prod.snd (Prod.fst x))) Tip.none], AV.int IntKind.i64 (Prod.snd x)] ∧
        H' = [AObj.cells [AV.str { data := #[] }, AV.sl 0 (Seq.raw []) Tip.nil]] ∧
        condP (Prod.snd x != (0 : Int))
        (Post (AV.tup [AV.agg [AV.str { data := List.toArray s }, AV.sl 0 (Seq.raw []) Tip.nil], AV.bool false])
        [AObj.cells [AV.str { data := List.toArray s }, AV.sl 0 (Seq.raw []) Tip.nil],
        AObj.cells [AV.str { data := List.toArray (Prod.fst (Prod.fst x)) }, AV.sl 2 (Seq.map T.encR ((0 : Int), []) (Prod.snd (Prod.fst x))) Tip.none]])
        (condP (!ByteArray.toList { data := List.toArray (Prod.fst (Prod.fst x)) } == ByteArray.toList { data := List.toArray s })
        (Post (AV.tup [AV.agg [AV.str { data := List.toArray s }, AV.sl 0 (Seq.raw []) Tip.nil], AV.bool false])
        [AObj.cells [AV.str { data := List.toArray s }, AV.sl 0 (Seq.raw []) Tip.nil],
        AObj.cells [AV.str { data := List.toArray (Prod.fst (Prod.fst x)) }, AV.sl 2 (Seq.map T.encR ((0 : Int), []) (Prod.snd (Prod.fst x))) Tip.none]])
        (Post (AV.tup [AV.agg [AV.str { data := List.toArray (Prod.fst (Prod.fst x)) }, AV.sl 2 (Seq.map T.encR ((0 : Int), []) (Prod.snd (Prod.fst x))) Tip.none], AV.bool true])
        [AObj.cells [AV.str { data := List.toArray (Prod.fst (Prod.fst x)) }, AV.sl 2 (Seq.map T.encR ((0 : Int), []) (Prod.snd (Prod.fst x))) Tip.none],
        AObj.cells [AV.str { data := List.toArray (Prod.fst (Prod.fst x)) }, AV.sl 2 (Seq.map T.encR ((0 : Int), []) (Prod.snd (Prod.fst x))) Tip.none]]))) →
    ASpec Try.prog 182 [AV.str { data := List.toArray s }, AV.str { data := List.toArray b }] [] Post := fun s b Post h => Go.Ab.ASpec.of_vc g182 Go.Proofs.Try.func182 (by kernel_rfl) (by kernel_rfl) (by kernel_rfl) (Go.Ab.kc (by kernel_rfl) h)

-- 60
noncomputable def l63 : Nat → List Nat
  | 4 => [0, 1, 5]
  | _ => []
noncomputable def u63 : Nat → Bool
  | _ => false
noncomputable def m63 : Nat → Bool
  | _ => false
noncomputable def g63 : Cfg := { N := 26, live := l63, cut := u63, mu := m63, ret := rets }
noncomputable def c63 : Go.Code := Go.Ab.bodyOf Go.Proofs.Try.f63
noncomputable def q63_0 : Nat → (AV → List AObj → Prop) → AQ := fun (n : Nat) (Post : AV → List AObj → Prop) => endQ Try.prog (resultsOf Try.f63) Post
noncomputable def q63_1 : Nat → (AV → List AObj → Prop) → AQ := fun (n : Nat) (Post : AV → List AObj → Prop) => seqQ (fun (s' : Slots) (H' : List AObj) => awp Try.prog g63 n (codeSnd (codeSnd (codeSnd c63))) s' H' (q63_0 n Post)) (q63_0 n Post)
noncomputable def q63_2 : Nat → (AV → List AObj → Prop) → AQ := fun (n : Nat) (Post : AV → List AObj → Prop) => blockQ 0 (q63_1 n Post)
noncomputable def c63_4 : Go.Code := codeFst (codeSnd (codeFst (codeSnd (codeSnd c63))))
theorem s63 : ∀ (a b : List (List UInt8)) (Post : AV → List AObj → Prop),
  condP ((↑(List.length a) : Int) != (↑(List.length b) : Int)) (Post (AV.bool false) [])
      (AWP Try.prog 26 0 c63_4
        [(0, AV.sl 1 (Seq.map T.encL [] a) Tip.none), (1, AV.sl 1 (Seq.map T.encL [] b) Tip.none), (5, AV.int IntKind.i64 (0 : Int))] []
        (q63_2 0 Post)) →
    ASpec Try.prog 63 [AV.sl 1 (Seq.map T.encL [] a) Tip.none, AV.sl 1 (Seq.map T.encL [] b) Tip.none] [] Post := fun a b Post h => Go.Ab.ASpec.of_vc g63 Go.Proofs.Try.func63 (by kernel_rfl) (by kernel_rfl) (by kernel_rfl) (Go.Ab.kc (by kernel_rfl) h)
theorem v63_4 : ∀ (a b : List (List UInt8)) (i : Int) (n : Nat) (Post : AV → List AObj → Prop),
  condP (decide (i < (↑(List.length a) : Int)))
      (needP ((0 : Int) ≤ i ∧ i < (↑(List.length a) : Int))
        (needP ((0 : Int) ≤ i ∧ i < (↑(List.length b) : Int))
        (condP (!ByteArray.toList { data := List.toArray (List.getD a (Int.toNat i) []) } == ByteArray.toList { data := List.toArray (List.getD b (Int.toNat i) []) }) (Post (AV.bool false) [])
        (AWP Try.prog 26 n c63_4
        [(0, AV.sl 1 (Seq.map T.encL [] a) Tip.none), (1, AV.sl 1 (Seq.map T.encL [] b) Tip.none),
        (5, AV.int IntKind.i64 (IntKind.wrap IntKind.i64 (i + (1 : Int))))]
        [] (q63_2 n Post)))))
      (Post (AV.bool true) []) →
    AWP Try.prog 26 n c63_4 [(0, AV.sl 1 (Seq.map T.encL [] a) Tip.none), (1, AV.sl 1 (Seq.map T.encL [] b) Tip.none), (5, AV.int IntKind.i64 i)] []
      (q63_2 n Post) := fun a b i n Post h => Go.Ab.AWP.loop' g63 (Cfg.live g63) c63_4 (by kernel_rfl) (by kernel_rfl) (Go.Ab.kc (by kernel_rfl) h)

-- 67
end
end Dp
end

section
/- What the document's index knows, as cells. -/

open Go Go.Ab Go.Proofs
namespace T
/-- a manifest, and whether it is good -/
abbrev Kd := Mani × Bool
abbrev noKd : Kd := (([], []), false)
noncomputable def encKd (x : Kd) : List AV := [.str ⟨x.1.1.toArray⟩, .sl 2 (.map T.encR (0, []) x.1.2) .none, .bool x.2]
noncomputable def encXd (l : List Kd) : List AV := [.sl 3 (.map encKd noKd l) .none]
end T
end

section
/- Printed: what the code of functions 303, 219, 306, 223, 222, 114, 118, 119, 220, 115 asks for, by the framework's own reading of it; each line is checked against the code. -/

set_option linter.unusedVariables false
set_option maxRecDepth 100000
set_option maxHeartbeats 4000000
open Go Go.Ab Go.Proofs
namespace Xd
noncomputable section

noncomputable def addP (args : List AV) (H : List AObj) (o : AObj) : List AObj := match args with
  | .ptr id _ :: _ => H.set id o
  | _ => H
noncomputable def retXd : List (Nat × Ret) := [
  (303, ⟨Int, fun _ _ x => .int .i64 x, fun _ H _ => H⟩), (219, ⟨Bool, fun _ _ x => .bool x, fun _ H _ => H⟩), (306, ⟨T.Mani × Bool, fun _ _ x => .tup [.agg (T.encM x.1), .bool x.2], fun _ H _ => H⟩), (222, ⟨List (List UInt8), fun _ _ x => .sl 1 (.map T.encL [] x) .none, fun _ H _ => H⟩), (223, ⟨Bool, fun _ _ x => .bool x, fun _ H _ => H⟩), (62, ⟨Bool, fun _ _ x => .bool x, fun _ H _ => H⟩),
  (114, ⟨Int × List T.Kd, fun _ _ x => .int .i64 x.1, fun a H x => addP a H (.cells (T.encXd x.2))⟩),
  (118, ⟨List T.Kd, fun _ _ x => .agg (T.encXd x), fun _ H _ => H⟩),
  (119, ⟨T.Kn, fun _ H _ => .ptr (H.length + 1) 0, fun _ H x => H ++ [.mp (.typed T.EK x), .cells [.map H.length]]⟩),
  (220, ⟨T.Kn, fun _ H _ => .map H.length, fun _ H x => H ++ [.mp (.typed T.EK x)]⟩),
  (115, ⟨T.Kn, fun _ H _ => .ptr (H.length + 1) 0, fun _ H x => H ++ [.mp (.typed T.EK x), .cells [.map H.length]]⟩),
  (115, ⟨Unit, fun _ _ _ => .nilp, fun _ H _ => H⟩)]
noncomputable def rets : FuncId → List Ret := fun f => match lookupR retXd f with
  | [] => match X.rets f with
    | [] => Dp.rets f
    | l => l
  | l => l

-- 303
noncomputable def l303 : Nat → List Nat
  | 2 => [1, 2, 5]
  | _ => []
noncomputable def u303 : Nat → Bool
  | _ => false
noncomputable def m303 : Nat → Bool
  | _ => false
noncomputable def g303 : Cfg := { N := 23, live := l303, cut := u303, mu := m303, ret := rets }
noncomputable def c303 : Go.Code := Go.Ab.bodyOf Go.Proofs.Try.f303
noncomputable def q303_0 : Nat → (AV → List AObj → Prop) → AQ := fun (n : Nat) (Post : AV → List AObj → Prop) => endQ Try.prog (resultsOf Try.f303) Post
noncomputable def q303_1 : Nat → (AV → List AObj → Prop) → AQ := fun (n : Nat) (Post : AV → List AObj → Prop) => seqQ (fun (s' : Slots) (H' : List AObj) => awp Try.prog g303 n (codeSnd (codeSnd c303)) s' H' (q303_0 n Post)) (q303_0 n Post)
noncomputable def q303_2 : Nat → (AV → List AObj → Prop) → AQ := fun (n : Nat) (Post : AV → List AObj → Prop) => blockQ 0 (q303_1 n Post)
noncomputable def c303_2 : Go.Code := codeFst (codeSnd (codeFst (codeSnd c303)))
theorem s303 : ∀ (l : List T.Kd) (s : List UInt8) (Post : AV → List AObj → Prop),
  AWP Try.prog 23 0 c303_2 [(1, AV.str { data := List.toArray s }), (2, AV.ptr 0 0), (5, AV.int IntKind.i64 (0 : Int))]
      [AObj.cells [AV.sl 3 (Seq.map T.encKd T.noKd l) Tip.none]] (q303_2 0 Post) →
    ASpec Try.prog 303 [AV.agg (T.encXd l), AV.str { data := List.toArray s }] [] Post := fun l s Post h => Go.Ab.ASpec.of_vc g303 Go.Proofs.Try.func303 (by kernel_rfl) (by kernel_rfl) (by kernel_rfl) (Go.Ab.kc (by kernel_rfl) h)
theorem v303_2 : ∀ (l : List T.Kd) (s : List UInt8) (i : Int) (n : Nat) (Post : AV → List AObj → Prop),
  condP (decide (i < (↑(List.length l) : Int)))
      (needP ((0 : Int) ≤ i ∧ i < (↑(List.length l) : Int))
        (condP (ByteArray.toList { data := List.toArray (Prod.fst (Prod.fst (List.getD l (Int.toNat i) T.noKd))) } == ByteArray.toList { data := List.toArray s })
        (Post (AV.int IntKind.i64 i) [AObj.cells [AV.sl 3 (Seq.map T.encKd T.noKd l) Tip.none]])
        (AWP Try.prog 23 n c303_2
        [(1, AV.str { data := List.toArray s }), (2, AV.ptr 0 0), (5, AV.int IntKind.i64 (IntKind.wrap IntKind.i64 (i + (1 : Int))))]
        [AObj.cells [AV.sl 3 (Seq.map T.encKd T.noKd l) Tip.none]] (q303_2 n Post))))
      (Post (AV.int IntKind.i64 (-1 : Int)) [AObj.cells [AV.sl 3 (Seq.map T.encKd T.noKd l) Tip.none]]) →
    AWP Try.prog 23 n c303_2 [(1, AV.str { data := List.toArray s }), (2, AV.ptr 0 0), (5, AV.int IntKind.i64 i)] [AObj.cells (T.encXd l)]
      (q303_2 n Post) := fun l s i n Post h => Go.Ab.AWP.loop' g303 (Cfg.live g303) c303_2 (by kernel_rfl) (by kernel_rfl) (Go.Ab.kc (by kernel_rfl) h)

-- 219
noncomputable def l219 : Nat → List Nat
  | _ => []
noncomputable def u219 : Nat → Bool
  | _ => false
noncomputable def m219 : Nat → Bool
  | _ => false
noncomputable def g219 : Cfg := { N := 9, live := l219, cut := u219, mu := m219, ret := rets }
theorem s219 : ∀ (l : List T.Kd) (s : List UInt8) (Post : AV → List AObj → Prop),
  (ASpec Try.prog 303 [AV.agg [AV.sl 3 (Seq.map T.encKd T.noKd l) Tip.none], AV.str { data := List.toArray s }] [AObj.cells [AV.sl 3 (Seq.map T.encKd T.noKd l) Tip.none]]
      fun (r : AV) (H' : List AObj) =>
      ∃ (x : Int),
        r = AV.int IntKind.i64 x ∧
        H' = [AObj.cells [AV.sl 3 (Seq.map T.encKd T.noKd l) Tip.none]] ∧ Post (AV.bool (decide (x ≥ (0 : Int)))) [AObj.cells [AV.sl 3 (Seq.map T.encKd T.noKd l) Tip.none]]) →
    ASpec Try.prog 219 [AV.agg (T.encXd l), AV.str { data := List.toArray s }] [] Post := fun l s Post h => Go.Ab.ASpec.of_vc g219 Go.Proofs.Try.func219 (by kernel_rfl) (by kernel_rfl) (by kernel_rfl) (Go.Ab.kc (by kernel_rfl) h)

-- 306
noncomputable def l306 : Nat → List Nat
  | _ => []
noncomputable def u306 : Nat → Bool
  | _ => false
noncomputable def m306 : Nat → Bool
  | _ => false
noncomputable def g306 : Cfg := { N := 26, live := l306, cut := u306, mu := m306, ret := rets }
theorem s306 : ∀ (l : List T.Kd) (s : List UInt8) (Post : AV → List AObj → Prop),
  (ASpec Try.prog 303 [AV.agg [AV.sl 3 (Seq.map T.encKd T.noKd l) Tip.none], AV.str { data := List.toArray s }]
      [AObj.cells [AV.sl 3 (Seq.map T.encKd T.noKd l) Tip.none], AObj.cells [AV.str { data := #[] }, AV.sl 0 (Seq.raw []) Tip.nil]] fun (r : AV) (H' : List AObj) =>
      ∃ (x : Int),
        r = AV.int IntKind.i64 x ∧
        H' = [AObj.cells [AV.sl 3 (Seq.map T.encKd T.noKd l) Tip.none], AObj.cells [AV.str { data := #[] }, AV.sl 0 (Seq.raw []) Tip.nil]] ∧
        condP (decide (x < (0 : Int)))
        (Post (AV.tup [AV.agg [AV.str { data := List.toArray s }, AV.sl 0 (Seq.raw []) Tip.nil], AV.bool false])
        [AObj.cells [AV.sl 3 (Seq.map T.encKd T.noKd l) Tip.none], AObj.cells [AV.str { data := List.toArray s }, AV.sl 0 (Seq.raw []) Tip.nil]])
        (needP ((0 : Int) ≤ x ∧ x < (↑(List.length l) : Int))
        (needP ((0 : Int) ≤ x ∧ x < (↑(List.length l) : Int))
        ((AV.bool (Prod.snd (List.getD l (Int.toNat x) T.noKd)) = AV.bool (Prod.snd (List.getD l (Int.toNat x) T.noKd)) ∧
        [AObj.cells [AV.sl 3 (Seq.map T.encKd T.noKd l) Tip.none],
        AObj.cells
        [AV.str { data := List.toArray (Prod.fst (Prod.fst (List.getD l (Int.toNat x) T.noKd))) },
        AV.sl 2 (Seq.map T.encR ((0 : Int), []) (Prod.snd (Prod.fst (List.getD l (Int.toNat x) T.noKd)))) Tip.none]] =
        [AObj.cells [AV.sl 3 (Seq.map T.encKd T.noKd l) Tip.none],
        AObj.cells
        [AV.str { data := List.toArray (Prod.fst (Prod.fst (List.getD l (Int.toNat x) T.noKd))) },
        AV.sl 2 (Seq.map T.encR ((0 : Int), []) (Prod.snd (Prod.fst (List.getD l (Int.toNat x) T.noKd)))) Tip.none]]) ∧
        (AV.sl 3 (Seq.map T.encKd T.noKd l) Tip.none = AV.sl 3 (Seq.map T.encKd T.noKd l) Tip.none ∧
        [AObj.cells [AV.sl 3 (Seq.map T.encKd T.noKd l) Tip.none],
        AObj.cells
        [AV.str { data := List.toArray (Prod.fst (Prod.fst (List.getD l (Int.toNat x) T.noKd))) },
        AV.sl 2 (Seq.map T.encR ((0 : Int), []) (Prod.snd (Prod.fst (List.getD l (Int.toNat x) T.noKd)))) Tip.none]] =
        [AObj.cells [AV.sl 3 (Seq.map T.encKd T.noKd l) Tip.none],
        AObj.cells
        [AV.str { data := List.toArray (Prod.fst (Prod.fst (List.getD l (Int.toNat x) T.noKd))) },
        AV.sl 2 (Seq.map T.encR ((0 : Int), []) (Prod.snd (Prod.fst (List.getD l (Int.toNat x) T.noKd)))) Tip.none]]) ∧
        Post
        (AV.tup
        [AV.agg
        [AV.str { data := List.toArray (Prod.fst (Prod.fst (List.getD l (Int.toNat x) T.noKd))) },
        AV.sl 2 (Seq.map T.encR ((0 : Int), []) (Prod.snd (Prod.fst (List.getD l (Int.toNat x) T.noKd)))) Tip.none],
        AV.bool (Prod.snd (List.getD l (Int.toNat x) T.noKd))])
        [AObj.cells [AV.sl 3 (Seq.map T.encKd T.noKd l) Tip.none],
        AObj.cells
        [AV.str { data := List.toArray (Prod.fst (Prod.fst (List.getD l (Int.toNat x) T.noKd))) },
        AV.sl 2 (Seq.map T.encR ((0 : Int), []) (Prod.snd (Prod.fst (List.getD l (Int.toNat x) T.noKd)))) Tip.none]])))) →
    ASpec Try.prog 306 [AV.agg (T.encXd l), AV.str { data := List.toArray s }] [] Post := fun l s Post h => Go.Ab.ASpec.of_vc g306 Go.Proofs.Try.func306 (by kernel_rfl) (by kernel_rfl) (by kernel_rfl) (Go.Ab.kc (by kernel_rfl) h)

-- 223
noncomputable def l223 : Nat → List Nat
  | _ => []
noncomputable def u223 : Nat → Bool
  | _ => false
noncomputable def m223 : Nat → Bool
  | _ => false
noncomputable def g223 : Cfg := { N := 25, live := l223, cut := u223, mu := m223, ret := rets }
theorem s223 : ∀ (l : List T.Kd) (s : List UInt8) (m : T.Mani) (g : Bool) (Post : AV → List AObj → Prop),
  (ASpec Try.prog 306 [AV.agg [AV.sl 3 (Seq.map T.encKd T.noKd l) Tip.none], AV.str { data := List.toArray s }]
      [AObj.cells [AV.sl 3 (Seq.map T.encKd T.noKd l) Tip.none],
        AObj.cells [AV.str { data := List.toArray (Prod.fst m) }, AV.sl 2 (Seq.map T.encR ((0 : Int), []) (Prod.snd m)) Tip.none]]
      fun (r : AV) (H' : List AObj) =>
      ∃ (x : T.Mani × Bool),
        r = AV.tup [AV.agg [AV.str { data := List.toArray (Prod.fst (Prod.fst x)) }, AV.sl 2 (Seq.map T.encR ((0 : Int), []) (Prod.snd (Prod.fst x))) Tip.none], AV.bool (Prod.snd x)] ∧
        H' =
        [AObj.cells [AV.sl 3 (Seq.map T.encKd T.noKd l) Tip.none],
        AObj.cells [AV.str { data := List.toArray (Prod.fst m) }, AV.sl 2 (Seq.map T.encR ((0 : Int), []) (Prod.snd m)) Tip.none]] ∧
        ASpec Try.prog 62
        [AV.agg [AV.str { data := List.toArray (Prod.fst m) }, AV.sl 2 (Seq.map T.encR ((0 : Int), []) (Prod.snd m)) Tip.none],
        AV.agg [AV.str { data := List.toArray (Prod.fst (Prod.fst x)) }, AV.sl 2 (Seq.map T.encR ((0 : Int), []) (Prod.snd (Prod.fst x))) Tip.none]]
        [AObj.cells [AV.sl 3 (Seq.map T.encKd T.noKd l) Tip.none],
        AObj.cells [AV.str { data := List.toArray (Prod.fst m) }, AV.sl 2 (Seq.map T.encR ((0 : Int), []) (Prod.snd m)) Tip.none],
        AObj.cells [AV.str { data := List.toArray (Prod.fst (Prod.fst x)) }, AV.sl 2 (Seq.map T.encR ((0 : Int), []) (Prod.snd (Prod.fst x))) Tip.none]]
        fun (r : AV) (H' : List AObj) =>
        ∃ (x_1 : Bool),
        r = AV.bool x_1 ∧
        H' =
        [AObj.cells [AV.sl 3 (Seq.map T.encKd T.noKd l) Tip.none],
        AObj.cells [AV.str { data := List.toArray (Prod.fst m) }, AV.sl 2 (Seq.map T.encR ((0 : Int), []) (Prod.snd m)) Tip.none],
        AObj.cells [AV.str { data := List.toArray (Prod.fst (Prod.fst x)) }, AV.sl 2 (Seq.map T.encR ((0 : Int), []) (Prod.snd (Prod.fst x))) Tip.none]] ∧
        condP x_1
        (Post (AV.bool (g == Prod.snd x))
        [AObj.cells [AV.sl 3 (Seq.map T.encKd T.noKd l) Tip.none],
        AObj.cells [AV.str { data := List.toArray (Prod.fst m) }, AV.sl 2 (Seq.map T.encR ((0 : Int), []) (Prod.snd m)) Tip.none],
        AObj.cells [AV.str { data := List.toArray (Prod.fst (Prod.fst x)) }, AV.sl 2 (Seq.map T.encR ((0 : Int), []) (Prod.snd (Prod.fst x))) Tip.none]])
        (Post (AV.bool false)
        [AObj.cells [AV.sl 3 (Seq.map T.encKd T.noKd l) Tip.none],
        AObj.cells [AV.str { data := List.toArray (Prod.fst m) }, AV.sl 2 (Seq.map T.encR ((0 : Int), []) (Prod.snd m)) Tip.none],
        AObj.cells [AV.str { data := List.toArray (Prod.fst (Prod.fst x)) }, AV.sl 2 (Seq.map T.encR ((0 : Int), []) (Prod.snd (Prod.fst x))) Tip.none]])) →
    ASpec Try.prog 223 [AV.agg (T.encXd l), AV.str { data := List.toArray s }, AV.agg (T.encM m), AV.bool g] [] Post := fun l s m g Post h => Go.Ab.ASpec.of_vc g223 Go.Proofs.Try.func223 (by kernel_rfl) (by kernel_rfl) (by kernel_rfl) (Go.Ab.kc (by kernel_rfl) h)

-- 222
noncomputable def l222 : Nat → List Nat
  | 3 => [1, 3, 4]
  | _ => []
noncomputable def u222 : Nat → Bool
  | _ => false
noncomputable def m222 : Nat → Bool
  | _ => false
noncomputable def g222 : Cfg := { N := 23, live := l222, cut := u222, mu := m222, ret := rets }
noncomputable def c222 : Go.Code := Go.Ab.bodyOf Go.Proofs.Try.f222
noncomputable def q222_0 : Nat → (AV → List AObj → Prop) → AQ := fun (n : Nat) (Post : AV → List AObj → Prop) => endQ Try.prog (resultsOf Try.f222) Post
noncomputable def q222_1 : Nat → (AV → List AObj → Prop) → AQ := fun (n : Nat) (Post : AV → List AObj → Prop) => seqQ (fun (s' : Slots) (H' : List AObj) => awp Try.prog g222 n (codeSnd (codeSnd (codeSnd c222))) s' H' (q222_0 n Post)) (q222_0 n Post)
noncomputable def q222_2 : Nat → (AV → List AObj → Prop) → AQ := fun (n : Nat) (Post : AV → List AObj → Prop) => blockQ 0 (q222_1 n Post)
noncomputable def c222_3 : Go.Code := codeFst (codeSnd (codeFst (codeSnd (codeSnd c222))))
theorem s222 : ∀ (l : List T.Kd) (Post : AV → List AObj → Prop),
  AWP Try.prog 23 0 c222_3 [(1, AV.ptr 0 0), (3, AV.sl 0 (Seq.raw []) Tip.nil), (4, AV.int IntKind.i64 (0 : Int))]
      [AObj.cells [AV.sl 3 (Seq.map T.encKd T.noKd l) Tip.none]] (q222_2 0 Post) →
    ASpec Try.prog 222 [AV.agg (T.encXd l)] [] Post := fun l Post h => Go.Ab.ASpec.of_vc g222 Go.Proofs.Try.func222 (by kernel_rfl) (by kernel_rfl) (by kernel_rfl) (Go.Ab.kc (by kernel_rfl) h)
theorem v222_3 : ∀ (l : List T.Kd) (o : List (List UInt8)) (i : Int) (n : Nat) (Post : AV → List AObj → Prop),
  condP (decide (i < (↑(List.length l) : Int)))
      (needP ((0 : Int) ≤ i ∧ i < (↑(List.length l) : Int))
        (needP ((List.length o + 1) * 16 ≤ 140737488351232)
        (AWP Try.prog 23 n c222_3
        [(1, AV.ptr 0 0),
        (3, AV.sl 1 (Seq.app (Seq.map T.encL [] o) (Seq.raw [[AV.str { data := List.toArray (Prod.fst (Prod.fst (List.getD l (Int.toNat i) T.noKd))) }]])) (Tip.tok 2)),
        (4, AV.int IntKind.i64 (IntKind.wrap IntKind.i64 (i + (1 : Int))))]
        [AObj.cells [AV.sl 3 (Seq.map T.encKd T.noKd l) Tip.none], AObj.gone, AObj.tok] (q222_2 n Post))))
      (Post (AV.sl 1 (Seq.map T.encL [] o) (Tip.tok 1)) [AObj.cells [AV.sl 3 (Seq.map T.encKd T.noKd l) Tip.none], AObj.tok]) →
    AWP Try.prog 23 n c222_3 [(1, AV.ptr 0 0), (3, AV.sl 1 (Seq.map T.encL [] o) (Tip.tok 1)), (4, AV.int IntKind.i64 i)]
      [AObj.cells (T.encXd l), AObj.tok] (q222_2 n Post) := fun l o i n Post h => Go.Ab.AWP.loop' g222 (Cfg.live g222) c222_3 (by kernel_rfl) (by kernel_rfl) (Go.Ab.kc (by kernel_rfl) h)

-- 114
noncomputable def l114 : Nat → List Nat
  | 9 => [0, 1, 7, 8, 9, 10, 11]
  | 15 => [0, 7, 8, 9, 10]
  | _ => []
noncomputable def u114 : Nat → Bool
  | 15 => true
  | _ => false
noncomputable def m114 : Nat → Bool
  | _ => false
noncomputable def g114 : Cfg := { N := 83, live := l114, cut := u114, mu := m114, ret := rets }
noncomputable def c114 : Go.Code := Go.Ab.bodyOf Go.Proofs.Try.f114
noncomputable def q114_0 : Nat → (AV → List AObj → Prop) → AQ := fun (n : Nat) (Post : AV → List AObj → Prop) => endQ Try.prog (resultsOf Try.f114) Post
noncomputable def c114_15 : Go.Code := codeSnd (codeSnd (codeSnd (codeSnd (codeSnd (codeSnd (codeSnd c114))))))
noncomputable def q114_1 : Nat → (AV → List AObj → Prop) → AQ := fun (n : Nat) (Post : AV → List AObj → Prop) => seqQ (fun (s' : Slots) (H' : List AObj) => AWP Try.prog (Cfg.N g114) n c114_15 (restrict s' (Cfg.live g114 15)) H' (q114_0 n Post)) (q114_0 n Post)
noncomputable def q114_2 : Nat → (AV → List AObj → Prop) → AQ := fun (n : Nat) (Post : AV → List AObj → Prop) => blockQ 0 (q114_1 n Post)
noncomputable def c114_9 : Go.Code := codeFst (codeSnd (codeFst (codeSnd (codeSnd (codeSnd (codeSnd (codeSnd (codeSnd c114))))))))
theorem s114 : ∀ (l : List T.Kd) (s b : List UInt8) (Post : AV → List AObj → Prop),
  (ASpec Try.prog 39 [AV.str { data := List.toArray s }] [AObj.cells [AV.sl 3 (Seq.map T.encKd T.noKd l) Tip.none]] fun (r : AV) (H' : List AObj) =>
      ∃ (x : Bool),
        r = AV.bool x ∧
        H' = [AObj.cells [AV.sl 3 (Seq.map T.encKd T.noKd l) Tip.none]] ∧
        condP (!x) (Post (AV.int IntKind.i64 (1 : Int)) [AObj.cells [AV.sl 3 (Seq.map T.encKd T.noKd l) Tip.none]])
        (condP (decide ((↑(ByteArray.size { data := List.toArray b }) : Int) > (8192 : Int)))
        (Post (AV.int IntKind.i64 (1 : Int)) [AObj.cells [AV.sl 3 (Seq.map T.encKd T.noKd l) Tip.none]])
        (ASpec Try.prog 219 [AV.agg [AV.sl 3 (Seq.map T.encKd T.noKd l) Tip.none], AV.str { data := List.toArray s }]
        [AObj.cells [AV.sl 3 (Seq.map T.encKd T.noKd l) Tip.none]] fun (r : AV) (H' : List AObj) =>
        ∃ (x : Bool),
        r = AV.bool x ∧
        H' = [AObj.cells [AV.sl 3 (Seq.map T.encKd T.noKd l) Tip.none]] ∧
        condP x (Post (AV.int IntKind.i64 (6 : Int)) [AObj.cells [AV.sl 3 (Seq.map T.encKd T.noKd l) Tip.none]])
        (ASpec Try.prog 182 [AV.str { data := List.toArray s }, AV.str { data := List.toArray b }] [AObj.cells [AV.sl 3 (Seq.map T.encKd T.noKd l) Tip.none]]
        fun (r : AV) (H' : List AObj) =>
        ∃ (x : T.Mani × Bool),
        r =
        AV.tup
        [AV.agg [AV.str { data := List.toArray (Prod.fst (Prod.fst x)) }, AV.sl 2 (Seq.map T.encR ((0 : Int), []) (Prod.snd (Prod.fst x))) Tip.none],
        AV.bool (Prod.snd x)] ∧
        H' = [AObj.cells [AV.sl 3 (Seq.map T.encKd T.noKd l) Tip.none]] ∧
        AWP Try.prog 83 1 c114_9
        [(0, AV.ptr 0 0), (1, AV.str { data := List.toArray s }), (7, AV.ptr 1 0),
        (8, AV.bool (Prod.snd x)), (9, AV.sl 0 (Seq.raw []) Tip.nil), (10, AV.bool false), (11, AV.int IntKind.i64 (0 : Int))]
        [AObj.cells [AV.sl 3 (Seq.map T.encKd T.noKd l) Tip.none],
        AObj.cells [AV.str { data := List.toArray (Prod.fst (Prod.fst x)) }, AV.sl 2 (Seq.map T.encR ((0 : Int), []) (Prod.snd (Prod.fst x))) Tip.none]]
        (q114_2 1 Post))))) →
    ASpec Try.prog 114 [AV.ptr 0 0, AV.str { data := List.toArray s }, AV.str { data := List.toArray b }] [AObj.cells (T.encXd l)] Post := fun l s b Post h => Go.Ab.ASpec.of_vc g114 Go.Proofs.Try.func114 (by kernel_rfl) (by kernel_rfl) (by kernel_rfl) (Go.Ab.kc (by kernel_rfl) h)
theorem v114_9 : ∀ (l o : List T.Kd) (s : List UInt8) (m : T.Mani) (g b : Bool) (i : Int) (n : Nat) (Post : AV → List AObj → Prop),
  condP (decide (i < (↑(List.length l) : Int)))
      (condP (!b)
        (needP ((0 : Int) ≤ i ∧ i < (↑(List.length l) : Int))
        (condP (Op.bytesLess (ByteArray.toList { data := List.toArray s }) (ByteArray.toList { data := List.toArray (Prod.fst (Prod.fst (List.getD l (Int.toNat i) T.noKd))) }))
        (needP ((List.length o + 1) * 48 ≤ 140737488351232)
        (needP ((0 : Int) ≤ i ∧ i < (↑(List.length l) : Int))
        (needP ((List.length o + 1 + 1) * 48 ≤ 140737488351232)
        (AWP Try.prog 83 n c114_9
        [(0, AV.ptr 0 0), (1, AV.str { data := List.toArray s }), (7, AV.ptr 1 0), (8, AV.bool g),
        (9,
        AV.sl 3
        (Seq.app
        (Seq.app (Seq.map T.encKd T.noKd o)
        (Seq.raw [[AV.str { data := List.toArray (Prod.fst m) }, AV.sl 2 (Seq.map T.encR ((0 : Int), []) (Prod.snd m)) Tip.none, AV.bool g]]))
        (Seq.raw
        [[AV.str { data := List.toArray (Prod.fst (Prod.fst (List.getD l (Int.toNat i) T.noKd))) },
        AV.sl 2 (Seq.map T.encR ((0 : Int), []) (Prod.snd (Prod.fst (List.getD l (Int.toNat i) T.noKd)))) Tip.none,
        AV.bool (Prod.snd (List.getD l (Int.toNat i) T.noKd))]]))
        (Tip.tok 4)),
        (10, AV.bool true), (11, AV.int IntKind.i64 (IntKind.wrap IntKind.i64 (i + (1 : Int))))]
        [AObj.cells [AV.sl 3 (Seq.map T.encKd T.noKd l) Tip.none],
        AObj.cells [AV.str { data := List.toArray (Prod.fst m) }, AV.sl 2 (Seq.map T.encR ((0 : Int), []) (Prod.snd m)) Tip.none], AObj.gone, AObj.gone, AObj.tok]
        (q114_2 n Post)))))
        (needP ((0 : Int) ≤ i ∧ i < (↑(List.length l) : Int))
        (needP ((List.length o + 1) * 48 ≤ 140737488351232)
        (AWP Try.prog 83 n c114_9
        [(0, AV.ptr 0 0), (1, AV.str { data := List.toArray s }), (7, AV.ptr 1 0), (8, AV.bool g),
        (9,
        AV.sl 3
        (Seq.app (Seq.map T.encKd T.noKd o)
        (Seq.raw
        [[AV.str { data := List.toArray (Prod.fst (Prod.fst (List.getD l (Int.toNat i) T.noKd))) },
        AV.sl 2 (Seq.map T.encR ((0 : Int), []) (Prod.snd (Prod.fst (List.getD l (Int.toNat i) T.noKd)))) Tip.none,
        AV.bool (Prod.snd (List.getD l (Int.toNat i) T.noKd))]]))
        (Tip.tok 3)),
        (10, AV.bool b), (11, AV.int IntKind.i64 (IntKind.wrap IntKind.i64 (i + (1 : Int))))]
        [AObj.cells [AV.sl 3 (Seq.map T.encKd T.noKd l) Tip.none],
        AObj.cells [AV.str { data := List.toArray (Prod.fst m) }, AV.sl 2 (Seq.map T.encR ((0 : Int), []) (Prod.snd m)) Tip.none], AObj.gone, AObj.tok]
        (q114_2 n Post))))))
        (needP ((0 : Int) ≤ i ∧ i < (↑(List.length l) : Int))
        (needP ((List.length o + 1) * 48 ≤ 140737488351232)
        (AWP Try.prog 83 n c114_9
        [(0, AV.ptr 0 0), (1, AV.str { data := List.toArray s }), (7, AV.ptr 1 0), (8, AV.bool g),
        (9,
        AV.sl 3
        (Seq.app (Seq.map T.encKd T.noKd o)
        (Seq.raw
        [[AV.str { data := List.toArray (Prod.fst (Prod.fst (List.getD l (Int.toNat i) T.noKd))) },
        AV.sl 2 (Seq.map T.encR ((0 : Int), []) (Prod.snd (Prod.fst (List.getD l (Int.toNat i) T.noKd)))) Tip.none,
        AV.bool (Prod.snd (List.getD l (Int.toNat i) T.noKd))]]))
        (Tip.tok 3)),
        (10, AV.bool b), (11, AV.int IntKind.i64 (IntKind.wrap IntKind.i64 (i + (1 : Int))))]
        [AObj.cells [AV.sl 3 (Seq.map T.encKd T.noKd l) Tip.none],
        AObj.cells [AV.str { data := List.toArray (Prod.fst m) }, AV.sl 2 (Seq.map T.encR ((0 : Int), []) (Prod.snd m)) Tip.none], AObj.gone, AObj.tok]
        (q114_2 n Post)))))
      (AWP Try.prog 83 n c114_15
        [(0, AV.ptr 0 0), (7, AV.ptr 1 0), (8, AV.bool g), (9, AV.sl 3 (Seq.map T.encKd T.noKd o) (Tip.tok 2)),
        (10, AV.bool b)]
        [AObj.cells [AV.sl 3 (Seq.map T.encKd T.noKd l) Tip.none],
        AObj.cells [AV.str { data := List.toArray (Prod.fst m) }, AV.sl 2 (Seq.map T.encR ((0 : Int), []) (Prod.snd m)) Tip.none], AObj.tok]
        (q114_0 n Post)) →
    AWP Try.prog 83 n c114_9
      [(0, AV.ptr 0 0), (1, AV.str { data := List.toArray s }), (7, AV.ptr 1 0), (8, AV.bool g),
        (9, AV.sl 3 (Seq.map T.encKd T.noKd o) (Tip.tok 2)), (10, AV.bool b), (11, AV.int IntKind.i64 i)]
      [AObj.cells (T.encXd l), AObj.cells (T.encM m), AObj.tok] (q114_2 n Post) := fun l o s m g b i n Post h => Go.Ab.AWP.loop' g114 (Cfg.live g114) c114_9 (by kernel_rfl) (by kernel_rfl) (Go.Ab.kc (by kernel_rfl) h)
theorem v114_15 : ∀ (l o : List T.Kd) (m : T.Mani) (g b : Bool) (n : Nat) (Post : AV → List AObj → Prop),
  condP (!b)
      (needP ((List.length o + 1) * 48 ≤ 140737488351232)
        (Post (AV.int IntKind.i64 (0 : Int))
        [AObj.cells
        [AV.sl 3
        (Seq.app (Seq.map T.encKd T.noKd o) (Seq.raw [[AV.str { data := List.toArray (Prod.fst m) }, AV.sl 2 (Seq.map T.encR ((0 : Int), []) (Prod.snd m)) Tip.none, AV.bool g]]))
        (Tip.tok 3)],
        AObj.cells [AV.str { data := List.toArray (Prod.fst m) }, AV.sl 2 (Seq.map T.encR ((0 : Int), []) (Prod.snd m)) Tip.none], AObj.gone, AObj.tok]))
      (Post (AV.int IntKind.i64 (0 : Int))
        [AObj.cells [AV.sl 3 (Seq.map T.encKd T.noKd o) (Tip.tok 2)],
        AObj.cells [AV.str { data := List.toArray (Prod.fst m) }, AV.sl 2 (Seq.map T.encR ((0 : Int), []) (Prod.snd m)) Tip.none], AObj.tok]) →
    AWP Try.prog 83 n c114_15
      [(0, AV.ptr 0 0), (7, AV.ptr 1 0), (8, AV.bool g), (9, AV.sl 3 (Seq.map T.encKd T.noKd o) (Tip.tok 2)),
        (10, AV.bool b)]
      [AObj.cells (T.encXd l), AObj.cells (T.encM m), AObj.tok] (q114_0 n Post) := fun l o m g b n Post h => Go.Ab.awp_sound g114 n _ _ _ _ (Go.Ab.kc (by kernel_rfl) h)

-- 118
noncomputable def l118 : Nat → List Nat
  | 3 => [0, 2, 3, 4]
  | _ => []
noncomputable def u118 : Nat → Bool
  | _ => false
noncomputable def m118 : Nat → Bool
  | _ => false
noncomputable def g118 : Cfg := { N := 25, live := l118, cut := u118, mu := m118, ret := rets }
noncomputable def c118 : Go.Code := Go.Ab.bodyOf Go.Proofs.Try.f118
noncomputable def q118_0 : Nat → (AV → List AObj → Prop) → AQ := fun (n : Nat) (Post : AV → List AObj → Prop) => endQ Try.prog (resultsOf Try.f118) Post
noncomputable def q118_1 : Nat → (AV → List AObj → Prop) → AQ := fun (n : Nat) (Post : AV → List AObj → Prop) => seqQ (fun (s' : Slots) (H' : List AObj) => awp Try.prog g118 n (codeSnd (codeSnd (codeSnd c118))) s' H' (q118_0 n Post)) (q118_0 n Post)
noncomputable def q118_2 : Nat → (AV → List AObj → Prop) → AQ := fun (n : Nat) (Post : AV → List AObj → Prop) => blockQ 0 (q118_1 n Post)
noncomputable def c118_3 : Go.Code := codeFst (codeSnd (codeFst (codeSnd (codeSnd c118))))
theorem s118 : ∀ (e : List T.Ent) (Post : AV → List AObj → Prop),
  AWP Try.prog 25 0 c118_3
      [(0, AV.sl 2 (Seq.map T.encEn ([], []) e) Tip.none), (2, AV.ptr 0 0), (3, AV.ptr 1 0), (4, AV.int IntKind.i64 (0 : Int))]
      [AObj.cells [AV.sl 0 (Seq.raw []) Tip.nil], AObj.cells [AV.sl 0 (Seq.raw []) Tip.nil]] (q118_2 0 Post) →
    ASpec Try.prog 118 [AV.sl 2 (Seq.map T.encEn ([], []) e) Tip.none] [] Post := fun e Post h => Go.Ab.ASpec.of_vc g118 Go.Proofs.Try.func118 (by kernel_rfl) (by kernel_rfl) (by kernel_rfl) (Go.Ab.kc (by kernel_rfl) h)
theorem v118_3 : ∀ (e : List T.Ent) (l : List T.Kd) (i : Int) (n : Nat) (Post : AV → List AObj → Prop),
  condP (decide (i < (↑(List.length e) : Int)))
      (needP ((0 : Int) ≤ i ∧ i < (↑(List.length e) : Int))
        (needP ((0 : Int) ≤ i ∧ i < (↑(List.length e) : Int))
        (needP (allBytes (Seq.map encB (0 : UInt8) (Prod.snd (List.getD e (Int.toNat i) ([], [])))))
        (ASpec Try.prog 114
        [AV.ptr 1 0, AV.str { data := List.toArray (Prod.fst (List.getD e (Int.toNat i) ([], []))) },
        AV.str (bytesOf (Seq.map encB (0 : UInt8) (Prod.snd (List.getD e (Int.toNat i) ([], [])))))]
        [AObj.cells [AV.sl 0 (Seq.raw []) Tip.nil], AObj.cells [AV.sl 3 (Seq.map T.encKd T.noKd l) Tip.none]] fun (r : AV) (H' : List AObj) =>
        ∃ (x : Int × List T.Kd),
        r = AV.int IntKind.i64 (Prod.fst x) ∧
        H' = [AObj.cells [AV.sl 0 (Seq.raw []) Tip.nil], AObj.cells [AV.sl 3 (Seq.map T.encKd T.noKd (Prod.snd x)) Tip.none]] ∧
        AWP Try.prog 25 n c118_3
        [(0, AV.sl 2 (Seq.map T.encEn ([], []) e) Tip.none), (2, AV.ptr 0 0), (3, AV.ptr 1 0),
        (4, AV.int IntKind.i64 (IntKind.wrap IntKind.i64 (i + (1 : Int))))]
        [AObj.cells [AV.sl 0 (Seq.raw []) Tip.nil], AObj.cells [AV.sl 3 (Seq.map T.encKd T.noKd (Prod.snd x)) Tip.none]] (q118_2 n Post)))))
      (Post (AV.agg [AV.sl 3 (Seq.map T.encKd T.noKd l) Tip.none])
        [AObj.cells [AV.sl 3 (Seq.map T.encKd T.noKd l) Tip.none], AObj.cells [AV.sl 3 (Seq.map T.encKd T.noKd l) Tip.none]]) →
    AWP Try.prog 25 n c118_3
      [(0, AV.sl 2 (Seq.map T.encEn ([], []) e) Tip.none), (2, AV.ptr 0 0), (3, AV.ptr 1 0), (4, AV.int IntKind.i64 i)]
      [AObj.cells [AV.sl 0 (Seq.raw []) Tip.nil], AObj.cells (T.encXd l)] (q118_2 n Post) := fun e l i n Post h => Go.Ab.AWP.loop' g118 (Cfg.live g118) c118_3 (by kernel_rfl) (by kernel_rfl) (Go.Ab.kc (by kernel_rfl) h)

-- 119
noncomputable def l119 : Nat → List Nat
  | 3 => [3, 7, 8, 9]
  | _ => []
noncomputable def u119 : Nat → Bool
  | _ => false
noncomputable def m119 : Nat → Bool
  | _ => false
noncomputable def g119 : Cfg := { N := 21, live := l119, cut := u119, mu := m119, ret := rets }
noncomputable def c119 : Go.Code := Go.Ab.bodyOf Go.Proofs.Try.f119
noncomputable def q119_0 : Nat → (AV → List AObj → Prop) → AQ := fun (n : Nat) (Post : AV → List AObj → Prop) => endQ Try.prog (resultsOf Try.f119) Post
noncomputable def q119_1 : Nat → (AV → List AObj → Prop) → AQ := fun (n : Nat) (Post : AV → List AObj → Prop) => seqQ (fun (s' : Slots) (H' : List AObj) => awp Try.prog g119 n (codeSnd (codeSnd (codeSnd c119))) s' H' (q119_0 n Post)) (q119_0 n Post)
noncomputable def q119_2 : Nat → (AV → List AObj → Prop) → AQ := fun (n : Nat) (Post : AV → List AObj → Prop) => blockQ 0 (q119_1 n Post)
noncomputable def c119_3 : Go.Code := codeFst (codeSnd (codeFst (codeSnd (codeSnd c119))))
theorem s119 : ∀ (e : List T.Ent) (Post : AV → List AObj → Prop),
  (ASpec Try.prog 112 [] [] fun (r : AV) (H' : List AObj) =>
      ∃ (x : Unit),
        r = AV.ptr 1 0 ∧
        H' = [AObj.mp (MM.typed T.EK []), AObj.cells [AV.map 0]] ∧
        AWP Try.prog 21 0 c119_3
        [(3, AV.ptr 1 0), (7, AV.sl 2 (Seq.map T.encEn ([], []) e) Tip.none), (8, AV.int IntKind.i64 (↑(List.length e) : Int)),
        (9, AV.int IntKind.i64 (0 : Int))]
        [AObj.mp (MM.typed T.EK []), AObj.cells [AV.map 0]] (q119_2 0 Post)) →
    ASpec Try.prog 119 [AV.sl 2 (Seq.map T.encEn ([], []) e) Tip.none] [] Post := fun e Post h => Go.Ab.ASpec.of_vc g119 Go.Proofs.Try.func119 (by kernel_rfl) (by kernel_rfl) (by kernel_rfl) (Go.Ab.kc (by kernel_rfl) h)
theorem v119_3 : ∀ (e : List T.Ent) (es : T.Kn) (n i : Int) (n_1 : Nat) (Post : AV → List AObj → Prop),
  condP (decide (i < n))
      (needP ((0 : Int) ≤ i ∧ i < (↑(List.length e) : Int))
        (ASpec Try.prog 113
        [AV.ptr 1 0, AV.str { data := List.toArray (Prod.fst (List.getD e (Int.toNat i) ([], []))) },
        AV.sl 1 (Seq.map encB (0 : UInt8) (Prod.snd (List.getD e (Int.toNat i) ([], [])))) Tip.none]
        [AObj.mp (MM.typed T.EK es), AObj.cells [AV.map 0],
        AObj.cells
        [AV.str { data := List.toArray (Prod.fst (List.getD e (Int.toNat i) ([], []))) }, AV.sl 1 (Seq.map encB (0 : UInt8) (Prod.snd (List.getD e (Int.toNat i) ([], [])))) Tip.none]]
        fun (r : AV) (H' : List AObj) =>
        ∃ (x : Int × T.Kn),
        r = AV.int IntKind.i64 (Prod.fst x) ∧
        H' =
        [AObj.mp (MM.typed T.EK (Prod.snd x)), AObj.cells [AV.map 0],
        AObj.cells
        [AV.str { data := List.toArray (Prod.fst (List.getD e (Int.toNat i) ([], []))) },
        AV.sl 1 (Seq.map encB (0 : UInt8) (Prod.snd (List.getD e (Int.toNat i) ([], [])))) Tip.none]] ∧
        AWP Try.prog 21 n_1 c119_3
        [(3, AV.ptr 1 0), (7, AV.sl 2 (Seq.map T.encEn ([], []) e) Tip.none), (8, AV.int IntKind.i64 n),
        (9, AV.int IntKind.i64 (IntKind.wrap IntKind.i64 (i + (1 : Int))))]
        [AObj.mp (MM.typed T.EK (Prod.snd x)), AObj.cells [AV.map 0],
        AObj.cells
        [AV.str { data := List.toArray (Prod.fst (List.getD e (Int.toNat i) ([], []))) },
        AV.sl 1 (Seq.map encB (0 : UInt8) (Prod.snd (List.getD e (Int.toNat i) ([], [])))) Tip.none]]
        (q119_2 n_1 Post)))
      (Post (AV.ptr 1 0) [AObj.mp (MM.typed T.EK es), AObj.cells [AV.map 0]]) →
    AWP Try.prog 21 n_1 c119_3
      [(3, AV.ptr 1 0), (7, AV.sl 2 (Seq.map T.encEn ([], []) e) Tip.none), (8, AV.int IntKind.i64 n), (9, AV.int IntKind.i64 i)] (T.HX es)
      (q119_2 n_1 Post) := fun e es n i n Post h => Go.Ab.AWP.loop' g119 (Cfg.live g119) c119_3 (by kernel_rfl) (by kernel_rfl) (Go.Ab.kc (by kernel_rfl) h)

-- 220
noncomputable def l220 : Nat → List Nat
  | _ => []
noncomputable def u220 : Nat → Bool
  | _ => false
noncomputable def m220 : Nat → Bool
  | _ => false
noncomputable def g220 : Cfg := { N := 9, live := l220, cut := u220, mu := m220, ret := rets }
theorem s220 : ∀ (es : T.Kn) (Post : AV → List AObj → Prop),
  needP (cloneFn Try.prog 304) (Post (AV.map 1) [AObj.mp (MM.typed T.EK es), AObj.mp (MM.typed T.EK es)]) →
    ASpec Try.prog 220 [AV.map 0] [AObj.mp (MM.typed T.EK es)] Post := fun es Post h => Go.Ab.ASpec.of_vc g220 Go.Proofs.Try.func220 (by kernel_rfl) (by kernel_rfl) (by kernel_rfl) (Go.Ab.kc (by kernel_rfl) h)

-- 115
noncomputable def l115 : Nat → List Nat
  | _ => []
noncomputable def u115 : Nat → Bool
  | _ => false
noncomputable def m115 : Nat → Bool
  | _ => false
noncomputable def g115 : Cfg := { N := 12, live := l115, cut := u115, mu := m115, ret := rets }
theorem s115m : ∀ (es : T.Kn) (Post : AV → List AObj → Prop),
  (ASpec Try.prog 220 [AV.map 0] [AObj.mp (MM.typed T.EK es), AObj.cells [AV.map 0]] fun (r : AV) (H' : List AObj) =>
      ∃ (x : List (ByteArray × T.Known)),
        r = AV.map 2 ∧
        H' = [AObj.mp (MM.typed T.EK es), AObj.cells [AV.map 0], AObj.mp (MM.typed T.EK x)] ∧
        Post (AV.ptr 3 0) [AObj.mp (MM.typed T.EK es), AObj.cells [AV.map 0], AObj.mp (MM.typed T.EK x), AObj.cells [AV.map 2]]) →
    ASpec Try.prog 115 [AV.ptr 1 0] (T.HX es) Post := fun es Post h => Go.Ab.ASpec.of_vc g115 Go.Proofs.Try.func115 (by kernel_rfl) (by kernel_rfl) (by kernel_rfl) (Go.Ab.kc (by kernel_rfl) h)
theorem s115n : ∀ (Post : AV → List AObj → Prop), Post AV.nilp [] → ASpec Try.prog 115 [AV.nilp] [] Post := fun Post h => Go.Ab.ASpec.of_vc g115 Go.Proofs.Try.func115 (by kernel_rfl) (by kernel_rfl) (by kernel_rfl) (Go.Ab.kc (by kernel_rfl) h)

end
end Xd
end

section
/- Steps of a proof as cells. -/

open Go Go.Ab Go.Proofs
namespace T
/-- kind, name, version, the other name, two numbers -/
abbrev St := Int × List UInt8 × Int × List UInt8 × Int × Int
noncomputable def encSt (x : St) : List AV := [.int .i64 x.1, .str ⟨x.2.1.toArray⟩, .int .i64 x.2.2.1, .str ⟨x.2.2.2.1.toArray⟩, .int .i64 x.2.2.2.2.1, .int .i64 x.2.2.2.2.2]
abbrev noSt : St := (0, [], 0, [], 0, 0)
end T
end

section
/- Printed: what the code of functions 124, 227, 126, 127, 230, 128, 129, 16, 15 asks for, by the framework's own reading of it; each line is checked against the code. -/

set_option linter.unusedVariables false
set_option maxRecDepth 100000
set_option maxHeartbeats 4000000
open Go Go.Ab Go.Proofs
namespace Pl
noncomputable section

noncomputable def addH (args : List AV) (H : List AObj) (o : AObj) : List AObj := match args with
  | .msl _ id _ _ :: _ => H.set id o
  | _ => H
noncomputable def headId : List AV → Nat
  | .msl _ id _ _ :: _ => id
  | _ => 0
noncomputable def retL : List (Nat × Ret) := [
  (123, ⟨Bool, fun _ _ x => .bool x, fun _ H _ => H⟩), (25, ⟨Bool, fun _ _ x => .bool x, fun _ H _ => H⟩), (24, ⟨Bool, fun _ _ x => .bool x, fun _ H _ => H⟩), (18, ⟨Bool, fun _ _ x => .bool x, fun _ H _ => H⟩), (227, ⟨Bool, fun _ _ x => .bool x, fun _ H _ => H⟩), (124, ⟨Bool, fun _ _ x => .bool x, fun _ H _ => H⟩), (63, ⟨Bool, fun _ _ x => .bool x, fun _ H _ => H⟩), (19, ⟨Unit, fun _ _ _ => .bool true, fun _ H _ => H⟩),
  (125, ⟨List T.St, fun _ _ x => .sl 6 (.map T.encSt T.noSt x) .none, fun _ H _ => H⟩), (126, ⟨List T.St, fun _ _ x => .sl 6 (.map T.encSt T.noSt x) .none, fun _ H _ => H⟩), (127, ⟨List (List UInt8), fun _ _ x => .sl 1 (.map T.encL [] x) .none, fun _ H _ => H⟩), (128, ⟨List (List UInt8), fun _ _ x => .sl 1 (.map T.encL [] x) .none, fun _ H _ => H⟩), (129, ⟨List (List UInt8), fun _ _ x => .sl 1 (.map T.encL [] x) .none, fun _ H _ => H⟩),
  (229, ⟨Unit, fun _ _ _ => .tup [], fun _ H _ => H⟩), (229, ⟨List (List UInt8), fun _ _ _ => .tup [], fun a H x => addH a H (.arr 1 (.map T.encL [] x))⟩),
  (230, ⟨Unit, fun _ _ _ => .sl 0 (.raw []) .nil, fun _ H _ => H⟩), (230, ⟨List (List UInt8), fun a _ x => .msl 1 (headId a) 0 x.length, fun a H x => addH a H (.arr 1 (.map T.encL [] x))⟩)]
noncomputable def rets : FuncId → List Ret := lookupR (retL ++ C.retC ++ V.retL)

-- 124
end
end Pl
end

section
/- Printed: what the code of functions 225, 308, 352, 307, 224, 122 asks for, by the framework's own reading of it; each line is checked against the code. -/

set_option linter.unusedVariables false
set_option maxRecDepth 100000
set_option maxHeartbeats 4000000
open Go Go.Ab Go.Proofs
namespace Xn
noncomputable section

noncomputable def retXn : List (Nat × Ret) := [
  (225, ⟨Unit, fun _ H _ => .fn 308 [.ptr H.length 0], fun a H _ => H ++ [.cells [a.getD 0 .bad]]⟩),
  (352, ⟨Unit, fun _ _ _ => .sl 0 (.raw []) .nil, fun _ H _ => H⟩),
  (352, ⟨List (List UInt8), fun _ H x => .msl 1 H.length 0 x.length, fun _ H x => H ++ [.arr 1 (.map T.encL [] x)]⟩),
  (307, ⟨Unit, fun _ _ _ => .sl 0 (.raw []) .nil, fun _ H _ => H⟩),
  (307, ⟨List (List UInt8), fun _ H x => .msl 1 H.length 0 x.length, fun _ H x => H ++ [.arr 1 (.map T.encL [] x)]⟩),
  (224, ⟨List (List UInt8), fun _ _ x => .sl 1 (.map T.encL [] x) .none, fun _ H _ => H⟩),
  (122, ⟨List (List UInt8), fun _ _ x => .sl 1 (.map T.encL [] x) .none, fun _ H _ => H⟩),
  (yieldKey, ⟨List (List UInt8), fun _ _ _ => .bool true, fun _ H x => (H.set 2 (.cells [.msl 1 5 0 x.length])) ++ [.arr 1 (.map T.encL [] x)]⟩),
  (yieldKey, ⟨List (List UInt8), fun _ _ _ => .bool true, fun _ H x => ((H.set 5 .gone).set 2 (.cells [.msl 1 6 0 x.length])) ++ [.arr 1 (.map T.encL [] x)]⟩)]
noncomputable def rets : FuncId → List Ret := fun f => match lookupR retXn f with
  | [] => match X.rets f with
    | [] => Pl.rets f
    | l => l
  | l => l

-- 225
noncomputable def l225 : Nat → List Nat
  | _ => []
noncomputable def u225 : Nat → Bool
  | _ => false
noncomputable def m225 : Nat → Bool
  | _ => false
noncomputable def g225 : Cfg := { N := 4, live := l225, cut := u225, mu := m225, ret := rets }
theorem s225 : ∀ (es : T.Kn) (Post : AV → List AObj → Prop),
  Post (AV.fn 308 [AV.ptr 2 0]) [AObj.mp (MM.typed T.EK es), AObj.cells [AV.map 0], AObj.cells [AV.map 0]] →
    ASpec Try.prog 225 [AV.map 0] (T.HX es) Post := fun es Post h => Go.Ab.ASpec.of_vc g225 Go.Proofs.Try.func225 (by kernel_rfl) (by kernel_rfl) (by kernel_rfl) (Go.Ab.kc (by kernel_rfl) h)

-- 308
noncomputable def l308 : Nat → List Nat
  | 1 => [0, 5]
  | _ => []
noncomputable def u308 : Nat → Bool
  | _ => false
noncomputable def m308 : Nat → Bool
  | _ => false
noncomputable def g308 : Cfg := { N := 14, live := l308, cut := u308, mu := m308, ret := rets }
noncomputable def c308 : Go.Code := Go.Ab.bodyOf Go.Proofs.Try.f308
noncomputable def q308_0 : Nat → (AV → List AObj → Prop) → AQ := fun (n : Nat) (Post : AV → List AObj → Prop) => endQ Try.prog (resultsOf Try.f308) Post
noncomputable def q308_1 : Nat → (AV → List AObj → Prop) → AQ := fun (n : Nat) (Post : AV → List AObj → Prop) => blockQ 0 (q308_0 n Post)
noncomputable def c308_1 : Go.Code := codeFst (codeSnd c308)
theorem s308 : ∀ (es : T.Kn) (o : AObj) (Post : AV → List AObj → Prop),
  (∀ (z : List Nat × Nat),
      List.Nodup (Prod.fst z) ∧ List.length (Prod.fst z) = MM.len (MM.typed T.EK es) →
        AWP Try.prog 14 4 c308_1 [(0, AV.yld 3), (5, AV.ptr 4 0)]
        [AObj.mpv (MM.typed T.EK es) z, AObj.cells [AV.map 0], AObj.cells [AV.sl 0 (Seq.raw []) Tip.nil], o, AObj.mit 0 z []] (q308_1 4 Post)) →
    ASpec Try.prog 308 [AV.yld 3, AV.ptr 1 0] [AObj.mp (MM.typed T.EK es), AObj.cells [AV.map 0], AObj.cells [AV.sl 0 (Seq.raw []) Tip.nil], o] Post := fun es o Post h => Go.Ab.ASpec.of_vc g308 Go.Proofs.Try.func308 (by kernel_rfl) (by kernel_rfl) (by kernel_rfl) (Go.Ab.kc (by kernel_rfl) h)
theorem v308_1n : ∀ (es : T.Kn) (z : List Nat × Nat) (ps : List Nat) (o : AObj) (n : Nat) (Post : AV → List AObj → Prop),
  needP (z = z)
      (((∀ (i : Nat), i < MM.len (MM.typed T.EK es) → i ∈ ps) →
        Post (AV.tup []) [AObj.mpv (MM.typed T.EK es) z, AObj.cells [AV.map 0], AObj.cells [AV.sl 0 (Seq.raw []) Tip.nil], o, AObj.mit 0 z ps]) ∧
        ∀ (i : Nat),
        i < MM.len (MM.typed T.EK es) →
        (i ∈ ps → False) →
        ∀ (k : ByteArray) (v : T.Known),
        es[i]? = some (k, v) →
        optionP v
        (fun (x : T.Mani) =>
        needP (z = z ∧ i < MM.len (MM.typed T.EK es))
        (∀ (k : ByteArray) (v : T.Known),
        es[i]? = some (k, v) →
        optionP v
        (fun (x : T.Mani) =>
        AYield Try.prog 3 [AV.str k]
        [AObj.mpv (MM.typed T.EK es) z, AObj.cells [AV.map 0], AObj.cells [AV.sl 0 (Seq.raw []) Tip.nil], o, AObj.mit 0 z (i :: ps)]
        fun (r : AV) (H' : List AObj) =>
        (∃ (x : List (List UInt8)),
        r = AV.bool true ∧
        H' =
        [AObj.mpv (MM.typed T.EK es) z, AObj.cells [AV.map 0], AObj.cells [AV.msl 1 5 0 (List.length x)], o,
        AObj.mit 0 z (i :: ps), AObj.arr 1 (Seq.map T.encL [] x)] ∧
        AWP Try.prog 14 n c308_1 [(0, AV.yld 3), (5, AV.ptr 4 0)]
        [AObj.mpv (MM.typed T.EK es) z, AObj.cells [AV.map 0], AObj.cells [AV.msl 1 5 0 (List.length x)], o,
        AObj.mit 0 z (i :: ps), AObj.arr 1 (Seq.map T.encL [] x)]
        (q308_1 n Post)) ∨
        ∃ (x : List (List UInt8)),
        r = AV.bool true ∧
        H' =
        [AObj.mpv (MM.typed T.EK es) z, AObj.cells [AV.map 0], AObj.cells [AV.msl 1 6 0 (List.length x)], o,
        AObj.mit 0 z (i :: ps), AObj.arr 1 (Seq.map T.encL [] x)] ∧
        AWP Try.prog 14 n c308_1 [(0, AV.yld 3), (5, AV.ptr 4 0)]
        [AObj.mpv (MM.typed T.EK es) z, AObj.cells [AV.map 0], AObj.cells [AV.msl 1 6 0 (List.length x)], o,
        AObj.mit 0 z (i :: ps), AObj.arr 1 (Seq.map T.encL [] x)]
        (q308_1 n Post))
        (AYield Try.prog 3 [AV.str k]
        [AObj.mpv (MM.typed T.EK es) z, AObj.cells [AV.map 0], AObj.cells [AV.sl 0 (Seq.raw []) Tip.nil], o, AObj.mit 0 z (i :: ps)]
        fun (r : AV) (H' : List AObj) =>
        (∃ (x : List (List UInt8)),
        r = AV.bool true ∧
        H' =
        [AObj.mpv (MM.typed T.EK es) z, AObj.cells [AV.map 0], AObj.cells [AV.msl 1 5 0 (List.length x)], o,
        AObj.mit 0 z (i :: ps), AObj.arr 1 (Seq.map T.encL [] x)] ∧
        AWP Try.prog 14 n c308_1 [(0, AV.yld 3), (5, AV.ptr 4 0)]
        [AObj.mpv (MM.typed T.EK es) z, AObj.cells [AV.map 0], AObj.cells [AV.msl 1 5 0 (List.length x)], o,
        AObj.mit 0 z (i :: ps), AObj.arr 1 (Seq.map T.encL [] x)]
        (q308_1 n Post)) ∨
        ∃ (x : List (List UInt8)),
        r = AV.bool true ∧
        H' =
        [AObj.mpv (MM.typed T.EK es) z, AObj.cells [AV.map 0], AObj.cells [AV.msl 1 6 0 (List.length x)], o,
        AObj.mit 0 z (i :: ps), AObj.arr 1 (Seq.map T.encL [] x)] ∧
        AWP Try.prog 14 n c308_1 [(0, AV.yld 3), (5, AV.ptr 4 0)]
        [AObj.mpv (MM.typed T.EK es) z, AObj.cells [AV.map 0], AObj.cells [AV.msl 1 6 0 (List.length x)], o,
        AObj.mit 0 z (i :: ps), AObj.arr 1 (Seq.map T.encL [] x)]
        (q308_1 n Post))))
        (needP (z = z ∧ i < MM.len (MM.typed T.EK es))
        (∀ (k : ByteArray) (v : T.Known),
        es[i]? = some (k, v) →
        optionP v
        (fun (x : T.Mani) =>
        AYield Try.prog 3 [AV.str k]
        [AObj.mpv (MM.typed T.EK es) z, AObj.cells [AV.map 0], AObj.cells [AV.sl 0 (Seq.raw []) Tip.nil], o, AObj.mit 0 z (i :: ps)]
        fun (r : AV) (H' : List AObj) =>
        (∃ (x : List (List UInt8)),
        r = AV.bool true ∧
        H' =
        [AObj.mpv (MM.typed T.EK es) z, AObj.cells [AV.map 0], AObj.cells [AV.msl 1 5 0 (List.length x)], o,
        AObj.mit 0 z (i :: ps), AObj.arr 1 (Seq.map T.encL [] x)] ∧
        AWP Try.prog 14 n c308_1 [(0, AV.yld 3), (5, AV.ptr 4 0)]
        [AObj.mpv (MM.typed T.EK es) z, AObj.cells [AV.map 0], AObj.cells [AV.msl 1 5 0 (List.length x)], o,
        AObj.mit 0 z (i :: ps), AObj.arr 1 (Seq.map T.encL [] x)]
        (q308_1 n Post)) ∨
        ∃ (x : List (List UInt8)),
        r = AV.bool true ∧
        H' =
        [AObj.mpv (MM.typed T.EK es) z, AObj.cells [AV.map 0], AObj.cells [AV.msl 1 6 0 (List.length x)], o,
        AObj.mit 0 z (i :: ps), AObj.arr 1 (Seq.map T.encL [] x)] ∧
        AWP Try.prog 14 n c308_1 [(0, AV.yld 3), (5, AV.ptr 4 0)]
        [AObj.mpv (MM.typed T.EK es) z, AObj.cells [AV.map 0], AObj.cells [AV.msl 1 6 0 (List.length x)], o,
        AObj.mit 0 z (i :: ps), AObj.arr 1 (Seq.map T.encL [] x)]
        (q308_1 n Post))
        (AYield Try.prog 3 [AV.str k]
        [AObj.mpv (MM.typed T.EK es) z, AObj.cells [AV.map 0], AObj.cells [AV.sl 0 (Seq.raw []) Tip.nil], o, AObj.mit 0 z (i :: ps)]
        fun (r : AV) (H' : List AObj) =>
        (∃ (x : List (List UInt8)),
        r = AV.bool true ∧
        H' =
        [AObj.mpv (MM.typed T.EK es) z, AObj.cells [AV.map 0], AObj.cells [AV.msl 1 5 0 (List.length x)], o,
        AObj.mit 0 z (i :: ps), AObj.arr 1 (Seq.map T.encL [] x)] ∧
        AWP Try.prog 14 n c308_1 [(0, AV.yld 3), (5, AV.ptr 4 0)]
        [AObj.mpv (MM.typed T.EK es) z, AObj.cells [AV.map 0], AObj.cells [AV.msl 1 5 0 (List.length x)], o,
        AObj.mit 0 z (i :: ps), AObj.arr 1 (Seq.map T.encL [] x)]
        (q308_1 n Post)) ∨
        ∃ (x : List (List UInt8)),
        r = AV.bool true ∧
        H' =
        [AObj.mpv (MM.typed T.EK es) z, AObj.cells [AV.map 0], AObj.cells [AV.msl 1 6 0 (List.length x)], o,
        AObj.mit 0 z (i :: ps), AObj.arr 1 (Seq.map T.encL [] x)] ∧
        AWP Try.prog 14 n c308_1 [(0, AV.yld 3), (5, AV.ptr 4 0)]
        [AObj.mpv (MM.typed T.EK es) z, AObj.cells [AV.map 0], AObj.cells [AV.msl 1 6 0 (List.length x)], o,
        AObj.mit 0 z (i :: ps), AObj.arr 1 (Seq.map T.encL [] x)]
        (q308_1 n Post))))) →
    AWP Try.prog 14 n c308_1 [(0, AV.yld 3), (5, AV.ptr 4 0)]
      [AObj.mpv (MM.typed T.EK es) z, AObj.cells [AV.map 0], AObj.cells [AV.sl 0 (Seq.raw []) Tip.nil], o, AObj.mit 0 z ps] (q308_1 n Post) := fun es z ps o n Post h => Go.Ab.AWP.loop' g308 (Cfg.live g308) c308_1 (by kernel_rfl) (by kernel_rfl) (Go.Ab.kc (by kernel_rfl) h)
theorem v308_1m : ∀ (es : T.Kn) (z : List Nat × Nat) (ps : List Nat) (o : AObj) (l : List (List UInt8)) (n : Nat) (Post : AV → List AObj → Prop),
  needP (z = z)
      (((∀ (i : Nat), i < MM.len (MM.typed T.EK es) → i ∈ ps) →
        Post (AV.tup [])
        [AObj.mpv (MM.typed T.EK es) z, AObj.cells [AV.map 0], AObj.cells [AV.msl 1 5 0 (List.length l)], o, AObj.mit 0 z ps,
        AObj.arr 1 (Seq.map T.encL [] l)]) ∧
        ∀ (i : Nat),
        i < MM.len (MM.typed T.EK es) →
        (i ∈ ps → False) →
        ∀ (k : ByteArray) (v : T.Known),
        es[i]? = some (k, v) →
        optionP v
        (fun (x : T.Mani) =>
        needP (z = z ∧ i < MM.len (MM.typed T.EK es))
        (∀ (k : ByteArray) (v : T.Known),
        es[i]? = some (k, v) →
        optionP v
        (fun (x : T.Mani) =>
        AYield Try.prog 3 [AV.str k]
        [AObj.mpv (MM.typed T.EK es) z, AObj.cells [AV.map 0], AObj.cells [AV.msl 1 5 0 (List.length l)], o, AObj.mit 0 z (i :: ps),
        AObj.arr 1 (Seq.map T.encL [] l)]
        fun (r : AV) (H' : List AObj) =>
        (∃ (x : List (List UInt8)),
        r = AV.bool true ∧
        H' =
        [AObj.mpv (MM.typed T.EK es) z, AObj.cells [AV.map 0], AObj.cells [AV.msl 1 5 0 (List.length x)], o,
        AObj.mit 0 z (i :: ps), AObj.arr 1 (Seq.map T.encL [] l), AObj.arr 1 (Seq.map T.encL [] x)] ∧
        AWP Try.prog 14 n c308_1 [(0, AV.yld 3), (5, AV.ptr 4 0)]
        [AObj.mpv (MM.typed T.EK es) z, AObj.cells [AV.map 0], AObj.cells [AV.msl 1 5 0 (List.length x)], o,
        AObj.mit 0 z (i :: ps), AObj.arr 1 (Seq.map T.encL [] l), AObj.arr 1 (Seq.map T.encL [] x)]
        (q308_1 n Post)) ∨
        ∃ (x : List (List UInt8)),
        r = AV.bool true ∧
        H' =
        [AObj.mpv (MM.typed T.EK es) z, AObj.cells [AV.map 0], AObj.cells [AV.msl 1 6 0 (List.length x)], o,
        AObj.mit 0 z (i :: ps), AObj.gone, AObj.arr 1 (Seq.map T.encL [] x)] ∧
        AWP Try.prog 14 n c308_1 [(0, AV.yld 3), (5, AV.ptr 4 0)]
        [AObj.mpv (MM.typed T.EK es) z, AObj.cells [AV.map 0], AObj.cells [AV.msl 1 6 0 (List.length x)], o,
        AObj.mit 0 z (i :: ps), AObj.gone, AObj.arr 1 (Seq.map T.encL [] x)]
        (q308_1 n Post))
        (AYield Try.prog 3 [AV.str k]
        [AObj.mpv (MM.typed T.EK es) z, AObj.cells [AV.map 0], AObj.cells [AV.msl 1 5 0 (List.length l)], o, AObj.mit 0 z (i :: ps),
        AObj.arr 1 (Seq.map T.encL [] l)]
        fun (r : AV) (H' : List AObj) =>
        (∃ (x : List (List UInt8)),
        r = AV.bool true ∧
        H' =
        [AObj.mpv (MM.typed T.EK es) z, AObj.cells [AV.map 0], AObj.cells [AV.msl 1 5 0 (List.length x)], o,
        AObj.mit 0 z (i :: ps), AObj.arr 1 (Seq.map T.encL [] l), AObj.arr 1 (Seq.map T.encL [] x)] ∧
        AWP Try.prog 14 n c308_1 [(0, AV.yld 3), (5, AV.ptr 4 0)]
        [AObj.mpv (MM.typed T.EK es) z, AObj.cells [AV.map 0], AObj.cells [AV.msl 1 5 0 (List.length x)], o,
        AObj.mit 0 z (i :: ps), AObj.arr 1 (Seq.map T.encL [] l), AObj.arr 1 (Seq.map T.encL [] x)]
        (q308_1 n Post)) ∨
        ∃ (x : List (List UInt8)),
        r = AV.bool true ∧
        H' =
        [AObj.mpv (MM.typed T.EK es) z, AObj.cells [AV.map 0], AObj.cells [AV.msl 1 6 0 (List.length x)], o,
        AObj.mit 0 z (i :: ps), AObj.gone, AObj.arr 1 (Seq.map T.encL [] x)] ∧
        AWP Try.prog 14 n c308_1 [(0, AV.yld 3), (5, AV.ptr 4 0)]
        [AObj.mpv (MM.typed T.EK es) z, AObj.cells [AV.map 0], AObj.cells [AV.msl 1 6 0 (List.length x)], o,
        AObj.mit 0 z (i :: ps), AObj.gone, AObj.arr 1 (Seq.map T.encL [] x)]
        (q308_1 n Post))))
        (needP (z = z ∧ i < MM.len (MM.typed T.EK es))
        (∀ (k : ByteArray) (v : T.Known),
        es[i]? = some (k, v) →
        optionP v
        (fun (x : T.Mani) =>
        AYield Try.prog 3 [AV.str k]
        [AObj.mpv (MM.typed T.EK es) z, AObj.cells [AV.map 0], AObj.cells [AV.msl 1 5 0 (List.length l)], o, AObj.mit 0 z (i :: ps),
        AObj.arr 1 (Seq.map T.encL [] l)]
        fun (r : AV) (H' : List AObj) =>
        (∃ (x : List (List UInt8)),
        r = AV.bool true ∧
        H' =
        [AObj.mpv (MM.typed T.EK es) z, AObj.cells [AV.map 0], AObj.cells [AV.msl 1 5 0 (List.length x)], o,
        AObj.mit 0 z (i :: ps), AObj.arr 1 (Seq.map T.encL [] l), AObj.arr 1 (Seq.map T.encL [] x)] ∧
        AWP Try.prog 14 n c308_1 [(0, AV.yld 3), (5, AV.ptr 4 0)]
        [AObj.mpv (MM.typed T.EK es) z, AObj.cells [AV.map 0], AObj.cells [AV.msl 1 5 0 (List.length x)], o,
        AObj.mit 0 z (i :: ps), AObj.arr 1 (Seq.map T.encL [] l), AObj.arr 1 (Seq.map T.encL [] x)]
        (q308_1 n Post)) ∨
        ∃ (x : List (List UInt8)),
        r = AV.bool true ∧
        H' =
        [AObj.mpv (MM.typed T.EK es) z, AObj.cells [AV.map 0], AObj.cells [AV.msl 1 6 0 (List.length x)], o,
        AObj.mit 0 z (i :: ps), AObj.gone, AObj.arr 1 (Seq.map T.encL [] x)] ∧
        AWP Try.prog 14 n c308_1 [(0, AV.yld 3), (5, AV.ptr 4 0)]
        [AObj.mpv (MM.typed T.EK es) z, AObj.cells [AV.map 0], AObj.cells [AV.msl 1 6 0 (List.length x)], o,
        AObj.mit 0 z (i :: ps), AObj.gone, AObj.arr 1 (Seq.map T.encL [] x)]
        (q308_1 n Post))
        (AYield Try.prog 3 [AV.str k]
        [AObj.mpv (MM.typed T.EK es) z, AObj.cells [AV.map 0], AObj.cells [AV.msl 1 5 0 (List.length l)], o, AObj.mit 0 z (i :: ps),
        AObj.arr 1 (Seq.map T.encL [] l)]
        fun (r : AV) (H' : List AObj) =>
        (∃ (x : List (List UInt8)),
        r = AV.bool true ∧
        H' =
        [AObj.mpv (MM.typed T.EK es) z, AObj.cells [AV.map 0], AObj.cells [AV.msl 1 5 0 (List.length x)], o,
        AObj.mit 0 z (i :: ps), AObj.arr 1 (Seq.map T.encL [] l), AObj.arr 1 (Seq.map T.encL [] x)] ∧
        AWP Try.prog 14 n c308_1 [(0, AV.yld 3), (5, AV.ptr 4 0)]
        [AObj.mpv (MM.typed T.EK es) z, AObj.cells [AV.map 0], AObj.cells [AV.msl 1 5 0 (List.length x)], o,
        AObj.mit 0 z (i :: ps), AObj.arr 1 (Seq.map T.encL [] l), AObj.arr 1 (Seq.map T.encL [] x)]
        (q308_1 n Post)) ∨
        ∃ (x : List (List UInt8)),
        r = AV.bool true ∧
        H' =
        [AObj.mpv (MM.typed T.EK es) z, AObj.cells [AV.map 0], AObj.cells [AV.msl 1 6 0 (List.length x)], o,
        AObj.mit 0 z (i :: ps), AObj.gone, AObj.arr 1 (Seq.map T.encL [] x)] ∧
        AWP Try.prog 14 n c308_1 [(0, AV.yld 3), (5, AV.ptr 4 0)]
        [AObj.mpv (MM.typed T.EK es) z, AObj.cells [AV.map 0], AObj.cells [AV.msl 1 6 0 (List.length x)], o,
        AObj.mit 0 z (i :: ps), AObj.gone, AObj.arr 1 (Seq.map T.encL [] x)]
        (q308_1 n Post))))) →
    AWP Try.prog 14 n c308_1 [(0, AV.yld 3), (5, AV.ptr 4 0)]
      [AObj.mpv (MM.typed T.EK es) z, AObj.cells [AV.map 0], AObj.cells [AV.msl 1 5 0 (List.length l)], o, AObj.mit 0 z ps,
        AObj.arr 1 (Seq.map T.encL [] l)]
      (q308_1 n Post) := fun es z ps o l n Post h => Go.Ab.AWP.loop' g308 (Cfg.live g308) c308_1 (by kernel_rfl) (by kernel_rfl) (Go.Ab.kc (by kernel_rfl) h)

-- 352
noncomputable def l352 : Nat → List Nat
  | 3 => [2, 7]
  | 4 => [2]
  | _ => []
noncomputable def u352 : Nat → Bool
  | 4 => true
  | _ => false
noncomputable def m352 : Nat → Bool
  | 11 => true
  | _ => false
noncomputable def g352 : Cfg := { N := 13, live := l352, cut := u352, mu := m352, ret := rets }
noncomputable def g352r : Cfg := { N := 13, live := l352, cut := u352, mu := m352, ret := rets, rnd := true }
noncomputable def c352 : Go.Code := Go.Ab.bodyOf Go.Proofs.Try.f352
noncomputable def q352_0 : Nat → (AV → List AObj → Prop) → AQ := fun (n : Nat) (Post : AV → List AObj → Prop) => endQ Try.prog (resultsOf Try.f352) Post
noncomputable def c352_4 : Go.Code := codeSnd (codeSnd c352)
noncomputable def q352_1 : Nat → (AV → List AObj → Prop) → AQ := fun (n : Nat) (Post : AV → List AObj → Prop) => seqQ (fun (s' : Slots) (H' : List AObj) => AWP Try.prog (Cfg.N g352) n c352_4 (restrict s' (Cfg.live g352 4)) H' (q352_0 n Post)) (q352_0 n Post)
noncomputable def q352_2 : Nat → (AV → List AObj → Prop) → AQ := fun (n : Nat) (Post : AV → List AObj → Prop) => blockQ 0 (q352_1 n Post)
noncomputable def c352_3 : Go.Code := codeFst (codeFst (codeSnd (codeFst (codeSnd c352))))
noncomputable def c352_3a : Go.Code := codeAsg (codeFst (codeSnd (codeFst (codeSnd c352))))
theorem s352 : ∀ (es : T.Kn) (Post : AV → List AObj → Prop),
  (ASpec Try.prog 308 [AV.yld 3, AV.ptr 1 0]
      [AObj.mp (MM.typed T.EK es), AObj.cells [AV.map 0], AObj.cells [AV.sl 0 (Seq.raw []) Tip.nil],
        AObj.lp 13 [(2, AV.ptr 2 0), (7, AV.bad)] [7] c352_3a c352_3 LpSt.ready]
      fun (r : AV) (H' : List AObj) =>
      rangeEnd (q352_2 2 Post)
        [(6, AV.fn (308 : FuncId) [AV.ptr 1 0]), (4, AV.sl 0 (Seq.raw []) Tip.nil), (2, AV.ptr 2 0),
        (0, AV.sl 0 (Seq.raw []) Tip.nil), (1, AV.fn (308 : FuncId) [AV.ptr 1 0])]
        3 H') →
    ASpec Try.prog 352 [AV.sl 0 (Seq.raw []) Tip.nil, AV.fn (308 : FuncId) [AV.ptr 1 0]] [AObj.mp (MM.typed T.EK es), AObj.cells [AV.map 0]] Post := fun es Post h => Go.Ab.ASpec.of_vc g352 Go.Proofs.Try.func352 (by kernel_rfl) (by kernel_rfl) (by kernel_rfl) (Go.Ab.kc (by kernel_rfl) h)
theorem v352_3n : ∀ (es : T.Kn) (z : List Nat × Nat) (ps : List Nat) (k : ByteArray) (o o' : AObj) (n : Nat) (Post : AV → List AObj → Prop) (Qr : AQ),
  needP (o = o)
      (needP (16 ≤ 140737488351232)
        (needP (1 ≤ 1)
        (Qr Exit.normal
        [(11, AV.msl 1 5 0 1), (10, AV.sl 1 (Seq.raw [[AV.str k]]) Tip.full), (9, AV.str k),
        (8, AV.sl 0 (Seq.raw []) Tip.nil), (5, AV.str k), (2, AV.ptr 2 0), (7, AV.str k)]
        [AObj.mpv (MM.typed T.EK es) z, AObj.cells [AV.map 0], AObj.cells [AV.msl 1 5 0 1], o', AObj.mit 0 z ps,
        AObj.arr 1 (Seq.raw [[AV.str k]])]))) →
    ARound Try.prog 13 n 3 o o' c352_3a c352_3 [(2, AV.ptr 2 0), (7, AV.str k)]
      [AObj.mpv (MM.typed T.EK es) z, AObj.cells [AV.map 0], AObj.cells [AV.sl 0 (Seq.raw []) Tip.nil], o, AObj.mit 0 z ps] Qr := fun es z ps k o o' n Post Qr h => Go.Ab.ARound.of g352r n 3 o o' (by kernel_rfl) _ _ _ _ _ (Go.Ab.kc (by kernel_rfl) h)
theorem v352_3m : ∀ (es : T.Kn) (z : List Nat × Nat) (ps : List Nat) (k : ByteArray) (l : List (List UInt8)) (o o' : AObj) (n : Nat) (Post : AV → List AObj → Prop) (Qr : AQ),
  needP (o = o)
      (needP (List.length l = List.length l ∧ (List.length l + 1) * 16 ≤ 140737488351232)
        (Qr Exit.normal
        [(11, AV.msl 1 6 0 (List.length l + 1)), (10, AV.sl 1 (Seq.raw [[AV.str k]]) Tip.full), (9, AV.str k),
        (8, AV.msl 1 5 0 (List.length l)), (5, AV.str k), (2, AV.ptr 2 0), (7, AV.str k)]
        [AObj.mpv (MM.typed T.EK es) z, AObj.cells [AV.map 0], AObj.cells [AV.msl 1 6 0 (List.length l + 1)], o', AObj.mit 0 z ps, AObj.gone,
        AObj.arr 1 (Seq.app (Seq.map T.encL [] l) (Seq.raw [[AV.str k]]))])) →
    ARound Try.prog 13 n 3 o o' c352_3a c352_3 [(2, AV.ptr 2 0), (7, AV.str k)]
      [AObj.mpv (MM.typed T.EK es) z, AObj.cells [AV.map 0], AObj.cells [AV.msl 1 5 0 (List.length l)], o, AObj.mit 0 z ps,
        AObj.arr 1 (Seq.map T.encL [] l)]
      Qr := fun es z ps k l o o' n Post Qr h => Go.Ab.ARound.of g352r n 3 o o' (by kernel_rfl) _ _ _ _ _ (Go.Ab.kc (by kernel_rfl) h)
theorem v352_4n : ∀ (es : T.Kn) (n : Nat) (Post : AV → List AObj → Prop),
  Post (AV.sl 0 (Seq.raw []) Tip.nil) [AObj.mp (MM.typed T.EK es), AObj.cells [AV.map 0], AObj.cells [AV.sl 0 (Seq.raw []) Tip.nil]] →
    AWP Try.prog 13 n c352_4 [(2, AV.ptr 2 0)] [AObj.mp (MM.typed T.EK es), AObj.cells [AV.map 0], AObj.cells [AV.sl 0 (Seq.raw []) Tip.nil]]
      (q352_0 n Post) := fun es n Post h => Go.Ab.awp_sound g352 n _ _ _ _ (Go.Ab.kc (by kernel_rfl) h)
theorem v352_4m : ∀ (es : T.Kn) (l : List (List UInt8)) (n : Nat) (Post : AV → List AObj → Prop),
  Post (AV.msl 1 3 0 (List.length l))
      [AObj.mp (MM.typed T.EK es), AObj.cells [AV.map 0], AObj.cells [AV.msl 1 3 0 (List.length l)], AObj.arr 1 (Seq.map T.encL [] l)] →
    AWP Try.prog 13 n c352_4 [(2, AV.ptr 2 0)]
      [AObj.mp (MM.typed T.EK es), AObj.cells [AV.map 0], AObj.cells [AV.msl 1 3 0 (List.length l)], AObj.arr 1 (Seq.map T.encL [] l)] (q352_0 n Post) := fun es l n Post h => Go.Ab.awp_sound g352 n _ _ _ _ (Go.Ab.kc (by kernel_rfl) h)

-- 307
noncomputable def l307 : Nat → List Nat
  | _ => []
noncomputable def u307 : Nat → Bool
  | _ => false
noncomputable def m307 : Nat → Bool
  | _ => false
noncomputable def g307 : Cfg := { N := 5, live := l307, cut := u307, mu := m307, ret := rets }
theorem s307 : ∀ (es : T.Kn) (Post : AV → List AObj → Prop),
  (ASpec Try.prog 352 [AV.sl 0 (Seq.raw []) Tip.nil, AV.fn (308 : FuncId) [AV.ptr 1 0]] [AObj.mp (MM.typed T.EK es), AObj.cells [AV.map 0]]
      fun (r : AV) (H' : List AObj) =>
      (∃ (x : Unit),
        r = AV.sl 0 (Seq.raw []) Tip.nil ∧
        H' = [AObj.mp (MM.typed T.EK es), AObj.cells [AV.map 0]] ∧ Post (AV.sl 0 (Seq.raw []) Tip.nil) [AObj.mp (MM.typed T.EK es), AObj.cells [AV.map 0]]) ∨
        ∃ (x : List (List UInt8)),
        r = AV.msl 1 2 0 (List.length x) ∧
        H' = [AObj.mp (MM.typed T.EK es), AObj.cells [AV.map 0], AObj.arr 1 (Seq.map T.encL [] x)] ∧
        Post (AV.msl 1 2 0 (List.length x)) [AObj.mp (MM.typed T.EK es), AObj.cells [AV.map 0], AObj.arr 1 (Seq.map T.encL [] x)]) →
    ASpec Try.prog 307 [AV.fn (308 : FuncId) [AV.ptr 1 0]] [AObj.mp (MM.typed T.EK es), AObj.cells [AV.map 0]] Post := fun es Post h => Go.Ab.ASpec.of_vc g307 Go.Proofs.Try.func307 (by kernel_rfl) (by kernel_rfl) (by kernel_rfl) (Go.Ab.kc (by kernel_rfl) h)

-- 224
noncomputable def l224 : Nat → List Nat
  | _ => []
noncomputable def u224 : Nat → Bool
  | _ => false
noncomputable def m224 : Nat → Bool
  | _ => false
noncomputable def g224 : Cfg := { N := 9, live := l224, cut := u224, mu := m224, ret := rets }
theorem s224 : ∀ (es : T.Kn) (Post : AV → List AObj → Prop),
  (ASpec Try.prog 307 [AV.fn (308 : FuncId) [AV.ptr 1 0]] [AObj.mp (MM.typed T.EK es), AObj.cells [AV.map 0]] fun (r : AV) (H' : List AObj) =>
      (∃ (x : Unit),
        r = AV.sl 0 (Seq.raw []) Tip.nil ∧
        H' = [AObj.mp (MM.typed T.EK es), AObj.cells [AV.map 0]] ∧
        ASpec Try.prog 229 [AV.sl 0 (Seq.raw []) Tip.nil] [AObj.mp (MM.typed T.EK es), AObj.cells [AV.map 0]] fun (r : AV) (H' : List AObj) =>
        (∃ (x : Unit),
        r = AV.tup [] ∧
        H' = [AObj.mp (MM.typed T.EK es), AObj.cells [AV.map 0]] ∧ Post (AV.sl 0 (Seq.raw []) Tip.nil) [AObj.mp (MM.typed T.EK es), AObj.cells [AV.map 0]]) ∨
        ∃ (x : List (List UInt8)),
        r = AV.tup [] ∧
        H' = [AObj.mp (MM.typed T.EK es), AObj.cells [AV.map 0]] ∧ Post (AV.sl 0 (Seq.raw []) Tip.nil) [AObj.mp (MM.typed T.EK es), AObj.cells [AV.map 0]]) ∨
        ∃ (x : List (List UInt8)),
        r = AV.msl 1 2 0 (List.length x) ∧
        H' = [AObj.mp (MM.typed T.EK es), AObj.cells [AV.map 0], AObj.arr 1 (Seq.map T.encL [] x)] ∧
        ASpec Try.prog 229 [AV.msl 1 2 0 (List.length x)] [AObj.mp (MM.typed T.EK es), AObj.cells [AV.map 0], AObj.arr 1 (Seq.map T.encL [] x)]
        fun (r : AV) (H' : List AObj) =>
        (∃ (x_1 : Unit),
        r = AV.tup [] ∧
        H' = [AObj.mp (MM.typed T.EK es), AObj.cells [AV.map 0], AObj.arr 1 (Seq.map T.encL [] x)] ∧
        Post (AV.msl 1 2 0 (List.length x)) [AObj.mp (MM.typed T.EK es), AObj.cells [AV.map 0], AObj.arr 1 (Seq.map T.encL [] x)]) ∨
        ∃ (x_1 : List (List UInt8)),
        r = AV.tup [] ∧
        H' = [AObj.mp (MM.typed T.EK es), AObj.cells [AV.map 0], AObj.arr 1 (Seq.map T.encL [] x_1)] ∧
        Post (AV.msl 1 2 0 (List.length x)) [AObj.mp (MM.typed T.EK es), AObj.cells [AV.map 0], AObj.arr 1 (Seq.map T.encL [] x_1)]) →
    ASpec Try.prog 224 [AV.fn (308 : FuncId) [AV.ptr 1 0]] [AObj.mp (MM.typed T.EK es), AObj.cells [AV.map 0]] Post := fun es Post h => Go.Ab.ASpec.of_vc g224 Go.Proofs.Try.func224 (by kernel_rfl) (by kernel_rfl) (by kernel_rfl) (Go.Ab.kc (by kernel_rfl) h)

-- 122
noncomputable def l122 : Nat → List Nat
  | _ => []
noncomputable def u122 : Nat → Bool
  | _ => false
noncomputable def m122 : Nat → Bool
  | _ => false
noncomputable def g122 : Cfg := { N := 11, live := l122, cut := u122, mu := m122, ret := rets }
theorem s122m : ∀ (es : T.Kn) (Post : AV → List AObj → Prop),
  (ASpec Try.prog 225 [AV.map 0] [AObj.mp (MM.typed T.EK es), AObj.cells [AV.map 0]] fun (r : AV) (H' : List AObj) =>
      ∃ (x : Unit),
        r = AV.fn (308 : FuncId) [AV.ptr 2 0] ∧
        H' = [AObj.mp (MM.typed T.EK es), AObj.cells [AV.map 0], AObj.cells [AV.map 0]] ∧
        ASpec Try.prog 224 [AV.fn (308 : FuncId) [AV.ptr 2 0]] [AObj.mp (MM.typed T.EK es), AObj.cells [AV.map 0], AObj.cells [AV.map 0]]
        fun (r : AV) (H' : List AObj) =>
        ∃ (x : List (List UInt8)),
        r = AV.sl 1 (Seq.map T.encL [] x) Tip.none ∧
        H' = [AObj.mp (MM.typed T.EK es), AObj.cells [AV.map 0], AObj.cells [AV.map 0]] ∧
        Post (AV.sl 1 (Seq.map T.encL [] x) Tip.none) [AObj.mp (MM.typed T.EK es), AObj.cells [AV.map 0], AObj.cells [AV.map 0]]) →
    ASpec Try.prog 122 [AV.ptr 1 0] (T.HX es) Post := fun es Post h => Go.Ab.ASpec.of_vc g122 Go.Proofs.Try.func122 (by kernel_rfl) (by kernel_rfl) (by kernel_rfl) (Go.Ab.kc (by kernel_rfl) h)
theorem s122n : ∀ (Post : AV → List AObj → Prop), Post (AV.sl 0 (Seq.raw []) Tip.nil) [] → ASpec Try.prog 122 [AV.nilp] [] Post := fun Post h => Go.Ab.ASpec.of_vc g122 Go.Proofs.Try.func122 (by kernel_rfl) (by kernel_rfl) (by kernel_rfl) (Go.Ab.kc (by kernel_rfl) h)

end
end Xn
end
