/- Q5: several of this proof's own texts, one behind the other: what each proves stands at its head. -/
import Derived.Test.YtbacghbkaapncaaGreatProg
import Derived.Test.YtbacghbkaapncaaGreatA3
section
/- Printed: what the code of functions 184, 185, 179, 178, 123, 127, 125, 161, 162, 133, 136, 135, 138, 160, 163 asks for, by the framework's own reading of it; each line is checked against the code. -/

set_option linter.unusedVariables false
set_option maxRecDepth 100000
set_option maxHeartbeats 4000000
open Go Go.Ab Go.Proofs
namespace V
noncomputable section

noncomputable def rd (bs : List UInt8) (p e : Int) : AObj := .cells [.sl 1 (.map encB 0 bs) .none, .int .i64 p, .int .i64 e]
noncomputable def upd3 (args : List AV) (H : List AObj) (p e : Int) : List AObj := match args with
  | .ptr id _ :: _ => match H[id]? with
    | some (.cells [b, _, _]) => H.set id (.cells [b, .int .i64 p, .int .i64 e])
    | _ => H
  | _ => H
noncomputable def upd2 (args : List AV) (H : List AObj) (s : ByteArray) (e : Int) : List AObj := match args with
  | .ptr id _ :: _ => H.set id (.cells [.str s, .int .i64 e])
  | _ => H
noncomputable def retL : List (Nat × Ret) := [
  (18016, ⟨Unit, fun _ _ _ => .bool true, fun _ H _ => H⟩),
  (184, ⟨List UInt8, fun _ H l => .sl 1 (.map encB 0 l) (.tok H.length), fun _ H _ => H ++ [.tok]⟩),
  (185, ⟨List UInt8, fun _ H l => .sl 1 (.map encB 0 l) (.tok H.length), fun _ H _ => H ++ [.tok]⟩),
  (18019, ⟨ByteArray, fun _ _ s => .str s, fun _ H _ => H⟩),
  (178, ⟨ByteArray, fun _ _ s => .str s, fun _ H _ => H⟩),
  (123, ⟨List UInt8, fun _ H _ => .ptr H.length 0, fun _ H l => H ++ [rd l 0 0]⟩),
  (127, ⟨Int × Int × Int, fun _ _ x => .int .i64 x.1, fun a H x => upd3 a H x.2.1 x.2.2⟩),
  (125, ⟨ByteArray × Int × Int, fun _ _ x => .str x.1, fun a H x => upd3 a H x.2.1 x.2.2⟩),
  (161, ⟨Int, fun _ _ x => .int .i64 x, fun _ H _ => H⟩),
  (162, ⟨Int, fun _ _ x => .int .i64 x, fun _ H _ => H⟩),
  (136, ⟨Int × ByteArray × Int, fun _ _ x => .int .i64 x.1, fun a H x => upd2 a H x.2.1 x.2.2⟩),
  (135, ⟨ByteArray × ByteArray × Int, fun _ _ x => .str x.1, fun a H x => upd2 a H x.2.1 x.2.2⟩),
  (18028, ⟨Int × Int, fun _ _ x => .tup [], fun a H x => upd3 a H x.1 x.2⟩),
  (18029, ⟨ByteArray × Int, fun _ _ x => .tup [], fun a H x => upd2 a H x.1 x.2⟩),
  (133, ⟨Int, fun _ _ x => .int .i64 x, fun _ H _ => H⟩),
  (138, ⟨Int, fun _ _ x => .int .i64 x, fun _ H _ => H⟩),
  (179, ⟨ByteArray, fun _ _ s => .str s, fun _ H _ => H⟩),
  (160, ⟨Int × Int × Int × Int, fun _ _ x => .tup [.int .i64 x.1, .int .i64 x.2.1], fun a H x => upd3 a H x.2.2.1 x.2.2.2⟩),
  (163, ⟨Int × Int × Int, fun _ _ x => .tup [.int .i64 x.1, .int .i64 x.2.1, .int .i64 x.2.2], fun _ H _ => H⟩)]
noncomputable def rets : FuncId → List Ret := lookupR retL

-- 184
noncomputable def u184 : Nat → Bool
  | _ => false
noncomputable def l179 : Nat → List Nat
  | 3 => [0, 3]
  | _ => []
noncomputable def l123 : Nat → List Nat
  | 3 => [3]
  | _ => []
noncomputable def u123 : Nat → Bool
  | 3 => true
  | _ => false
noncomputable def m123 : Nat → Bool
  | _ => true
noncomputable def g123 : Cfg := { N := 13, live := l123, cut := u123, mu := m123, ret := rets }
noncomputable def c123 : Go.Code := Go.Ab.bodyOf Go.Proofs.Tryz.f123
noncomputable def q123_0 : Nat → (AV → List AObj → Prop) → AQ := fun (n : Nat) (Post : AV → List AObj → Prop) => endQ Tryz.prog (resultsOf Tryz.f123) Post
noncomputable def c123_3 : Go.Code := codeSnd (codeSnd (codeSnd c123))
theorem s123 : ∀ (bs : List UInt8) (tip : Tip) (Post : AV → List AObj → Prop),
  needP
      ((0 : Int) ≤ (↑(List.length bs) : Int) ∧
        (↑(List.length bs) : Int) ≤ (↑(List.length bs) : Int) ∧ (↑(List.length bs) : Int) ≤ (9223372036854775807 : Int) ∧ (1 : Int) * (↑(List.length bs) : Int) ≤ (281474976710656 : Int))
      (needP (∀ (x : UInt8), List.all (encB x) oneAV = true)
        (needP (0 + List.length bs ≤ List.length (List.replicate (List.length bs) [AV.int .u8 (0 : Int)]) ∧ List.length bs ≤ List.length bs)
         (AWP Tryz.prog 13 0 c123_3 [(3, .msl 1 0 0 (List.length bs))]
         [AObj.arr 1 (copied (.raw (List.replicate (List.length bs) [AV.int .u8 (0 : Int)])) 0 (.map encB (0 : UInt8) bs))] (q123_0 0 Post)))) →
    ASpec Tryz.prog 123 [.sl 1 (.map encB (0 : UInt8) bs) tip] [] Post := fun bs tip Post h => Go.Ab.ASpec.of_vc g123 Go.Proofs.Tryz.func123 (by kernel_rfl) (by kernel_rfl) (by kernel_rfl) (Go.Ab.kc (by kernel_rfl) h)
theorem v123_3 : ∀ (bs : List UInt8) (n : Nat) (Post : AV → List AObj → Prop),
  Post (.ptr 0 0) [AObj.cells [.sl 1 (.map encB (0 : UInt8) bs) .none, .int .i64 (0 : Int), .int .i64 (0 : Int)]] →
    AWP Tryz.prog 13 n c123_3 [(3, .sl 1 (.map encB (0 : UInt8) bs) .none)] [] (q123_0 n Post) := fun bs n Post h => Go.Ab.awp_sound g123 n _ _ _ _ (Go.Ab.kc (by kernel_rfl) h)

-- 127
noncomputable def l127 : Nat → List Nat
  | _ => []
noncomputable def u127 : Nat → Bool
  | _ => false
noncomputable def m127 : Nat → Bool
  | _ => false
noncomputable def g127 : Cfg := { N := 27, live := l127, cut := u127, mu := m127, ret := rets }
theorem s127 : ∀ (bs : List UInt8) (p e most : Int) (Post : AV → List AObj → Prop),
  condP (e != (0 : Int)) (Post (.int .i64 (0 : Int)) [AObj.cells [.sl 1 (.map encB (0 : UInt8) bs) .none, .int .i64 p, AV.int .i64 e]])
      (ASpec Tryz.prog 160 [.ptr 0 0, .int .i64 most]
        [AObj.cells [.sl 1 (.map encB (0 : UInt8) bs) .none, .int .i64 p, AV.int .i64 e]] fun (r : AV) (H' : List AObj) =>
        ∃ (x : Int × Int × Int × Int),
         r = AV.tup [.int .i64 (Prod.fst x), .int .i64 (Prod.fst (Prod.snd x))] ∧
         H' = [AObj.cells [.sl 1 (.map encB (0 : UInt8) bs) .none, .int .i64 (Prod.fst (Prod.snd (Prod.snd x))), .int .i64 (Prod.snd (Prod.snd (Prod.snd x)))]] ∧
         Post (.int .i64 (Prod.fst x))
         [AObj.cells [.sl 1 (.map encB (0 : UInt8) bs) .none, .int .i64 (Prod.fst (Prod.snd x)), .int .i64 (Prod.snd (Prod.snd (Prod.snd x)))]]) →
    ASpec Tryz.prog 127 [.ptr 0 0, .int .i64 most] [rd bs p e] Post := fun bs p e most Post h => Go.Ab.ASpec.of_vc g127 Go.Proofs.Tryz.func127 (by kernel_rfl) (by kernel_rfl) (by kernel_rfl) (Go.Ab.kc (by kernel_rfl) h)
noncomputable def l125 : Nat → List Nat
  | _ => []
noncomputable def u125 : Nat → Bool
  | _ => false
noncomputable def m125 : Nat → Bool
  | _ => false
noncomputable def g125 : Cfg := { N := 56, live := l125, cut := u125, mu := m125, ret := rets }
theorem s125 : ∀ (bs : List UInt8) (p e most : Int) (Post : AV → List AObj → Prop),
  condP (e != (0 : Int)) (Post (.str { data := #[] }) [AObj.cells [.sl 1 (.map encB (0 : UInt8) bs) .none, .int .i64 p, AV.int .i64 e]])
      (ASpec Tryz.prog 160 [.ptr 0 0, .int .i64 most]
        [AObj.cells [.sl 1 (.map encB (0 : UInt8) bs) .none, .int .i64 p, AV.int .i64 e]] fun (r : AV) (H' : List AObj) =>
        ∃ (x : Int × Int × Int × Int),
         r = AV.tup [.int .i64 (Prod.fst x), .int .i64 (Prod.fst (Prod.snd x))] ∧
         H' = [AObj.cells [.sl 1 (.map encB (0 : UInt8) bs) .none, .int .i64 (Prod.fst (Prod.snd (Prod.snd x))), .int .i64 (Prod.snd (Prod.snd (Prod.snd x)))]] ∧
         condP (Prod.snd (Prod.snd (Prod.snd x)) != (0 : Int))
         (Post (.str { data := #[] })
         [AObj.cells [.sl 1 (.map encB (0 : UInt8) bs) .none, .int .i64 (Prod.fst (Prod.snd (Prod.snd x))), .int .i64 (Prod.snd (Prod.snd (Prod.snd x)))]])
         (condP (decide (Prod.fst x > IntKind.wrap .i64 ((↑(List.length bs) : Int) - Prod.fst (Prod.snd x))))
         (Post (.str { data := #[] })
         [AObj.cells [.sl 1 (.map encB (0 : UInt8) bs) .none, .int .i64 (Prod.fst (Prod.snd (Prod.snd x))), .int .i64 (2 : Int)]])
         (needP
         ((0 : Int) ≤ Prod.fst (Prod.snd x) ∧
         Prod.fst (Prod.snd x) ≤ IntKind.wrap .i64 (Prod.fst (Prod.snd x) + Prod.fst x) ∧ IntKind.wrap .i64 (Prod.fst (Prod.snd x) + Prod.fst x) ≤ (↑(List.length bs) : Int))
         (needP
         (allBytes (.map encB (0 : UInt8) (List.drop (Int.toNat (Prod.fst (Prod.snd x))) (List.take (Int.toNat (IntKind.wrap .i64 (Prod.fst (Prod.snd x) + Prod.fst x))) bs))))
         (Post
         (AV.str
         (bytesOf
         (.map encB (0 : UInt8) (List.drop (Int.toNat (Prod.fst (Prod.snd x))) (List.take (Int.toNat (IntKind.wrap .i64 (Prod.fst (Prod.snd x) + Prod.fst x))) bs)))))
         [AObj.cells
         [.sl 1 (.map encB (0 : UInt8) bs) .none, .int .i64 (IntKind.wrap .i64 (Prod.fst (Prod.snd x) + Prod.fst x)),
         AV.int .i64 (Prod.snd (Prod.snd (Prod.snd x)))]]))))) →
    ASpec Tryz.prog 125 [.ptr 0 0, .int .i64 most] [rd bs p e] Post := fun bs p e most Post h => Go.Ab.ASpec.of_vc g125 Go.Proofs.Tryz.func125 (by kernel_rfl) (by kernel_rfl) (by kernel_rfl) (Go.Ab.kc (by kernel_rfl) h)
noncomputable def l161 : Nat → List Nat
  | _ => []
noncomputable def u161 : Nat → Bool
  | _ => false
noncomputable def m161 : Nat → Bool
  | _ => false
noncomputable def g161 : Cfg := { N := 9, live := l161, cut := u161, mu := m161, ret := rets }
theorem s161 : ∀ (bs : List UInt8) (p e : Int) (Post : AV → List AObj → Prop),
  Post (.int .i64 e) [AObj.cells [.sl 1 (.map encB (0 : UInt8) bs) .none, .int .i64 p, AV.int .i64 e]] →
    ASpec Tryz.prog 161 [.ptr 0 0] [rd bs p e] Post := fun bs p e Post h => Go.Ab.ASpec.of_vc g161 Go.Proofs.Tryz.func161 (by kernel_rfl) (by kernel_rfl) (by kernel_rfl) (Go.Ab.kc (by kernel_rfl) h)
noncomputable def l162 : Nat → List Nat
  | _ => []
noncomputable def u162 : Nat → Bool
  | _ => false
noncomputable def m162 : Nat → Bool
  | _ => false
noncomputable def g162 : Cfg := { N := 15, live := l162, cut := u162, mu := m162, ret := rets }
theorem s162 : ∀ (bs : List UInt8) (p e : Int) (Post : AV → List AObj → Prop),
  Post (.int .i64 (IntKind.wrap .i64 ((↑(List.length bs) : Int) - p)))
      [AObj.cells [AV.sl 1 (.map encB (0 : UInt8) bs) .none, .int .i64 p, AV.int .i64 e]] →
    ASpec Tryz.prog 162 [.ptr 0 0] [rd bs p e] Post := fun bs p e Post h => Go.Ab.ASpec.of_vc g162 Go.Proofs.Tryz.func162 (by kernel_rfl) (by kernel_rfl) (by kernel_rfl) (Go.Ab.kc (by kernel_rfl) h)
noncomputable def l133 : Nat → List Nat
  | _ => []
noncomputable def u133 : Nat → Bool
  | _ => false
noncomputable def m133 : Nat → Bool
  | _ => false
noncomputable def g133 : Cfg := { N := 14, live := l133, cut := u133, mu := m133, ret := rets }
theorem s133 : ∀ (bs : List UInt8) (p e : Int) (Post : AV → List AObj → Prop),
  (ASpec Tryz.prog 161 [.ptr 0 0] [AObj.cells [.sl 1 (.map encB (0 : UInt8) bs) .none, .int .i64 p, AV.int .i64 e]]
      fun (r : AV) (H' : List AObj) =>
      ∃ (x : Int),
        r = AV.int .i64 x ∧
         H' = [AObj.cells [.sl 1 (.map encB (0 : UInt8) bs) .none, .int .i64 p, AV.int .i64 e]] ∧
         condP (x != (0 : Int)) (Post (.int .i64 x) [AObj.cells [.sl 1 (.map encB (0 : UInt8) bs) .none, .int .i64 p, AV.int .i64 e]])
         (ASpec Tryz.prog 162 [.ptr 0 0] [AObj.cells [.sl 1 (.map encB (0 : UInt8) bs) .none, .int .i64 p, AV.int .i64 e]]
         fun (r : AV) (H' : List AObj) =>
         ∃ (x : Int),
         r = AV.int .i64 x ∧
         H' = [AObj.cells [.sl 1 (.map encB (0 : UInt8) bs) .none, .int .i64 p, AV.int .i64 e]] ∧
         condP (decide (x > (0 : Int)))
         (Post (.int .i64 (3 : Int)) [AObj.cells [.sl 1 (.map encB (0 : UInt8) bs) .none, .int .i64 p, AV.int .i64 e]])
         (Post (.int .i64 (0 : Int)) [AObj.cells [.sl 1 (.map encB (0 : UInt8) bs) .none, .int .i64 p, AV.int .i64 e]]))) →
    ASpec Tryz.prog 133 [.ptr 0 0] [rd bs p e] Post := fun bs p e Post h => Go.Ab.ASpec.of_vc g133 Go.Proofs.Tryz.func133 (by kernel_rfl) (by kernel_rfl) (by kernel_rfl) (Go.Ab.kc (by kernel_rfl) h)
noncomputable def l136 : Nat → List Nat
  | _ => []
noncomputable def u136 : Nat → Bool
  | _ => false
noncomputable def m136 : Nat → Bool
  | _ => false
noncomputable def g136 : Cfg := { N := 37, live := l136, cut := u136, mu := m136, ret := rets }
theorem s136 : ∀ (s : ByteArray) (e most : Int) (Post : AV → List AObj → Prop),
  condP (e != (0 : Int)) (Post (.int .i64 (0 : Int)) [AObj.cells [.str s, AV.int .i64 e]])
      (ASpec Tryz.prog 163 [.str s, AV.int .i64 most] [AObj.cells [.str s, AV.int .i64 e]] fun (r : AV) (H' : List AObj) =>
        ∃ (x : Int × Int × Int),
         r = AV.tup [.int .i64 (Prod.fst x), .int .i64 (Prod.fst (Prod.snd x)), .int .i64 (Prod.snd (Prod.snd x))] ∧
         H' = [AObj.cells [.str s, AV.int .i64 e]] ∧
         needP ((0 : Int) ≤ Prod.fst (Prod.snd x) ∧ Prod.fst (Prod.snd x) ≤ (↑(ByteArray.size s) : Int))
         (Post (.int .i64 (Prod.fst x))
         [AObj.cells [.str (ByteArray.extract s (Int.toNat (Prod.fst (Prod.snd x))) (ByteArray.size s)), .int .i64 (Prod.snd (Prod.snd x))]])) →
    ASpec Tryz.prog 136 [.ptr 0 0, .int .i64 most] [AObj.cells [.str s, AV.int .i64 e]] Post := fun s e most Post h => Go.Ab.ASpec.of_vc g136 Go.Proofs.Tryz.func136 (by kernel_rfl) (by kernel_rfl) (by kernel_rfl) (Go.Ab.kc (by kernel_rfl) h)

-- 135
noncomputable def l135 : Nat → List Nat
  | _ => []
noncomputable def u135 : Nat → Bool
  | _ => false
noncomputable def m135 : Nat → Bool
  | _ => false
noncomputable def g135 : Cfg := { N := 64, live := l135, cut := u135, mu := m135, ret := rets }
theorem s135 : ∀ (s : ByteArray) (e most : Int) (Post : AV → List AObj → Prop),
  condP (e != (0 : Int)) (Post (.str { data := #[] }) [AObj.cells [.str s, AV.int .i64 e]])
      (ASpec Tryz.prog 163 [.str s, AV.int .i64 most] [AObj.cells [.str s, AV.int .i64 e]] fun (r : AV) (H' : List AObj) =>
        ∃ (x : Int × Int × Int),
         r = AV.tup [.int .i64 (Prod.fst x), .int .i64 (Prod.fst (Prod.snd x)), .int .i64 (Prod.snd (Prod.snd x))] ∧
         H' = [AObj.cells [.str s, AV.int .i64 e]] ∧
         condP (Prod.snd (Prod.snd x) == (0 : Int))
         (condP (decide (Prod.fst x > IntKind.wrap .i64 ((↑(ByteArray.size s) : Int) - Prod.fst (Prod.snd x))))
         (Post (.str { data := #[] }) [AObj.cells [.str s, AV.int .i64 (2 : Int)]])
         (condP (Prod.snd (Prod.snd x) != (0 : Int)) (Post (.str { data := #[] }) [AObj.cells [.str s, AV.int .i64 (Prod.snd (Prod.snd x))]])
         (needP
         ((0 : Int) ≤ Prod.fst (Prod.snd x) ∧
         Prod.fst (Prod.snd x) ≤ IntKind.wrap .i64 (Prod.fst (Prod.snd x) + Prod.fst x) ∧
         IntKind.wrap .i64 (Prod.fst (Prod.snd x) + Prod.fst x) ≤ (↑(ByteArray.size s) : Int))
         (needP ((0 : Int) ≤ IntKind.wrap .i64 (Prod.fst (Prod.snd x) + Prod.fst x) ∧ IntKind.wrap .i64 (Prod.fst (Prod.snd x) + Prod.fst x) ≤ (↑(ByteArray.size s) : Int))
         (Post (.str (ByteArray.extract s (Int.toNat (Prod.fst (Prod.snd x))) (Int.toNat (IntKind.wrap .i64 (Prod.fst (Prod.snd x) + Prod.fst x)))))
         [AObj.cells
         [.str (ByteArray.extract s (Int.toNat (IntKind.wrap .i64 (Prod.fst (Prod.snd x) + Prod.fst x))) (ByteArray.size s)),
         AV.int .i64 (Prod.snd (Prod.snd x))]])))))
         (condP (Prod.snd (Prod.snd x) != (0 : Int)) (Post (.str { data := #[] }) [AObj.cells [.str s, AV.int .i64 (Prod.snd (Prod.snd x))]])
         (needP
         ((0 : Int) ≤ Prod.fst (Prod.snd x) ∧
         Prod.fst (Prod.snd x) ≤ IntKind.wrap .i64 (Prod.fst (Prod.snd x) + Prod.fst x) ∧
         IntKind.wrap .i64 (Prod.fst (Prod.snd x) + Prod.fst x) ≤ (↑(ByteArray.size s) : Int))
         (needP ((0 : Int) ≤ IntKind.wrap .i64 (Prod.fst (Prod.snd x) + Prod.fst x) ∧ IntKind.wrap .i64 (Prod.fst (Prod.snd x) + Prod.fst x) ≤ (↑(ByteArray.size s) : Int))
         (Post (.str (ByteArray.extract s (Int.toNat (Prod.fst (Prod.snd x))) (Int.toNat (IntKind.wrap .i64 (Prod.fst (Prod.snd x) + Prod.fst x)))))
         [AObj.cells
         [.str (ByteArray.extract s (Int.toNat (IntKind.wrap .i64 (Prod.fst (Prod.snd x) + Prod.fst x))) (ByteArray.size s)),
         AV.int .i64 (Prod.snd (Prod.snd x))]]))))) →
    ASpec Tryz.prog 135 [.ptr 0 0, .int .i64 most] [AObj.cells [.str s, AV.int .i64 e]] Post := fun s e most Post h => Go.Ab.ASpec.of_vc g135 Go.Proofs.Tryz.func135 (by kernel_rfl) (by kernel_rfl) (by kernel_rfl) (Go.Ab.kc (by kernel_rfl) h)

-- 138
noncomputable def l138 : Nat → List Nat
  | _ => []
noncomputable def u138 : Nat → Bool
  | _ => false
noncomputable def m138 : Nat → Bool
  | _ => false
noncomputable def g138 : Cfg := { N := 19, live := l138, cut := u138, mu := m138, ret := rets }
theorem s138 : ∀ (s : ByteArray) (e : Int) (Post : AV → List AObj → Prop),
  condP (e == (0 : Int))
      (condP (!ByteArray.toList s == ByteArray.toList { data := #[] }) (Post (.int .i64 (3 : Int)) [AObj.cells [.str s, AV.int .i64 e]])
        (Post (.int .i64 e) [AObj.cells [.str s, AV.int .i64 e]]))
      (Post (.int .i64 e) [AObj.cells [.str s, AV.int .i64 e]]) →
    ASpec Tryz.prog 138 [.ptr 0 0] [AObj.cells [.str s, AV.int .i64 e]] Post := fun s e Post h => Go.Ab.ASpec.of_vc g138 Go.Proofs.Tryz.func138 (by kernel_rfl) (by kernel_rfl) (by kernel_rfl) (Go.Ab.kc (by kernel_rfl) h)

-- 160
noncomputable def l160 : Nat → List Nat
  | 9 => [0, 1, 6, 44]
  | _ => []
noncomputable def u160 : Nat → Bool
  | _ => false
noncomputable def m160 : Nat → Bool
  | _ => false
noncomputable def g160 : Cfg := { N := 113, live := l160, cut := u160, mu := m160, ret := rets }
noncomputable def c160 : Go.Code := Go.Ab.bodyOf Go.Proofs.Tryz.f160
noncomputable def q160_0 : Nat → (AV → List AObj → Prop) → AQ := fun (n : Nat) (Post : AV → List AObj → Prop) => endQ Tryz.prog (resultsOf Tryz.f160) Post
noncomputable def q160_1 : Nat → (AV → List AObj → Prop) → AQ := fun (n : Nat) (Post : AV → List AObj → Prop) => seqQ (fun (s' : Slots) (H' : List AObj) => awp Tryz.prog g160 n (codeSnd (codeSnd (codeSnd (codeSnd (codeSnd c160))))) s' H' (q160_0 n Post)) (q160_0 n Post)
noncomputable def q160_2 : Nat → (AV → List AObj → Prop) → AQ := fun (n : Nat) (Post : AV → List AObj → Prop) => blockQ 0 (q160_1 n Post)
noncomputable def c160_9 : Go.Code := codeFst (codeSnd (codeFst (codeSnd (codeSnd (codeSnd (codeSnd c160))))))
theorem s160 : ∀ (bs : List UInt8) (p e most : Int) (Post : AV → List AObj → Prop),
  condP (p == (↑(List.length bs) : Int))
      ((AV.int .i64 p = AV.int .i64 p ∧
         [AObj.cells [.sl 1 (.map encB (0 : UInt8) bs) .none, .int .i64 p, AV.int .i64 (2 : Int)]] =
         [AObj.cells [.sl 1 (.map encB (0 : UInt8) bs) .none, .int .i64 p, AV.int .i64 (2 : Int)]]) ∧
        Post (.tup [.int .i64 (0 : Int), .int .i64 p]) [AObj.cells [.sl 1 (.map encB (0 : UInt8) bs) .none, .int .i64 p, AV.int .i64 (2 : Int)]])
      (needP ((0 : Int) ≤ p ∧ p < (↑(List.length bs) : Int))
        (condP ((↑(UInt8.toNat (List.getD bs (Int.toNat p) (0 : UInt8))) : Int) == (128 : Int))
         ((AV.int .i64 p = AV.int .i64 p ∧
         [AObj.cells [.sl 1 (.map encB (0 : UInt8) bs) .none, .int .i64 p, AV.int .i64 (3 : Int)]] =
         [AObj.cells [.sl 1 (.map encB (0 : UInt8) bs) .none, .int .i64 p, AV.int .i64 (3 : Int)]]) ∧
         Post (.tup [.int .i64 (0 : Int), .int .i64 p])
         [AObj.cells [.sl 1 (.map encB (0 : UInt8) bs) .none, .int .i64 p, AV.int .i64 (3 : Int)]])
         (AWP Tryz.prog 113 1 c160_9
         [(0, .ptr 0 0), (1, .int .i64 most), (6, .int .i64 (0 : Int)), (44, .int .i64 (0 : Int))]
         [AObj.cells [.sl 1 (.map encB (0 : UInt8) bs) .none, .int .i64 p, AV.int .i64 e]] (q160_2 1 Post)))) →
    ASpec Tryz.prog 160 [.ptr 0 0, .int .i64 most] [rd bs p e] Post := fun bs p e most Post h => Go.Ab.ASpec.of_vc g160 Go.Proofs.Tryz.func160 (by kernel_rfl) (by kernel_rfl) (by kernel_rfl) (Go.Ab.kc (by kernel_rfl) h)
theorem v160_9 : ∀ (bs : List UInt8) (p e most x i : Int) (n : Nat) (Post : AV → List AObj → Prop),
  condP (decide (i < (6 : Int)))
      (condP (IntKind.wrap .i64 (p + i) == (↑(List.length bs) : Int))
        ((AV.int .i64 p = AV.int .i64 p ∧
         [AObj.cells [.sl 1 (.map encB (0 : UInt8) bs) .none, .int .i64 p, AV.int .i64 (2 : Int)]] =
         [AObj.cells [.sl 1 (.map encB (0 : UInt8) bs) .none, .int .i64 p, AV.int .i64 (2 : Int)]]) ∧
         Post (.tup [.int .i64 (0 : Int), .int .i64 p]) [AObj.cells [.sl 1 (.map encB (0 : UInt8) bs) .none, .int .i64 p, AV.int .i64 (2 : Int)]])
        (needP ((0 : Int) ≤ IntKind.wrap .i64 (p + i) ∧ IntKind.wrap .i64 (p + i) < (↑(List.length bs) : Int))
         (needP ((128 : Int) ≠ (0 : Int))
         (condP (decide (IntKind.wrap .i64 (↑(UInt8.toNat (List.getD bs (Int.toNat (IntKind.wrap .i64 (p + i))) (0 : UInt8))) : Int) ≥ (128 : Int)))
         (AWP Tryz.prog 113 n c160_9
         [(0, .ptr 0 0), (1, .int .i64 most),
         (6,
         AV.int .i64
         (IntKind.wrap .i64
         (IntKind.wrap .i64 (x * (128 : Int)) +
         Int.tmod (IntKind.wrap .i64 (↑(UInt8.toNat (List.getD bs (Int.toNat (IntKind.wrap .i64 (p + i))) (0 : UInt8))) : Int)) (128 : Int)))),
         (44, .int .i64 (IntKind.wrap .i64 (i + (1 : Int))))]
         [AObj.cells [.sl 1 (.map encB (0 : UInt8) bs) .none, .int .i64 p, AV.int .i64 e]] (q160_2 n Post))
         (condP
         (decide
         (IntKind.wrap .i64
         (IntKind.wrap .i64 (x * (128 : Int)) +
         Int.tmod (IntKind.wrap .i64 (↑(UInt8.toNat (List.getD bs (Int.toNat (IntKind.wrap .i64 (p + i))) (0 : UInt8))) : Int)) (128 : Int)) >
         if (1099511627776 : Int) < most then (1099511627776 : Int) else most))
         ((AV.int .i64 p = AV.int .i64 p ∧
         [AObj.cells [.sl 1 (.map encB (0 : UInt8) bs) .none, .int .i64 p, AV.int .i64 (4 : Int)]] =
         [AObj.cells [.sl 1 (.map encB (0 : UInt8) bs) .none, .int .i64 p, AV.int .i64 (4 : Int)]]) ∧
         Post (.tup [.int .i64 (0 : Int), .int .i64 p])
         [AObj.cells [.sl 1 (.map encB (0 : UInt8) bs) .none, .int .i64 p, AV.int .i64 (4 : Int)]])
         ((AV.int .i64 p = AV.int .i64 p ∧
         [AObj.cells [.sl 1 (.map encB (0 : UInt8) bs) .none, .int .i64 p, AV.int .i64 e]] =
         [AObj.cells [.sl 1 (.map encB (0 : UInt8) bs) .none, .int .i64 p, AV.int .i64 e]]) ∧
         Post
         (AV.tup
         [.int .i64
         (IntKind.wrap .i64
         (IntKind.wrap .i64 (x * (128 : Int)) +
         Int.tmod (IntKind.wrap .i64 (↑(UInt8.toNat (List.getD bs (Int.toNat (IntKind.wrap .i64 (p + i))) (0 : UInt8))) : Int)) (128 : Int))),
         AV.int .i64 (IntKind.wrap .i64 (IntKind.wrap .i64 (p + i) + (1 : Int)))])
         [AObj.cells [.sl 1 (.map encB (0 : UInt8) bs) .none, .int .i64 p, AV.int .i64 e]]))))))
      ((AV.int .i64 p = AV.int .i64 p ∧
         [AObj.cells [.sl 1 (.map encB (0 : UInt8) bs) .none, .int .i64 p, AV.int .i64 (4 : Int)]] =
         [AObj.cells [.sl 1 (.map encB (0 : UInt8) bs) .none, .int .i64 p, AV.int .i64 (4 : Int)]]) ∧
        Post (.tup [.int .i64 (0 : Int), .int .i64 p]) [AObj.cells [.sl 1 (.map encB (0 : UInt8) bs) .none, .int .i64 p, AV.int .i64 (4 : Int)]]) →
    AWP Tryz.prog 113 n c160_9 [(0, .ptr 0 0), (1, .int .i64 most), (6, .int .i64 x), (44, .int .i64 i)]
      [rd bs p e] (q160_2 n Post) := fun bs p e most x i n Post h => Go.Ab.AWP.loop' g160 (Cfg.live g160) c160_9 (by kernel_rfl) (by kernel_rfl) (Go.Ab.kc (by kernel_rfl) h)

-- 163
noncomputable def l163 : Nat → List Nat
  | 6 => [0, 1, 7]
  | 14 => [0, 1, 7, 8, 9]
  | _ => []
noncomputable def u163 : Nat → Bool
  | _ => false
noncomputable def m163 : Nat → Bool
  | _ => false
noncomputable def g163 : Cfg := { N := 60, live := l163, cut := u163, mu := m163, ret := rets }
noncomputable def c163 : Go.Code := Go.Ab.bodyOf Go.Proofs.Tryz.f163
noncomputable def q163_0 : Nat → (AV → List AObj → Prop) → AQ := fun (n : Nat) (Post : AV → List AObj → Prop) => endQ Tryz.prog (resultsOf Tryz.f163) Post
noncomputable def q163_1 : Nat → (AV → List AObj → Prop) → AQ := fun (n : Nat) (Post : AV → List AObj → Prop) => seqQ (fun (s' : Slots) (H' : List AObj) => awp Tryz.prog g163 n (codeSnd (codeSnd (codeSnd (codeSnd (codeSnd c163))))) s' H' (q163_0 n Post)) (q163_0 n Post)
noncomputable def q163_2 : Nat → (AV → List AObj → Prop) → AQ := fun (n : Nat) (Post : AV → List AObj → Prop) => blockQ 0 (q163_1 n Post)
noncomputable def c163_6 : Go.Code := codeFst (codeFst (codeSnd (codeSnd (codeSnd (codeSnd c163)))))
theorem s163 : ∀ (s : ByteArray) (most : Int) (Post : AV → List AObj → Prop),
  condP (ByteArray.toList s == ByteArray.toList { data := #[] }) (Post (.tup [.int .i64 (0 : Int), .int .i64 (0 : Int), .int .i64 (2 : Int)]) [])
      (needP ((0 : Int) ≤ (0 : Int) ∧ (0 : Int) < (↑(ByteArray.size s) : Int))
        (condP ((↑(UInt8.toNat (List.getD (Array.toList (ByteArray.data s)) 0 (0 : UInt8))) : Int) == (128 : Int))
         (Post (.tup [.int .i64 (0 : Int), .int .i64 (0 : Int), .int .i64 (3 : Int)]) [])
         (AWP Tryz.prog 60 0 c163_6 [(0, .str s), (1, .int .i64 most), (7, .int .i64 (0 : Int))] [] (q163_2 0 Post)))) →
    ASpec Tryz.prog 163 [.str s, AV.int .i64 most] [] Post := fun s most Post h => Go.Ab.ASpec.of_vc g163 Go.Proofs.Tryz.func163 (by kernel_rfl) (by kernel_rfl) (by kernel_rfl) (Go.Ab.kc (by kernel_rfl) h)
noncomputable def q163_3 : Nat → (AV → List AObj → Prop) → AQ := fun (n : Nat) (Post : AV → List AObj → Prop) => seqQ (fun (s' : Slots) (H' : List AObj) => awp Tryz.prog g163 n (codeSnd (codeSnd (codeSnd (codeSnd (codeSnd (codeSnd (codeSnd (codeSnd (codeSnd c163))))))))) s' H' (q163_0 n Post)) (q163_0 n Post)
noncomputable def q163_4 : Nat → (AV → List AObj → Prop) → AQ := fun (n : Nat) (Post : AV → List AObj → Prop) => blockQ 2 (q163_3 n Post)
noncomputable def c163_14 : Go.Code := codeFst (codeSnd (codeFst (codeSnd (codeSnd (codeSnd (codeSnd (codeSnd (codeSnd (codeSnd (codeSnd c163))))))))))
theorem v163_6 : ∀ (s : ByteArray) (most k : Int) (n : Nat) (Post : AV → List AObj → Prop),
  condP (decide (k < (↑(ByteArray.size s) : Int)))
      (condP (decide (k < (6 : Int)))
        (needP ((0 : Int) ≤ k ∧ k < (↑(ByteArray.size s) : Int))
         (condP (decide ((↑(UInt8.toNat (List.getD (Array.toList (ByteArray.data s)) (Int.toNat k) (0 : UInt8))) : Int) ≥ (128 : Int)))
         (AWP Tryz.prog 60 n c163_6 [(0, .str s), (1, .int .i64 most), (7, .int .i64 (IntKind.wrap .i64 (k + (1 : Int))))] []
         (q163_2 n Post))
         (condP (k == (6 : Int)) (Post (.tup [.int .i64 (0 : Int), .int .i64 (0 : Int), .int .i64 (4 : Int)]) [])
         (condP (k == (↑(ByteArray.size s) : Int)) (Post (.tup [.int .i64 (0 : Int), .int .i64 (0 : Int), .int .i64 (2 : Int)]) [])
         (AWP Tryz.prog 60 n c163_14
         [(0, .str s), (1, .int .i64 most), (7, .int .i64 k), (8, .int .i64 (0 : Int)), (9, .int .i64 (0 : Int))]
         [] (q163_4 n Post))))))
        (condP (k == (6 : Int)) (Post (.tup [.int .i64 (0 : Int), .int .i64 (0 : Int), .int .i64 (4 : Int)]) [])
         (condP (k == (↑(ByteArray.size s) : Int)) (Post (.tup [.int .i64 (0 : Int), .int .i64 (0 : Int), .int .i64 (2 : Int)]) [])
         (AWP Tryz.prog 60 n c163_14
         [(0, .str s), (1, .int .i64 most), (7, .int .i64 k), (8, .int .i64 (0 : Int)), (9, .int .i64 (0 : Int))] []
         (q163_4 n Post)))))
      (condP (k == (6 : Int)) (Post (.tup [.int .i64 (0 : Int), .int .i64 (0 : Int), .int .i64 (4 : Int)]) [])
        (condP (k == (↑(ByteArray.size s) : Int)) (Post (.tup [.int .i64 (0 : Int), .int .i64 (0 : Int), .int .i64 (2 : Int)]) [])
         (AWP Tryz.prog 60 n c163_14
         [(0, .str s), (1, .int .i64 most), (7, .int .i64 k), (8, .int .i64 (0 : Int)), (9, .int .i64 (0 : Int))] []
         (q163_4 n Post)))) →
    AWP Tryz.prog 60 n c163_6 [(0, .str s), (1, .int .i64 most), (7, .int .i64 k)] [] (q163_2 n Post) := fun s most k n Post h => Go.Ab.AWP.loop' g163 (Cfg.live g163) c163_6 (by kernel_rfl) (by kernel_rfl) (Go.Ab.kc (by kernel_rfl) h)
theorem v163_14 : ∀ (s : ByteArray) (most k x i : Int) (n : Nat) (Post : AV → List AObj → Prop),
  condP (decide (i ≤ k))
      (needP ((0 : Int) ≤ i ∧ i < (↑(ByteArray.size s) : Int))
        (needP ((128 : Int) ≠ (0 : Int))
         (AWP Tryz.prog 60 n c163_14
         [(0, .str s), (1, .int .i64 most), (7, .int .i64 k),
         (8,
         AV.int .i64
         (IntKind.wrap .i64
         (IntKind.wrap .i64 (x * (128 : Int)) +
         IntKind.wrap .i64 (Int.tmod (↑(UInt8.toNat (List.getD (Array.toList (ByteArray.data s)) (Int.toNat i) (0 : UInt8))) : Int) (128 : Int))))),
         (9, .int .i64 (IntKind.wrap .i64 (i + (1 : Int))))]
         [] (q163_4 n Post))))
      (condP (decide (x > (1099511627776 : Int))) (Post (.tup [.int .i64 (0 : Int), .int .i64 (0 : Int), .int .i64 (4 : Int)]) [])
        (condP (decide (x > most)) (Post (.tup [.int .i64 (0 : Int), .int .i64 (0 : Int), .int .i64 (4 : Int)]) [])
         (Post (.tup [.int .i64 x, AV.int .i64 (IntKind.wrap .i64 (k + (1 : Int))), .int .i64 (0 : Int)]) []))) →
    AWP Tryz.prog 60 n c163_14
      [(0, .str s), (1, .int .i64 most), (7, .int .i64 k), (8, .int .i64 x), (9, .int .i64 i)] [] (q163_4 n Post) := fun s most k x i n Post h => Go.Ab.AWP.loop' g163 (Cfg.live g163) c163_14 (by kernel_rfl) (by kernel_rfl) (Go.Ab.kc (by kernel_rfl) h)

end
end V
end

section
/- Spans, needs, releases and manifests as cells. -/

open Go Go.Ab Go.Proofs
namespace T
abbrev Span := Int × Int
abbrev Need := List UInt8 × List Span
abbrev Rel := Int × List Need
abbrev Mani := List UInt8 × List Rel
noncomputable def encS (x : Span) : List AV := [.int .i64 x.1, .int .i64 x.2]
noncomputable def encN (x : Need) : List AV := [.str ⟨x.1.toArray⟩, .sl 2 (.map encS (0, 0) x.2) .none]
noncomputable def encR (x : Rel) : List AV := [.int .i64 x.1, .sl 2 (.map encN ([], []) x.2) .none]
noncomputable def encM (x : Mani) : List AV := [.str ⟨x.1.toArray⟩, .sl 2 (.map encR (0, []) x.2) .none]
end T
end

section
/- Printed: what the code of functions 167, 30, 150, 7, 134, 139, 41, 6 asks for, by the framework's own reading of it; each line is checked against the code. -/

set_option linter.unusedVariables false
set_option maxRecDepth 100000
set_option maxHeartbeats 4000000
open Go Go.Ab Go.Proofs
namespace C
noncomputable section

noncomputable def retC : List (Nat × Ret) := [
  (29, ⟨Bool, fun _ _ x => .bool x, fun _ H _ => H⟩), (9066, ⟨Bool, fun _ _ x => .bool x, fun _ H _ => H⟩), (9062, ⟨Bool, fun _ _ x => .bool x, fun _ H _ => H⟩), (139, ⟨Bool, fun _ _ x => .bool x, fun _ H _ => H⟩),
  (59, ⟨Bool, fun _ _ x => .bool x, fun _ H _ => H⟩), (6, ⟨Bool, fun _ _ x => .bool x, fun _ H _ => H⟩), (134, ⟨Bool, fun _ _ x => .bool x, fun _ H _ => H⟩), (9173, ⟨Bool, fun _ _ x => .bool x, fun _ H _ => H⟩),
  (41, ⟨Bool, fun _ _ x => .bool x, fun _ H _ => H⟩), (7, ⟨Bool, fun _ _ x => .bool x, fun _ H _ => H⟩), (9163, ⟨Bool, fun _ _ x => .bool x, fun _ H _ => H⟩), (150, ⟨Bool, fun _ _ x => .bool x, fun _ H _ => H⟩),
  (30, ⟨Bool, fun _ _ x => .bool x, fun _ H _ => H⟩), (167, ⟨Bool, fun _ _ x => .bool x, fun _ H _ => H⟩)]
noncomputable def rets : FuncId → List Ret := lookupR (retC ++ V.retL)

-- 167
noncomputable def l167 : Nat → List Nat
  | 3 => [3, 6, 7, 8]
  | _ => []
noncomputable def u167 : Nat → Bool
  | _ => false
noncomputable def m167 : Nat → Bool
  | _ => false
noncomputable def g167 : Cfg := { N := 31, live := l167, cut := u167, mu := m167, ret := rets }
noncomputable def c167 : Go.Code := Go.Ab.bodyOf Go.Proofs.Tryz.f167
noncomputable def q167_0 : Nat → (AV → List AObj → Prop) → AQ := fun (n : Nat) (Post : AV → List AObj → Prop) => endQ Tryz.prog (resultsOf Tryz.f167) Post
noncomputable def q167_1 : Nat → (AV → List AObj → Prop) → AQ := fun (n : Nat) (Post : AV → List AObj → Prop) => seqQ (fun (s' : Slots) (H' : List AObj) => awp Tryz.prog g167 n (codeSnd (codeSnd (codeSnd c167))) s' H' (q167_0 n Post)) (q167_0 n Post)
noncomputable def q167_2 : Nat → (AV → List AObj → Prop) → AQ := fun (n : Nat) (Post : AV → List AObj → Prop) => blockQ 0 (q167_1 n Post)
noncomputable def c167_3 : Go.Code := codeFst (codeSnd (codeFst (codeSnd (codeSnd c167))))
theorem s167 : ∀ (l : List T.Span) (Post : AV → List AObj → Prop),
  AWP Tryz.prog 31 0 c167_3
      [(3, .int .i64 (-1 : Int)), (6, .sl 2 (.map T.encS ((0 : Int), (0 : Int)) l) .none), (7, .int .i64 (↑(List.length l) : Int)),
        (8, .int .i64 (0 : Int))]
      [] (q167_2 0 Post) →
    ASpec Tryz.prog 167 [.sl 2 (.map T.encS ((0 : Int), (0 : Int)) l) .none] [] Post := fun l Post h => Go.Ab.ASpec.of_vc g167 Go.Proofs.Tryz.func167 (by kernel_rfl) (by kernel_rfl) (by kernel_rfl) (Go.Ab.kc (by kernel_rfl) h)
theorem v167_3 : ∀ (l : List T.Span) (e n i : Int) (n_1 : Nat) (Post : AV → List AObj → Prop),
  condP (decide (i < n))
      (needP ((0 : Int) ≤ i ∧ i < (↑(List.length l) : Int))
        (condP (decide (Prod.fst (List.getD l (Int.toNat i) ((0 : Int), (0 : Int))) ≤ e))
         (Post (.bool false)
         [AObj.cells [.int .i64 (Prod.fst (List.getD l (Int.toNat i) ((0 : Int), (0 : Int)))), .int .i64 (Prod.snd (List.getD l (Int.toNat i) ((0 : Int), (0 : Int))))]])
         (condP (decide (Prod.fst (List.getD l (Int.toNat i) ((0 : Int), (0 : Int))) ≥ Prod.snd (List.getD l (Int.toNat i) ((0 : Int), (0 : Int)))))
         (Post (.bool false)
         [AObj.cells [.int .i64 (Prod.fst (List.getD l (Int.toNat i) ((0 : Int), (0 : Int)))), .int .i64 (Prod.snd (List.getD l (Int.toNat i) ((0 : Int), (0 : Int))))]])
         (condP (decide (Prod.snd (List.getD l (Int.toNat i) ((0 : Int), (0 : Int))) > (1000000000 : Int)))
         (Post (.bool false)
         [AObj.cells [.int .i64 (Prod.fst (List.getD l (Int.toNat i) ((0 : Int), (0 : Int)))), .int .i64 (Prod.snd (List.getD l (Int.toNat i) ((0 : Int), (0 : Int))))]])
         (AWP Tryz.prog 31 n_1 c167_3
         [(3, .int .i64 (Prod.snd (List.getD l (Int.toNat i) ((0 : Int), (0 : Int))))), (6, .sl 2 (.map T.encS ((0 : Int), (0 : Int)) l) .none),
         (7, .int .i64 n), (8, .int .i64 (IntKind.wrap .i64 (i + (1 : Int))))]
         [AObj.cells [.int .i64 (Prod.fst (List.getD l (Int.toNat i) ((0 : Int), (0 : Int)))), .int .i64 (Prod.snd (List.getD l (Int.toNat i) ((0 : Int), (0 : Int))))]]
         (q167_2 n_1 Post))))))
      (Post (.bool true) []) →
    AWP Tryz.prog 31 n_1 c167_3
      [(3, .int .i64 e), (6, .sl 2 (.map T.encS ((0 : Int), (0 : Int)) l) .none), (7, .int .i64 n), (8, .int .i64 i)] []
      (q167_2 n_1 Post) := fun l e n i n Post h => Go.Ab.AWP.loop' g167 (Cfg.live g167) c167_3 (by kernel_rfl) (by kernel_rfl) (Go.Ab.kc (by kernel_rfl) h)

-- 30
noncomputable def l30 : Nat → List Nat
  | 2 => [0, 3]
  | _ => []
noncomputable def u30 : Nat → Bool
  | _ => false
noncomputable def m30 : Nat → Bool
  | _ => false
noncomputable def g30 : Cfg := { N := 55, live := l30, cut := u30, mu := m30, ret := rets }
noncomputable def c30 : Go.Code := Go.Ab.bodyOf Go.Proofs.Tryz.f30
noncomputable def q30_0 : Nat → (AV → List AObj → Prop) → AQ := fun (n : Nat) (Post : AV → List AObj → Prop) => endQ Tryz.prog (resultsOf Tryz.f30) Post
noncomputable def q30_1 : Nat → (AV → List AObj → Prop) → AQ := fun (n : Nat) (Post : AV → List AObj → Prop) => seqQ (fun (s' : Slots) (H' : List AObj) => awp Tryz.prog g30 n (codeSnd (codeSnd c30)) s' H' (q30_0 n Post)) (q30_0 n Post)
noncomputable def q30_2 : Nat → (AV → List AObj → Prop) → AQ := fun (n : Nat) (Post : AV → List AObj → Prop) => blockQ 0 (q30_1 n Post)
noncomputable def c30_2 : Go.Code := codeFst (codeSnd (codeFst (codeSnd c30)))
theorem s30 : ∀ (l : List T.Span) (Post : AV → List AObj → Prop),
  AWP Tryz.prog 55 0 c30_2 [(0, .sl 2 (.map T.encS ((0 : Int), (0 : Int)) l) .none), (3, .int .i64 (0 : Int))] [] (q30_2 0 Post) →
    ASpec Tryz.prog 30 [.sl 2 (.map T.encS ((0 : Int), (0 : Int)) l) .none] [] Post := fun l Post h => Go.Ab.ASpec.of_vc g30 Go.Proofs.Tryz.func30 (by kernel_rfl) (by kernel_rfl) (by kernel_rfl) (Go.Ab.kc (by kernel_rfl) h)
theorem v30_2 : ∀ (l : List T.Span) (i : Int) (n : Nat) (Post : AV → List AObj → Prop),
  condP (decide (i < (↑(List.length l) : Int)))
      (needP ((0 : Int) ≤ i ∧ i < (↑(List.length l) : Int))
        (condP (decide (Prod.fst (List.getD l (Int.toNat i) ((0 : Int), (0 : Int))) < (0 : Int))) (Post (.bool false) [])
         (needP ((0 : Int) ≤ i ∧ i < (↑(List.length l) : Int))
         (condP (decide (Prod.snd (List.getD l (Int.toNat i) ((0 : Int), (0 : Int))) > (1000000000 : Int))) (Post (.bool false) [])
         (needP ((0 : Int) ≤ i ∧ i < (↑(List.length l) : Int))
         (needP ((0 : Int) ≤ i ∧ i < (↑(List.length l) : Int))
         (condP (decide (Prod.fst (List.getD l (Int.toNat i) ((0 : Int), (0 : Int))) ≥ Prod.snd (List.getD l (Int.toNat i) ((0 : Int), (0 : Int))))) (Post (.bool false) [])
         (condP (decide (i > (0 : Int)))
         (needP ((0 : Int) ≤ i ∧ i < (↑(List.length l) : Int))
         (needP ((0 : Int) ≤ IntKind.wrap .i64 (i - (1 : Int)) ∧ IntKind.wrap .i64 (i - (1 : Int)) < (↑(List.length l) : Int))
         (condP
         (decide
         (Prod.fst (List.getD l (Int.toNat i) ((0 : Int), (0 : Int))) ≤ Prod.snd (List.getD l (Int.toNat (IntKind.wrap .i64 (i - (1 : Int)))) ((0 : Int), (0 : Int)))))
         (Post (.bool false) [])
         (AWP Tryz.prog 55 n c30_2
         [(0, .sl 2 (.map T.encS ((0 : Int), (0 : Int)) l) .none), (3, .int .i64 (IntKind.wrap .i64 (i + (1 : Int))))] []
         (q30_2 n Post)))))
         (AWP Tryz.prog 55 n c30_2
         [(0, .sl 2 (.map T.encS ((0 : Int), (0 : Int)) l) .none), (3, .int .i64 (IntKind.wrap .i64 (i + (1 : Int))))] []
         (q30_2 n Post))))))))))
      (Post (.bool true) []) →
    AWP Tryz.prog 55 n c30_2 [(0, .sl 2 (.map T.encS ((0 : Int), (0 : Int)) l) .none), (3, .int .i64 i)] [] (q30_2 n Post) := fun l i n Post h => Go.Ab.AWP.loop' g30 (Cfg.live g30) c30_2 (by kernel_rfl) (by kernel_rfl) (Go.Ab.kc (by kernel_rfl) h)

-- 150
noncomputable def l150 : Nat → List Nat
  | 3 => [0, 3, 6, 7, 8]
  | _ => []
noncomputable def u150 : Nat → Bool
  | _ => false
noncomputable def m150 : Nat → Bool
  | _ => false
noncomputable def g150 : Cfg := { N := 40, live := l150, cut := u150, mu := m150, ret := rets }
noncomputable def c150 : Go.Code := Go.Ab.bodyOf Go.Proofs.Tryz.f150
noncomputable def q150_0 : Nat → (AV → List AObj → Prop) → AQ := fun (n : Nat) (Post : AV → List AObj → Prop) => endQ Tryz.prog (resultsOf Tryz.f150) Post
noncomputable def q150_1 : Nat → (AV → List AObj → Prop) → AQ := fun (n : Nat) (Post : AV → List AObj → Prop) => seqQ (fun (s' : Slots) (H' : List AObj) => awp Tryz.prog g150 n (codeSnd (codeSnd (codeSnd c150))) s' H' (q150_0 n Post)) (q150_0 n Post)
noncomputable def q150_2 : Nat → (AV → List AObj → Prop) → AQ := fun (n : Nat) (Post : AV → List AObj → Prop) => blockQ 0 (q150_1 n Post)
noncomputable def c150_3 : Go.Code := codeFst (codeSnd (codeFst (codeSnd (codeSnd c150))))
theorem s150 : ∀ (l : List T.Need) (Post : AV → List AObj → Prop),
  AWP Tryz.prog 40 0 c150_3
      [(0, .sl 2 (.map T.encN ([], []) l) .none), (3, .str { data := #[] }), (6, .sl 2 (.map T.encN ([], []) l) .none),
        (7, .int .i64 (↑(List.length l) : Int)), (8, .int .i64 (0 : Int))]
      [] (q150_2 0 Post) →
    ASpec Tryz.prog 150 [.sl 2 (.map T.encN ([], []) l) .none] [] Post := fun l Post h => Go.Ab.ASpec.of_vc g150 Go.Proofs.Tryz.func150 (by kernel_rfl) (by kernel_rfl) (by kernel_rfl) (Go.Ab.kc (by kernel_rfl) h)
theorem v150_3 : ∀ (l : List T.Need) (s : ByteArray) (n i : Int) (n_1 : Nat) (Post : AV → List AObj → Prop),
  condP (decide (i < n))
      (needP ((0 : Int) ≤ i ∧ i < (↑(List.length l) : Int))
        (ASpec Tryz.prog 59 [AV.str { data := List.toArray (Prod.fst (List.getD l (Int.toNat i) ([], []))) }]
         [AObj.cells
         [AV.str { data := List.toArray (Prod.fst (List.getD l (Int.toNat i) ([], []))) },
         AV.sl 2 (.map T.encS ((0 : Int), (0 : Int)) (Prod.snd (List.getD l (Int.toNat i) ([], [])))) .none]]
         fun (r : AV) (H' : List AObj) =>
         ∃ (x : Bool),
         r = AV.bool x ∧
         H' =
         [AObj.cells
         [.str { data := List.toArray (Prod.fst (List.getD l (Int.toNat i) ([], []))) },
         AV.sl 2 (.map T.encS ((0 : Int), (0 : Int)) (Prod.snd (List.getD l (Int.toNat i) ([], [])))) .none]] ∧
         condP (!x)
         (Post (.bool false)
         [AObj.cells
         [.str { data := List.toArray (Prod.fst (List.getD l (Int.toNat i) ([], []))) },
         AV.sl 2 (.map T.encS ((0 : Int), (0 : Int)) (Prod.snd (List.getD l (Int.toNat i) ([], [])))) .none]])
         (condP
         (Op.bytesLess (ByteArray.toList { data := List.toArray (Prod.fst (List.getD l (Int.toNat i) ([], []))) }) (ByteArray.toList s) ||
         ByteArray.toList { data := List.toArray (Prod.fst (List.getD l (Int.toNat i) ([], []))) } == ByteArray.toList s)
         (Post (.bool false)
         [AObj.cells
         [.str { data := List.toArray (Prod.fst (List.getD l (Int.toNat i) ([], []))) },
         AV.sl 2 (.map T.encS ((0 : Int), (0 : Int)) (Prod.snd (List.getD l (Int.toNat i) ([], [])))) .none]])
         (condP (decide ((↑(List.length (Prod.snd (List.getD l (Int.toNat i) ([], [])))) : Int) > (6 : Int)))
         (Post (.bool false)
         [AObj.cells
         [.str { data := List.toArray (Prod.fst (List.getD l (Int.toNat i) ([], []))) },
         AV.sl 2 (.map T.encS ((0 : Int), (0 : Int)) (Prod.snd (List.getD l (Int.toNat i) ([], [])))) .none]])
         (ASpec Tryz.prog 167 [.sl 2 (.map T.encS ((0 : Int), (0 : Int)) (Prod.snd (List.getD l (Int.toNat i) ([], [])))) .none]
         [AObj.cells
         [AV.str { data := List.toArray (Prod.fst (List.getD l (Int.toNat i) ([], []))) },
         AV.sl 2 (.map T.encS ((0 : Int), (0 : Int)) (Prod.snd (List.getD l (Int.toNat i) ([], [])))) .none]]
         fun (r : AV) (H' : List AObj) =>
         ∃ (x : Bool),
         r = AV.bool x ∧
         H' =
         [AObj.cells
         [.str { data := List.toArray (Prod.fst (List.getD l (Int.toNat i) ([], []))) },
         AV.sl 2 (.map T.encS ((0 : Int), (0 : Int)) (Prod.snd (List.getD l (Int.toNat i) ([], [])))) .none]] ∧
         condP (!x)
         (Post (.bool false)
         [AObj.cells
         [.str { data := List.toArray (Prod.fst (List.getD l (Int.toNat i) ([], []))) },
         AV.sl 2 (.map T.encS ((0 : Int), (0 : Int)) (Prod.snd (List.getD l (Int.toNat i) ([], [])))) .none]])
         (AWP Tryz.prog 40 n_1 c150_3
         [(0, .sl 2 (.map T.encN ([], []) l) .none), (3, .str { data := List.toArray (Prod.fst (List.getD l (Int.toNat i) ([], []))) }),
         (6, .sl 2 (.map T.encN ([], []) l) .none), (7, .int .i64 n),
         (8, .int .i64 (IntKind.wrap .i64 (i + (1 : Int))))]
         [AObj.cells
         [.str { data := List.toArray (Prod.fst (List.getD l (Int.toNat i) ([], []))) },
         AV.sl 2 (.map T.encS ((0 : Int), (0 : Int)) (Prod.snd (List.getD l (Int.toNat i) ([], [])))) .none]]
         (q150_2 n_1 Post)))))))
      (Post (.bool (decide ((↑(List.length l) : Int) ≤ (6 : Int)))) []) →
    AWP Tryz.prog 40 n_1 c150_3
      [(0, .sl 2 (.map T.encN ([], []) l) .none), (3, .str s), (6, .sl 2 (.map T.encN ([], []) l) .none), (7, .int .i64 n),
        (8, .int .i64 i)]
      [] (q150_2 n_1 Post) := fun l s n i n Post h => Go.Ab.AWP.loop' g150 (Cfg.live g150) c150_3 (by kernel_rfl) (by kernel_rfl) (Go.Ab.kc (by kernel_rfl) h)

-- 7
noncomputable def l7 : Nat → List Nat
  | 2 => [0, 3]
  | _ => []
noncomputable def u7 : Nat → Bool
  | _ => false
noncomputable def m7 : Nat → Bool
  | _ => false
noncomputable def g7 : Cfg := { N := 56, live := l7, cut := u7, mu := m7, ret := rets }
noncomputable def c7 : Go.Code := Go.Ab.bodyOf Go.Proofs.Tryz.f7
noncomputable def q7_0 : Nat → (AV → List AObj → Prop) → AQ := fun (n : Nat) (Post : AV → List AObj → Prop) => endQ Tryz.prog (resultsOf Tryz.f7) Post
noncomputable def q7_1 : Nat → (AV → List AObj → Prop) → AQ := fun (n : Nat) (Post : AV → List AObj → Prop) => seqQ (fun (s' : Slots) (H' : List AObj) => awp Tryz.prog g7 n (codeSnd (codeSnd c7)) s' H' (q7_0 n Post)) (q7_0 n Post)
noncomputable def q7_2 : Nat → (AV → List AObj → Prop) → AQ := fun (n : Nat) (Post : AV → List AObj → Prop) => blockQ 0 (q7_1 n Post)
noncomputable def c7_2 : Go.Code := codeFst (codeSnd (codeFst (codeSnd c7)))
theorem s7 : ∀ (l : List T.Need) (Post : AV → List AObj → Prop),
  AWP Tryz.prog 56 0 c7_2 [(0, .sl 2 (.map T.encN ([], []) l) .none), (3, .int .i64 (0 : Int))] [] (q7_2 0 Post) →
    ASpec Tryz.prog 7 [.sl 2 (.map T.encN ([], []) l) .none] [] Post := fun l Post h => Go.Ab.ASpec.of_vc g7 Go.Proofs.Tryz.func7 (by kernel_rfl) (by kernel_rfl) (by kernel_rfl) (Go.Ab.kc (by kernel_rfl) h)
theorem v7_2 : ∀ (l : List T.Need) (i : Int) (n : Nat) (Post : AV → List AObj → Prop),
  condP (decide (i < (↑(List.length l) : Int)))
      (needP ((0 : Int) ≤ i ∧ i < (↑(List.length l) : Int))
        (ASpec Tryz.prog 29 [AV.str { data := List.toArray (Prod.fst (List.getD l (Int.toNat i) ([], []))) }] [] fun (r : AV) (H' : List AObj) =>
         ∃ (x : Bool),
         r = AV.bool x ∧
         H' = [] ∧
         condP (!x) (Post (.bool false) [])
         (needP ((0 : Int) ≤ i ∧ i < (↑(List.length l) : Int))
         (ASpec Tryz.prog 30 [AV.sl 2 (.map T.encS ((0 : Int), (0 : Int)) (Prod.snd (List.getD l (Int.toNat i) ([], [])))) .none] [] fun (r : AV) (H' : List AObj) =>
         ∃ (x : Bool),
         r = AV.bool x ∧
         H' = [] ∧
         condP (!x) (Post (.bool false) [])
         (needP ((0 : Int) ≤ i ∧ i < (↑(List.length l) : Int))
         (condP (decide ((↑(List.length (Prod.snd (List.getD l (Int.toNat i) ([], [])))) : Int) > (6 : Int))) (Post (.bool false) [])
         (condP (decide (i > (0 : Int)))
         (needP ((0 : Int) ≤ i ∧ i < (↑(List.length l) : Int))
         (needP ((0 : Int) ≤ IntKind.wrap .i64 (i - (1 : Int)) ∧ IntKind.wrap .i64 (i - (1 : Int)) < (↑(List.length l) : Int))
         (condP
         (Op.bytesLess (ByteArray.toList { data := List.toArray (Prod.fst (List.getD l (Int.toNat i) ([], []))) })
         (ByteArray.toList { data := List.toArray (Prod.fst (List.getD l (Int.toNat (IntKind.wrap .i64 (i - (1 : Int)))) ([], []))) }) ||
         ByteArray.toList { data := List.toArray (Prod.fst (List.getD l (Int.toNat i) ([], []))) } ==
         ByteArray.toList { data := List.toArray (Prod.fst (List.getD l (Int.toNat (IntKind.wrap .i64 (i - (1 : Int)))) ([], []))) })
         (Post (.bool false) [])
         (AWP Tryz.prog 56 n c7_2
         [(0, .sl 2 (.map T.encN ([], []) l) .none), (3, .int .i64 (IntKind.wrap .i64 (i + (1 : Int))))] []
         (q7_2 n Post)))))
         (AWP Tryz.prog 56 n c7_2
         [(0, .sl 2 (.map T.encN ([], []) l) .none), (3, .int .i64 (IntKind.wrap .i64 (i + (1 : Int))))] []
         (q7_2 n Post)))))))))
      (Post (.bool (decide ((↑(List.length l) : Int) ≤ (6 : Int)))) []) →
    AWP Tryz.prog 56 n c7_2 [(0, .sl 2 (.map T.encN ([], []) l) .none), (3, .int .i64 i)] [] (q7_2 n Post) := fun l i n Post h => Go.Ab.AWP.loop' g7 (Cfg.live g7) c7_2 (by kernel_rfl) (by kernel_rfl) (Go.Ab.kc (by kernel_rfl) h)

-- 134
noncomputable def l134 : Nat → List Nat
  | 3 => [1, 3, 7, 8, 9]
  | _ => []
noncomputable def u134 : Nat → Bool
  | _ => false
noncomputable def m134 : Nat → Bool
  | _ => false
noncomputable def g134 : Cfg := { N := 40, live := l134, cut := u134, mu := m134, ret := rets }
noncomputable def c134 : Go.Code := Go.Ab.bodyOf Go.Proofs.Tryz.f134
noncomputable def q134_0 : Nat → (AV → List AObj → Prop) → AQ := fun (n : Nat) (Post : AV → List AObj → Prop) => endQ Tryz.prog (resultsOf Tryz.f134) Post
noncomputable def q134_1 : Nat → (AV → List AObj → Prop) → AQ := fun (n : Nat) (Post : AV → List AObj → Prop) => seqQ (fun (s' : Slots) (H' : List AObj) => awp Tryz.prog g134 n (codeSnd (codeSnd (codeSnd c134))) s' H' (q134_0 n Post)) (q134_0 n Post)
noncomputable def q134_2 : Nat → (AV → List AObj → Prop) → AQ := fun (n : Nat) (Post : AV → List AObj → Prop) => blockQ 0 (q134_1 n Post)
noncomputable def c134_3 : Go.Code := codeFst (codeSnd (codeFst (codeSnd (codeSnd c134))))
theorem s134 : ∀ (m : T.Mani) (Post : AV → List AObj → Prop),
  AWP Tryz.prog 40 0 c134_3
      [(1, .ptr 0 0), (3, .int .i64 (-1 : Int)), (7, .sl 2 (.map T.encR ((0 : Int), []) (Prod.snd m)) .none),
        (8, .int .i64 (↑(List.length (Prod.snd m)) : Int)), (9, .int .i64 (0 : Int))]
      [AObj.cells [AV.str { data := List.toArray (Prod.fst m) }, AV.sl 2 (.map T.encR ((0 : Int), []) (Prod.snd m)) .none]] (q134_2 0 Post) →
    ASpec Tryz.prog 134 [.agg (T.encM m)] [] Post := fun m Post h => Go.Ab.ASpec.of_vc g134 Go.Proofs.Tryz.func134 (by kernel_rfl) (by kernel_rfl) (by kernel_rfl) (Go.Ab.kc (by kernel_rfl) h)
theorem v134_3 : ∀ (m : T.Mani) (e n i : Int) (n_1 : Nat) (Post : AV → List AObj → Prop),
  condP (decide (i < n))
      (needP ((0 : Int) ≤ i ∧ i < (↑(List.length (Prod.snd m)) : Int))
        (condP (decide (Prod.fst (List.getD (Prod.snd m) (Int.toNat i) ((0 : Int), [])) ≤ e))
         (Post (.bool false)
         [AObj.cells [.str { data := List.toArray (Prod.fst m) }, AV.sl 2 (.map T.encR ((0 : Int), []) (Prod.snd m)) .none],
         AObj.cells
         [.int .i64 (Prod.fst (List.getD (Prod.snd m) (Int.toNat i) ((0 : Int), []))),
         AV.sl 2 (.map T.encN ([], []) (Prod.snd (List.getD (Prod.snd m) (Int.toNat i) ((0 : Int), [])))) .none]])
         (condP (decide (Prod.fst (List.getD (Prod.snd m) (Int.toNat i) ((0 : Int), [])) ≥ (1000000000 : Int)))
         (Post (.bool false)
         [AObj.cells [.str { data := List.toArray (Prod.fst m) }, AV.sl 2 (.map T.encR ((0 : Int), []) (Prod.snd m)) .none],
         AObj.cells
         [.int .i64 (Prod.fst (List.getD (Prod.snd m) (Int.toNat i) ((0 : Int), []))),
         AV.sl 2 (.map T.encN ([], []) (Prod.snd (List.getD (Prod.snd m) (Int.toNat i) ((0 : Int), [])))) .none]])
         (ASpec Tryz.prog 150 [.sl 2 (.map T.encN ([], []) (Prod.snd (List.getD (Prod.snd m) (Int.toNat i) ((0 : Int), [])))) .none]
         [AObj.cells [.str { data := List.toArray (Prod.fst m) }, AV.sl 2 (.map T.encR ((0 : Int), []) (Prod.snd m)) .none],
         AObj.cells
         [.int .i64 (Prod.fst (List.getD (Prod.snd m) (Int.toNat i) ((0 : Int), []))),
         AV.sl 2 (.map T.encN ([], []) (Prod.snd (List.getD (Prod.snd m) (Int.toNat i) ((0 : Int), [])))) .none]]
         fun (r : AV) (H' : List AObj) =>
         ∃ (x : Bool),
         r = AV.bool x ∧
         H' =
         [AObj.cells [.str { data := List.toArray (Prod.fst m) }, AV.sl 2 (.map T.encR ((0 : Int), []) (Prod.snd m)) .none],
         AObj.cells
         [.int .i64 (Prod.fst (List.getD (Prod.snd m) (Int.toNat i) ((0 : Int), []))),
         AV.sl 2 (.map T.encN ([], []) (Prod.snd (List.getD (Prod.snd m) (Int.toNat i) ((0 : Int), [])))) .none]] ∧
         condP (!x)
         (Post (.bool false)
         [AObj.cells [.str { data := List.toArray (Prod.fst m) }, AV.sl 2 (.map T.encR ((0 : Int), []) (Prod.snd m)) .none],
         AObj.cells
         [.int .i64 (Prod.fst (List.getD (Prod.snd m) (Int.toNat i) ((0 : Int), []))),
         AV.sl 2 (.map T.encN ([], []) (Prod.snd (List.getD (Prod.snd m) (Int.toNat i) ((0 : Int), [])))) .none]])
         (AWP Tryz.prog 40 n_1 c134_3
         [(1, .ptr 0 0), (3, .int .i64 (Prod.fst (List.getD (Prod.snd m) (Int.toNat i) ((0 : Int), [])))),
         (7, .sl 2 (.map T.encR ((0 : Int), []) (Prod.snd m)) .none), (8, .int .i64 n),
         (9, .int .i64 (IntKind.wrap .i64 (i + (1 : Int))))]
         [AObj.cells [.str { data := List.toArray (Prod.fst m) }, AV.sl 2 (.map T.encR ((0 : Int), []) (Prod.snd m)) .none],
         AObj.cells
         [.int .i64 (Prod.fst (List.getD (Prod.snd m) (Int.toNat i) ((0 : Int), []))),
         AV.sl 2 (.map T.encN ([], []) (Prod.snd (List.getD (Prod.snd m) (Int.toNat i) ((0 : Int), [])))) .none]]
         (q134_2 n_1 Post))))))
      (ASpec Tryz.prog 59 [.str { data := List.toArray (Prod.fst m) }]
        [AObj.cells [AV.str { data := List.toArray (Prod.fst m) }, AV.sl 2 (.map T.encR ((0 : Int), []) (Prod.snd m)) .none]] fun (r : AV) (H' : List AObj) =>
        ∃ (x : Bool),
         r = AV.bool x ∧
         H' = [AObj.cells [.str { data := List.toArray (Prod.fst m) }, AV.sl 2 (.map T.encR ((0 : Int), []) (Prod.snd m)) .none]] ∧
         condP x
         (Post (.bool (decide ((↑(List.length (Prod.snd m)) : Int) ≤ (8 : Int))))
         [AObj.cells [AV.str { data := List.toArray (Prod.fst m) }, AV.sl 2 (.map T.encR ((0 : Int), []) (Prod.snd m)) .none]])
         (Post (.bool false) [AObj.cells [.str { data := List.toArray (Prod.fst m) }, AV.sl 2 (.map T.encR ((0 : Int), []) (Prod.snd m)) .none]])) →
    AWP Tryz.prog 40 n_1 c134_3
      [(1, .ptr 0 0), (3, .int .i64 e), (7, .sl 2 (.map T.encR ((0 : Int), []) (Prod.snd m)) .none),
        (8, .int .i64 n), (9, .int .i64 i)]
      [AObj.cells (T.encM m)] (q134_2 n_1 Post) := fun m e n i n Post h => Go.Ab.AWP.loop' g134 (Cfg.live g134) c134_3 (by kernel_rfl) (by kernel_rfl) (Go.Ab.kc (by kernel_rfl) h)

-- 139
noncomputable def l139 : Nat → List Nat
  | 2 => [1, 3]
  | _ => []
noncomputable def u139 : Nat → Bool
  | _ => false
noncomputable def m139 : Nat → Bool
  | _ => false
noncomputable def g139 : Cfg := { N := 52, live := l139, cut := u139, mu := m139, ret := rets }
noncomputable def c139 : Go.Code := Go.Ab.bodyOf Go.Proofs.Tryz.f139
noncomputable def q139_0 : Nat → (AV → List AObj → Prop) → AQ := fun (n : Nat) (Post : AV → List AObj → Prop) => endQ Tryz.prog (resultsOf Tryz.f139) Post
noncomputable def q139_1 : Nat → (AV → List AObj → Prop) → AQ := fun (n : Nat) (Post : AV → List AObj → Prop) => seqQ (fun (s' : Slots) (H' : List AObj) => awp Tryz.prog g139 n (codeSnd (codeSnd c139)) s' H' (q139_0 n Post)) (q139_0 n Post)
noncomputable def q139_2 : Nat → (AV → List AObj → Prop) → AQ := fun (n : Nat) (Post : AV → List AObj → Prop) => blockQ 0 (q139_1 n Post)
noncomputable def c139_2 : Go.Code := codeFst (codeSnd (codeFst (codeSnd c139)))
theorem s139 : ∀ (m : T.Mani) (Post : AV → List AObj → Prop),
  AWP Tryz.prog 52 0 c139_2 [(1, .ptr 0 0), (3, .int .i64 (0 : Int))]
      [AObj.cells [.str { data := List.toArray (Prod.fst m) }, AV.sl 2 (.map T.encR ((0 : Int), []) (Prod.snd m)) .none]] (q139_2 0 Post) →
    ASpec Tryz.prog 139 [.agg (T.encM m)] [] Post := fun m Post h => Go.Ab.ASpec.of_vc g139 Go.Proofs.Tryz.func139 (by kernel_rfl) (by kernel_rfl) (by kernel_rfl) (Go.Ab.kc (by kernel_rfl) h)
theorem v139_2 : ∀ (m : T.Mani) (i : Int) (n : Nat) (Post : AV → List AObj → Prop),
  condP (decide (i < (↑(List.length (Prod.snd m)) : Int)))
      (needP ((0 : Int) ≤ i ∧ i < (↑(List.length (Prod.snd m)) : Int))
        (ASpec Tryz.prog 41 [AV.int .i64 (Prod.fst (List.getD (Prod.snd m) (Int.toNat i) ((0 : Int), [])))]
         [AObj.cells [AV.str { data := List.toArray (Prod.fst m) }, AV.sl 2 (.map T.encR ((0 : Int), []) (Prod.snd m)) .none],
         AObj.cells
         [.int .i64 (Prod.fst (List.getD (Prod.snd m) (Int.toNat i) ((0 : Int), []))),
         AV.sl 2 (.map T.encN ([], []) (Prod.snd (List.getD (Prod.snd m) (Int.toNat i) ((0 : Int), [])))) .none]]
         fun (r : AV) (H' : List AObj) =>
         ∃ (x : Bool),
         r = AV.bool x ∧
         H' =
         [AObj.cells [.str { data := List.toArray (Prod.fst m) }, AV.sl 2 (.map T.encR ((0 : Int), []) (Prod.snd m)) .none],
         AObj.cells
         [.int .i64 (Prod.fst (List.getD (Prod.snd m) (Int.toNat i) ((0 : Int), []))),
         AV.sl 2 (.map T.encN ([], []) (Prod.snd (List.getD (Prod.snd m) (Int.toNat i) ((0 : Int), [])))) .none]] ∧
         condP (!x)
         (Post (.bool false)
         [AObj.cells [.str { data := List.toArray (Prod.fst m) }, AV.sl 2 (.map T.encR ((0 : Int), []) (Prod.snd m)) .none],
         AObj.cells
         [.int .i64 (Prod.fst (List.getD (Prod.snd m) (Int.toNat i) ((0 : Int), []))),
         AV.sl 2 (.map T.encN ([], []) (Prod.snd (List.getD (Prod.snd m) (Int.toNat i) ((0 : Int), [])))) .none]])
         (ASpec Tryz.prog 7 [.sl 2 (.map T.encN ([], []) (Prod.snd (List.getD (Prod.snd m) (Int.toNat i) ((0 : Int), [])))) .none]
         [AObj.cells [.str { data := List.toArray (Prod.fst m) }, AV.sl 2 (.map T.encR ((0 : Int), []) (Prod.snd m)) .none],
         AObj.cells
         [.int .i64 (Prod.fst (List.getD (Prod.snd m) (Int.toNat i) ((0 : Int), []))),
         AV.sl 2 (.map T.encN ([], []) (Prod.snd (List.getD (Prod.snd m) (Int.toNat i) ((0 : Int), [])))) .none]]
         fun (r : AV) (H' : List AObj) =>
         ∃ (x : Bool),
         r = AV.bool x ∧
         H' =
         [AObj.cells [.str { data := List.toArray (Prod.fst m) }, AV.sl 2 (.map T.encR ((0 : Int), []) (Prod.snd m)) .none],
         AObj.cells
         [.int .i64 (Prod.fst (List.getD (Prod.snd m) (Int.toNat i) ((0 : Int), []))),
         AV.sl 2 (.map T.encN ([], []) (Prod.snd (List.getD (Prod.snd m) (Int.toNat i) ((0 : Int), [])))) .none]] ∧
         condP (!x)
         (Post (.bool false)
         [AObj.cells [.str { data := List.toArray (Prod.fst m) }, AV.sl 2 (.map T.encR ((0 : Int), []) (Prod.snd m)) .none],
         AObj.cells
         [.int .i64 (Prod.fst (List.getD (Prod.snd m) (Int.toNat i) ((0 : Int), []))),
         AV.sl 2 (.map T.encN ([], []) (Prod.snd (List.getD (Prod.snd m) (Int.toNat i) ((0 : Int), [])))) .none]])
         (condP (decide (i > (0 : Int)))
         (needP ((0 : Int) ≤ IntKind.wrap .i64 (i - (1 : Int)) ∧ IntKind.wrap .i64 (i - (1 : Int)) < (↑(List.length (Prod.snd m)) : Int))
         (condP
         (decide
         (Prod.fst (List.getD (Prod.snd m) (Int.toNat i) ((0 : Int), [])) ≤
         Prod.fst (List.getD (Prod.snd m) (Int.toNat (IntKind.wrap .i64 (i - (1 : Int)))) ((0 : Int), []))))
         (Post (.bool false)
         [AObj.cells [.str { data := List.toArray (Prod.fst m) }, AV.sl 2 (.map T.encR ((0 : Int), []) (Prod.snd m)) .none],
         AObj.cells
         [.int .i64 (Prod.fst (List.getD (Prod.snd m) (Int.toNat i) ((0 : Int), []))),
         AV.sl 2 (.map T.encN ([], []) (Prod.snd (List.getD (Prod.snd m) (Int.toNat i) ((0 : Int), [])))) .none]])
         (AWP Tryz.prog 52 n c139_2 [(1, .ptr 0 0), (3, .int .i64 (IntKind.wrap .i64 (i + (1 : Int))))]
         [AObj.cells [.str { data := List.toArray (Prod.fst m) }, AV.sl 2 (.map T.encR ((0 : Int), []) (Prod.snd m)) .none],
         AObj.cells
         [.int .i64 (Prod.fst (List.getD (Prod.snd m) (Int.toNat i) ((0 : Int), []))),
         AV.sl 2 (.map T.encN ([], []) (Prod.snd (List.getD (Prod.snd m) (Int.toNat i) ((0 : Int), [])))) .none]]
         (q139_2 n Post))))
         (AWP Tryz.prog 52 n c139_2 [(1, .ptr 0 0), (3, .int .i64 (IntKind.wrap .i64 (i + (1 : Int))))]
         [AObj.cells [.str { data := List.toArray (Prod.fst m) }, AV.sl 2 (.map T.encR ((0 : Int), []) (Prod.snd m)) .none],
         AObj.cells
         [.int .i64 (Prod.fst (List.getD (Prod.snd m) (Int.toNat i) ((0 : Int), []))),
         AV.sl 2 (.map T.encN ([], []) (Prod.snd (List.getD (Prod.snd m) (Int.toNat i) ((0 : Int), [])))) .none]]
         (q139_2 n Post))))))
      (ASpec Tryz.prog 29 [.str { data := List.toArray (Prod.fst m) }]
        [AObj.cells [AV.str { data := List.toArray (Prod.fst m) }, AV.sl 2 (.map T.encR ((0 : Int), []) (Prod.snd m)) .none]] fun (r : AV) (H' : List AObj) =>
        ∃ (x : Bool),
         r = AV.bool x ∧
         H' = [AObj.cells [.str { data := List.toArray (Prod.fst m) }, AV.sl 2 (.map T.encR ((0 : Int), []) (Prod.snd m)) .none]] ∧
         condP x
         (Post (.bool (decide ((↑(List.length (Prod.snd m)) : Int) ≤ (8 : Int))))
         [AObj.cells [AV.str { data := List.toArray (Prod.fst m) }, AV.sl 2 (.map T.encR ((0 : Int), []) (Prod.snd m)) .none]])
         (Post (.bool false) [AObj.cells [.str { data := List.toArray (Prod.fst m) }, AV.sl 2 (.map T.encR ((0 : Int), []) (Prod.snd m)) .none]])) →
    AWP Tryz.prog 52 n c139_2 [(1, .ptr 0 0), (3, .int .i64 i)] [AObj.cells (T.encM m)] (q139_2 n Post) := fun m i n Post h => Go.Ab.AWP.loop' g139 (Cfg.live g139) c139_2 (by kernel_rfl) (by kernel_rfl) (Go.Ab.kc (by kernel_rfl) h)

-- 41
noncomputable def l41 : Nat → List Nat
  | _ => []
noncomputable def u41 : Nat → Bool
  | _ => false
noncomputable def m41 : Nat → Bool
  | _ => false
noncomputable def g41 : Cfg := { N := 9, live := l41, cut := u41, mu := m41, ret := rets }
theorem s41 : ∀ (x : Int) (Post : AV → List AObj → Prop),
  condP (decide (x ≥ (0 : Int))) (Post (.bool (decide (x < (1000000000 : Int)))) []) (Post (.bool false) []) → ASpec Tryz.prog 41 [.int .i64 x] [] Post := fun x Post h => Go.Ab.ASpec.of_vc g41 Go.Proofs.Tryz.func41 (by kernel_rfl) (by kernel_rfl) (by kernel_rfl) (Go.Ab.kc (by kernel_rfl) h)

-- 6
noncomputable def l6 : Nat → List Nat
  | 4 => [0, 3]
  | _ => []
noncomputable def u6 : Nat → Bool
  | _ => false
noncomputable def m6 : Nat → Bool
  | _ => false
noncomputable def g6 : Cfg := { N := 29, live := l6, cut := u6, mu := m6, ret := rets }
noncomputable def c6 : Go.Code := Go.Ab.bodyOf Go.Proofs.Tryz.f6
noncomputable def q6_0 : Nat → (AV → List AObj → Prop) → AQ := fun (n : Nat) (Post : AV → List AObj → Prop) => endQ Tryz.prog (resultsOf Tryz.f6) Post
noncomputable def q6_1 : Nat → (AV → List AObj → Prop) → AQ := fun (n : Nat) (Post : AV → List AObj → Prop) => seqQ (fun (s' : Slots) (H' : List AObj) => awp Tryz.prog g6 n (codeSnd (codeSnd (codeSnd c6))) s' H' (q6_0 n Post)) (q6_0 n Post)
noncomputable def q6_2 : Nat → (AV → List AObj → Prop) → AQ := fun (n : Nat) (Post : AV → List AObj → Prop) => blockQ 0 (q6_1 n Post)
noncomputable def c6_4 : Go.Code := codeFst (codeSnd (codeFst (codeSnd (codeSnd c6))))
theorem s6 : ∀ (l : List T.Need) (Post : AV → List AObj → Prop),
  condP (decide ((↑(List.length l) : Int) > (40 : Int))) (Post (.bool true) [])
      (AWP Tryz.prog 29 0 c6_4 [(0, .sl 2 (.map T.encN ([], []) l) .none), (3, .int .i64 (0 : Int))] [] (q6_2 0 Post)) →
    ASpec Tryz.prog 6 [.sl 2 (.map T.encN ([], []) l) .none] [] Post := fun l Post h => Go.Ab.ASpec.of_vc g6 Go.Proofs.Tryz.func6 (by kernel_rfl) (by kernel_rfl) (by kernel_rfl) (Go.Ab.kc (by kernel_rfl) h)
theorem v6_4 : ∀ (l : List T.Need) (i : Int) (n : Nat) (Post : AV → List AObj → Prop),
  condP (decide (i < (↑(List.length l) : Int)))
      (needP ((0 : Int) ≤ i ∧ i < (↑(List.length l) : Int))
        (condP (decide ((↑(List.length (Prod.snd (List.getD l (Int.toNat i) ([], [])))) : Int) > (40 : Int))) (Post (.bool true) [])
         (needP ((0 : Int) ≤ i ∧ i < (↑(List.length l) : Int))
         (condP (decide ((↑(ByteArray.size { data := List.toArray (Prod.fst (List.getD l (Int.toNat i) ([], []))) }) : Int) > (100 : Int))) (Post (.bool true) [])
         (AWP Tryz.prog 29 n c6_4 [(0, .sl 2 (.map T.encN ([], []) l) .none), (3, .int .i64 (IntKind.wrap .i64 (i + (1 : Int))))] []
         (q6_2 n Post))))))
      (Post (.bool false) []) →
    AWP Tryz.prog 29 n c6_4 [(0, .sl 2 (.map T.encN ([], []) l) .none), (3, .int .i64 i)] [] (q6_2 n Post) := fun l i n Post h => Go.Ab.AWP.loop' g6 (Cfg.live g6) c6_4 (by kernel_rfl) (by kernel_rfl) (Go.Ab.kc (by kernel_rfl) h)

end
end C
end

section
/- Printed: what the code of functions 175, 180, 159, 124, 126, 129, 128, 132, 131, 130, 93, 137, 95 asks for, by the framework's own reading of it; each line is checked against the code. -/

set_option linter.unusedVariables false
set_option maxRecDepth 100000
set_option maxHeartbeats 4000000
open Go Go.Ab Go.Proofs
namespace W
noncomputable section

noncomputable def updC (args : List AV) (H : List AObj) (p e : Int) : List AObj := match args with
  | .ptr c _ :: _ => match H[c]? with
    | some (.cells [.ptr id off]) => V.upd3 [.ptr id off] H p e
    | _ => H
  | _ => H
noncomputable def tl (args : List AV) : List AV := match args with
  | _ :: r => r
  | _ => []
noncomputable def HR (bs : List UInt8) (p e : Int) : List AObj := [V.rd bs p e, .cells [.ptr 0 0], .cells [.fn 124 [.ptr 1 0]], .cells [.fn 126 [.ptr 1 0]], .cells [.fn 128 [.ptr 2 0, .ptr 1 0, .ptr 3 0]]]
noncomputable def retW : List (Nat × Ret) := [
  (18039, ⟨Unit, fun _ _ _ => .bool true, fun _ H _ => H⟩),
  (93, ⟨T.Mani × Int, fun _ _ x => .tup [.agg (T.encM x.1), .int .i64 x.2], fun _ H _ => H⟩),
  (95, ⟨T.Mani × Int, fun _ _ x => .tup [.agg (T.encM x.1), .int .i64 x.2], fun _ H _ => H⟩),
  (175, ⟨List UInt8, fun _ _ x => .sl 1 (.map encB 0 x) .none, fun _ H _ => H⟩),
  (159, ⟨ByteArray, fun _ _ x => .str x, fun _ H _ => H⟩),
  (124, ⟨ByteArray × Int × Int, fun _ _ x => .str x.1, fun a H x => updC a H x.2.1 x.2.2⟩),
  (126, ⟨T.Span × Int × Int, fun _ _ x => .agg (T.encS x.1), fun a H x => updC a H x.2.1 x.2.2⟩),
  (128, ⟨T.Need × Int × Int, fun _ _ x => .agg (T.encN x.1), fun a H x => updC (tl a) H x.2.1 x.2.2⟩),
  (131, ⟨T.Rel × Int × Int, fun _ _ x => .agg (T.encR x.1), fun a H x => updC a H x.2.1 x.2.2⟩),
  (129, ⟨List T.Span × Int × Int, fun _ _ x => .sl 2 (.map T.encS (0, 0) x.1) .none, fun a H x => V.upd3 a H x.2.1 x.2.2⟩),
  (132, ⟨List T.Need × Int × Int, fun _ _ x => .sl 2 (.map T.encN ([], []) x.1) .none, fun a H x => V.upd3 a H x.2.1 x.2.2⟩),
  (130, ⟨List T.Rel × Int × Int, fun _ _ x => .sl 2 (.map T.encR (0, []) x.1) .none, fun a H x => V.upd3 a H x.2.1 x.2.2⟩),
  (137, ⟨List T.Need × ByteArray × Int, fun _ _ x => .sl 2 (.map T.encN ([], []) x.1) .none, fun a H x => V.upd2 a H x.2.1 x.2.2⟩),
  (180, ⟨ByteArray, fun _ _ x => .str x, fun _ H _ => H⟩)]
noncomputable def rets : FuncId → List Ret := lookupR (retW ++ C.retC ++ V.retL)

-- 175
noncomputable def u175 : Nat → Bool
  | _ => false
noncomputable def l124 : Nat → List Nat
  | _ => []
noncomputable def u124 : Nat → Bool
  | _ => false
noncomputable def m124 : Nat → Bool
  | _ => false
noncomputable def g124 : Cfg := { N := 4, live := l124, cut := u124, mu := m124, ret := rets }
theorem s124 : ∀ (bs : List UInt8) (p e : Int) (Post : AV → List AObj → Prop),
  (ASpec Tryz.prog 125 [.ptr 0 0, .int .i64 (24 : Int)]
      [AObj.cells [.sl 1 (.map encB (0 : UInt8) bs) .none, .int .i64 p, AV.int .i64 e], AObj.cells [.ptr 0 0],
        AObj.cells [.fn (124 : FuncId) [.ptr 1 0]], AObj.cells [.fn (126 : FuncId) [.ptr 1 0]],
        AObj.cells [.fn (128 : FuncId) [.ptr 2 0, .ptr 1 0, .ptr 3 0]]]
      fun (r : AV) (H' : List AObj) =>
      ∃ (x : ByteArray × Int × Int),
        r = AV.str (Prod.fst x) ∧
         H' =
         [AObj.cells [.sl 1 (.map encB (0 : UInt8) bs) .none, .int .i64 (Prod.fst (Prod.snd x)), .int .i64 (Prod.snd (Prod.snd x))],
         AObj.cells [.ptr 0 0], AObj.cells [.fn (124 : FuncId) [.ptr 1 0]], AObj.cells [.fn (126 : FuncId) [.ptr 1 0]],
         AObj.cells [.fn (128 : FuncId) [.ptr 2 0, .ptr 1 0, .ptr 3 0]]] ∧
         Post (.str (Prod.fst x))
         [AObj.cells [.sl 1 (.map encB (0 : UInt8) bs) .none, .int .i64 (Prod.fst (Prod.snd x)), .int .i64 (Prod.snd (Prod.snd x))],
         AObj.cells [.ptr 0 0], AObj.cells [.fn (124 : FuncId) [.ptr 1 0]], AObj.cells [.fn (126 : FuncId) [.ptr 1 0]],
         AObj.cells [.fn (128 : FuncId) [.ptr 2 0, .ptr 1 0, .ptr 3 0]]]) →
    ASpec Tryz.prog 124 [.ptr 1 0] (HR bs p e) Post := fun bs p e Post h => Go.Ab.ASpec.of_vc g124 Go.Proofs.Tryz.func124 (by kernel_rfl) (by kernel_rfl) (by kernel_rfl) (Go.Ab.kc (by kernel_rfl) h)

-- 126
noncomputable def l126 : Nat → List Nat
  | _ => []
noncomputable def u126 : Nat → Bool
  | _ => false
noncomputable def m126 : Nat → Bool
  | _ => false
noncomputable def g126 : Cfg := { N := 11, live := l126, cut := u126, mu := m126, ret := rets }
theorem s126 : ∀ (bs : List UInt8) (p e : Int) (Post : AV → List AObj → Prop),
  (ASpec Tryz.prog 127 [.ptr 0 0, .int .i64 (1000000000 : Int)]
      [AObj.cells [.sl 1 (.map encB (0 : UInt8) bs) .none, .int .i64 p, AV.int .i64 e], AObj.cells [.ptr 0 0],
        AObj.cells [.fn (124 : FuncId) [.ptr 1 0]], AObj.cells [.fn (126 : FuncId) [.ptr 1 0]],
        AObj.cells [.fn (128 : FuncId) [.ptr 2 0, .ptr 1 0, .ptr 3 0]], AObj.cells [.int .i64 (0 : Int), .int .i64 (0 : Int)]]
      fun (r : AV) (H' : List AObj) =>
      ∃ (x : Int × Int × Int),
        r = AV.int .i64 (Prod.fst x) ∧
         H' =
         [AObj.cells [.sl 1 (.map encB (0 : UInt8) bs) .none, .int .i64 (Prod.fst (Prod.snd x)), .int .i64 (Prod.snd (Prod.snd x))],
         AObj.cells [.ptr 0 0], AObj.cells [.fn (124 : FuncId) [.ptr 1 0]], AObj.cells [.fn (126 : FuncId) [.ptr 1 0]],
         AObj.cells [.fn (128 : FuncId) [.ptr 2 0, .ptr 1 0, .ptr 3 0]],
         AObj.cells [.int .i64 (0 : Int), .int .i64 (0 : Int)]] ∧
         ASpec Tryz.prog 127 [.ptr 0 0, .int .i64 (1000000000 : Int)]
         [AObj.cells [.sl 1 (.map encB (0 : UInt8) bs) .none, .int .i64 (Prod.fst (Prod.snd x)), .int .i64 (Prod.snd (Prod.snd x))],
         AObj.cells [.ptr 0 0], AObj.cells [.fn (124 : FuncId) [.ptr 1 0]], AObj.cells [.fn (126 : FuncId) [.ptr 1 0]],
         AObj.cells [.fn (128 : FuncId) [.ptr 2 0, .ptr 1 0, .ptr 3 0]],
         AObj.cells [.int .i64 (0 : Int), .int .i64 (0 : Int)]]
         fun (r : AV) (H' : List AObj) =>
         ∃ (x_1 : Int × Int × Int),
         r = AV.int .i64 (Prod.fst x_1) ∧
         H' =
         [AObj.cells [.sl 1 (.map encB (0 : UInt8) bs) .none, .int .i64 (Prod.fst (Prod.snd x_1)), .int .i64 (Prod.snd (Prod.snd x_1))],
         AObj.cells [.ptr 0 0], AObj.cells [.fn (124 : FuncId) [.ptr 1 0]], AObj.cells [.fn (126 : FuncId) [.ptr 1 0]],
         AObj.cells [.fn (128 : FuncId) [.ptr 2 0, .ptr 1 0, .ptr 3 0]],
         AObj.cells [.int .i64 (0 : Int), .int .i64 (0 : Int)]] ∧
         Post (.agg [.int .i64 (Prod.fst x), .int .i64 (IntKind.wrap .i64 (Prod.fst x + Prod.fst x_1))])
         [AObj.cells [.sl 1 (.map encB (0 : UInt8) bs) .none, .int .i64 (Prod.fst (Prod.snd x_1)), .int .i64 (Prod.snd (Prod.snd x_1))],
         AObj.cells [.ptr 0 0], AObj.cells [.fn (124 : FuncId) [.ptr 1 0]], AObj.cells [.fn (126 : FuncId) [.ptr 1 0]],
         AObj.cells [.fn (128 : FuncId) [.ptr 2 0, .ptr 1 0, .ptr 3 0]],
         AObj.cells [.int .i64 (Prod.fst x), .int .i64 (IntKind.wrap .i64 (Prod.fst x + Prod.fst x_1))]]) →
    ASpec Tryz.prog 126 [.ptr 1 0] (HR bs p e) Post := fun bs p e Post h => Go.Ab.ASpec.of_vc g126 Go.Proofs.Tryz.func126 (by kernel_rfl) (by kernel_rfl) (by kernel_rfl) (Go.Ab.kc (by kernel_rfl) h)

-- 129
noncomputable def l129 : Nat → List Nat
  | 3 => [0, 2, 7, 8]
  | _ => []
noncomputable def u129 : Nat → Bool
  | _ => false
noncomputable def m129 : Nat → Bool
  | _ => false
noncomputable def g129 : Cfg := { N := 27, live := l129, cut := u129, mu := m129, ret := rets }
noncomputable def c129 : Go.Code := Go.Ab.bodyOf Go.Proofs.Tryz.f129
noncomputable def q129_0 : Nat → (AV → List AObj → Prop) → AQ := fun (n : Nat) (Post : AV → List AObj → Prop) => endQ Tryz.prog (resultsOf Tryz.f129) Post
noncomputable def q129_1 : Nat → (AV → List AObj → Prop) → AQ := fun (n : Nat) (Post : AV → List AObj → Prop) => seqQ (fun (s' : Slots) (H' : List AObj) => awp Tryz.prog g129 n (codeSnd (codeSnd (codeSnd c129))) s' H' (q129_0 n Post)) (q129_0 n Post)
noncomputable def q129_2 : Nat → (AV → List AObj → Prop) → AQ := fun (n : Nat) (Post : AV → List AObj → Prop) => blockQ 0 (q129_1 n Post)
noncomputable def c129_3 : Go.Code := codeFst (codeSnd (codeFst (codeSnd (codeSnd c129))))
theorem s129 : ∀ (bs : List UInt8) (p e most : Int) (Post : AV → List AObj → Prop),
  (ASpec Tryz.prog 127 [.ptr 0 0, .int .i64 most]
      [AObj.cells [.sl 1 (.map encB (0 : UInt8) bs) .none, .int .i64 p, AV.int .i64 e], AObj.cells [.ptr 0 0],
        AObj.cells [.fn (124 : FuncId) [.ptr 1 0]], AObj.cells [.fn (126 : FuncId) [.ptr 1 0]],
        AObj.cells [.fn (128 : FuncId) [.ptr 2 0, .ptr 1 0, .ptr 3 0]]]
      fun (r : AV) (H' : List AObj) =>
      ∃ (x : Int × Int × Int),
        r = AV.int .i64 (Prod.fst x) ∧
         H' =
         [AObj.cells [.sl 1 (.map encB (0 : UInt8) bs) .none, .int .i64 (Prod.fst (Prod.snd x)), .int .i64 (Prod.snd (Prod.snd x))],
         AObj.cells [.ptr 0 0], AObj.cells [.fn (124 : FuncId) [.ptr 1 0]], AObj.cells [.fn (126 : FuncId) [.ptr 1 0]],
         AObj.cells [.fn (128 : FuncId) [.ptr 2 0, .ptr 1 0, .ptr 3 0]]] ∧
         AWP Tryz.prog 27 5 c129_3
         [(0, .ptr 0 0), (2, .fn (126 : FuncId) [.ptr 1 0]), (7, .sl 0 (.raw []) .nil),
         (8, .int .i64 (Prod.fst x))]
         [AObj.cells [.sl 1 (.map encB (0 : UInt8) bs) .none, .int .i64 (Prod.fst (Prod.snd x)), .int .i64 (Prod.snd (Prod.snd x))],
         AObj.cells [.ptr 0 0], AObj.cells [.fn (124 : FuncId) [.ptr 1 0]], AObj.cells [.fn (126 : FuncId) [.ptr 1 0]],
         AObj.cells [.fn (128 : FuncId) [.ptr 2 0, .ptr 1 0, .ptr 3 0]]]
         (q129_2 5 Post)) →
    ASpec Tryz.prog 129 [.ptr 0 0, .int .i64 most, AV.fn (126 : FuncId) [.ptr 1 0]] (HR bs p e) Post := fun bs p e most Post h => Go.Ab.ASpec.of_vc g129 Go.Proofs.Tryz.func129 (by kernel_rfl) (by kernel_rfl) (by kernel_rfl) (Go.Ab.kc (by kernel_rfl) h)
theorem v129_3 : ∀ (bs : List UInt8) (p e : Int) (acc : List T.Span) (n : Int) (n_1 : Nat) (Post : AV → List AObj → Prop),
  condP (decide (n > (0 : Int)))
      (ASpec Tryz.prog 161 [.ptr 0 0]
        [AObj.cells [.sl 1 (.map encB (0 : UInt8) bs) .none, .int .i64 p, AV.int .i64 e], AObj.cells [.ptr 0 0],
         AObj.cells [.fn (124 : FuncId) [.ptr 1 0]], AObj.cells [.fn (126 : FuncId) [.ptr 1 0]],
         AObj.cells [.fn (128 : FuncId) [.ptr 2 0, .ptr 1 0, .ptr 3 0]], AObj.tok]
        fun (r : AV) (H' : List AObj) =>
        ∃ (x : Int),
         r = AV.int .i64 x ∧
         H' =
         [AObj.cells [.sl 1 (.map encB (0 : UInt8) bs) .none, .int .i64 p, AV.int .i64 e], AObj.cells [.ptr 0 0],
         AObj.cells [.fn (124 : FuncId) [.ptr 1 0]], AObj.cells [.fn (126 : FuncId) [.ptr 1 0]],
         AObj.cells [.fn (128 : FuncId) [.ptr 2 0, .ptr 1 0, .ptr 3 0]], AObj.tok] ∧
         condP (x == (0 : Int))
         (ASpec Tryz.prog 126 [.ptr 1 0]
         [AObj.cells [.sl 1 (.map encB (0 : UInt8) bs) .none, .int .i64 p, AV.int .i64 e], AObj.cells [.ptr 0 0],
         AObj.cells [.fn (124 : FuncId) [.ptr 1 0]], AObj.cells [.fn (126 : FuncId) [.ptr 1 0]],
         AObj.cells [.fn (128 : FuncId) [.ptr 2 0, .ptr 1 0, .ptr 3 0]], AObj.tok]
         fun (r : AV) (H' : List AObj) =>
         ∃ (x : T.Span × Int × Int),
         r = AV.agg [.int .i64 (Prod.fst (Prod.fst x)), .int .i64 (Prod.snd (Prod.fst x))] ∧
         H' =
         [AObj.cells [.sl 1 (.map encB (0 : UInt8) bs) .none, .int .i64 (Prod.fst (Prod.snd x)), .int .i64 (Prod.snd (Prod.snd x))],
         AObj.cells [.ptr 0 0], AObj.cells [.fn (124 : FuncId) [.ptr 1 0]], AObj.cells [.fn (126 : FuncId) [.ptr 1 0]],
         AObj.cells [.fn (128 : FuncId) [.ptr 2 0, .ptr 1 0, .ptr 3 0]], AObj.tok] ∧
         needP ((List.length acc + 1) * 16 ≤ 140737488351232)
         (AWP Tryz.prog 27 n_1 c129_3
         [(0, .ptr 0 0), (2, .fn (126 : FuncId) [.ptr 1 0]),
         (7,
         AV.sl 2
         (.app (.map T.encS ((0 : Int), (0 : Int)) acc) (.raw [[.int .i64 (Prod.fst (Prod.fst x)), .int .i64 (Prod.snd (Prod.fst x))]]))
         (.tok 6)),
         (8, .int .i64 (IntKind.wrap .i64 (n - (1 : Int))))]
         [AObj.cells [.sl 1 (.map encB (0 : UInt8) bs) .none, .int .i64 (Prod.fst (Prod.snd x)), .int .i64 (Prod.snd (Prod.snd x))],
         AObj.cells [.ptr 0 0], AObj.cells [.fn (124 : FuncId) [.ptr 1 0]], AObj.cells [.fn (126 : FuncId) [.ptr 1 0]],
         AObj.cells [.fn (128 : FuncId) [.ptr 2 0, .ptr 1 0, .ptr 3 0]], AObj.gone, AObj.tok]
         (q129_2 n_1 Post)))
         (Post (.sl 2 (.map T.encS ((0 : Int), (0 : Int)) acc) (.tok 5))
         [AObj.cells [.sl 1 (.map encB (0 : UInt8) bs) .none, .int .i64 p, AV.int .i64 e], AObj.cells [.ptr 0 0],
         AObj.cells [.fn (124 : FuncId) [.ptr 1 0]], AObj.cells [.fn (126 : FuncId) [.ptr 1 0]],
         AObj.cells [.fn (128 : FuncId) [.ptr 2 0, .ptr 1 0, .ptr 3 0]], AObj.tok]))
      (Post (.sl 2 (.map T.encS ((0 : Int), (0 : Int)) acc) (.tok 5))
        [AObj.cells [.sl 1 (.map encB (0 : UInt8) bs) .none, .int .i64 p, AV.int .i64 e], AObj.cells [.ptr 0 0],
         AObj.cells [.fn (124 : FuncId) [.ptr 1 0]], AObj.cells [.fn (126 : FuncId) [.ptr 1 0]],
         AObj.cells [.fn (128 : FuncId) [.ptr 2 0, .ptr 1 0, .ptr 3 0]], AObj.tok]) →
    AWP Tryz.prog 27 n_1 c129_3
      [(0, .ptr 0 0), (2, .fn (126 : FuncId) [.ptr 1 0]),
        (7, .sl 2 (.map T.encS ((0 : Int), (0 : Int)) acc) (.tok 5)), (8, .int .i64 n)]
      (HR bs p e ++ [AObj.tok]) (q129_2 n_1 Post) := fun bs p e acc n n Post h => Go.Ab.AWP.loop' g129 (Cfg.live g129) c129_3 (by kernel_rfl) (by kernel_rfl) (Go.Ab.kc (by kernel_rfl) h)

-- 128
noncomputable def l128 : Nat → List Nat
  | _ => []
noncomputable def u128 : Nat → Bool
  | _ => false
noncomputable def m128 : Nat → Bool
  | _ => false
noncomputable def g128 : Cfg := { N := 13, live := l128, cut := u128, mu := m128, ret := rets }
theorem s128 : ∀ (bs : List UInt8) (p e : Int) (Post : AV → List AObj → Prop),
  (ASpec Tryz.prog 124 [.ptr 1 0]
      [AObj.cells [.sl 1 (.map encB (0 : UInt8) bs) .none, .int .i64 p, AV.int .i64 e], AObj.cells [.ptr 0 0],
        AObj.cells [.fn (124 : FuncId) [.ptr 1 0]], AObj.cells [.fn (126 : FuncId) [.ptr 1 0]],
        AObj.cells [.fn (128 : FuncId) [.ptr 2 0, .ptr 1 0, .ptr 3 0]],
        AObj.cells [.str { data := #[] }, AV.sl 0 (.raw []) .nil]]
      fun (r : AV) (H' : List AObj) =>
      ∃ (x : ByteArray × Int × Int),
        r = AV.str (Prod.fst x) ∧
         H' =
         [AObj.cells [.sl 1 (.map encB (0 : UInt8) bs) .none, .int .i64 (Prod.fst (Prod.snd x)), .int .i64 (Prod.snd (Prod.snd x))],
         AObj.cells [.ptr 0 0], AObj.cells [.fn (124 : FuncId) [.ptr 1 0]], AObj.cells [.fn (126 : FuncId) [.ptr 1 0]],
         AObj.cells [.fn (128 : FuncId) [.ptr 2 0, .ptr 1 0, .ptr 3 0]],
         AObj.cells [.str { data := #[] }, AV.sl 0 (.raw []) .nil]] ∧
         ASpec Tryz.prog 129 [.ptr 0 0, .int .i64 (6 : Int), .fn (126 : FuncId) [.ptr 1 0]]
         [AObj.cells [.sl 1 (.map encB (0 : UInt8) bs) .none, .int .i64 (Prod.fst (Prod.snd x)), .int .i64 (Prod.snd (Prod.snd x))],
         AObj.cells [.ptr 0 0], AObj.cells [.fn (124 : FuncId) [.ptr 1 0]], AObj.cells [.fn (126 : FuncId) [.ptr 1 0]],
         AObj.cells [.fn (128 : FuncId) [.ptr 2 0, .ptr 1 0, .ptr 3 0]],
         AObj.cells [.str { data := #[] }, AV.sl 0 (.raw []) .nil], AObj.cells [.str (Prod.fst x), .sl 0 (.raw []) .nil]]
         fun (r : AV) (H' : List AObj) =>
         ∃ (x_1 : List T.Span × Int × Int),
         r = AV.sl 2 (.map T.encS ((0 : Int), (0 : Int)) (Prod.fst x_1)) .none ∧
         H' =
         [AObj.cells [.sl 1 (.map encB (0 : UInt8) bs) .none, .int .i64 (Prod.fst (Prod.snd x_1)), .int .i64 (Prod.snd (Prod.snd x_1))],
         AObj.cells [.ptr 0 0], AObj.cells [.fn (124 : FuncId) [.ptr 1 0]], AObj.cells [.fn (126 : FuncId) [.ptr 1 0]],
         AObj.cells [.fn (128 : FuncId) [.ptr 2 0, .ptr 1 0, .ptr 3 0]],
         AObj.cells [.str { data := #[] }, AV.sl 0 (.raw []) .nil], AObj.cells [.str (Prod.fst x), .sl 0 (.raw []) .nil]] ∧
         Post (.agg [.str (Prod.fst x), .sl 2 (.map T.encS ((0 : Int), (0 : Int)) (Prod.fst x_1)) .none])
         [AObj.cells [.sl 1 (.map encB (0 : UInt8) bs) .none, .int .i64 (Prod.fst (Prod.snd x_1)), .int .i64 (Prod.snd (Prod.snd x_1))],
         AObj.cells [.ptr 0 0], AObj.cells [.fn (124 : FuncId) [.ptr 1 0]], AObj.cells [.fn (126 : FuncId) [.ptr 1 0]],
         AObj.cells [.fn (128 : FuncId) [.ptr 2 0, .ptr 1 0, .ptr 3 0]],
         AObj.cells [.str (Prod.fst x), .sl 2 (.map T.encS ((0 : Int), (0 : Int)) (Prod.fst x_1)) .none],
         AObj.cells [.str (Prod.fst x), .sl 2 (.map T.encS ((0 : Int), (0 : Int)) (Prod.fst x_1)) .none]]) →
    ASpec Tryz.prog 128 [.ptr 2 0, .ptr 1 0, .ptr 3 0] (HR bs p e) Post := fun bs p e Post h => Go.Ab.ASpec.of_vc g128 Go.Proofs.Tryz.func128 (by kernel_rfl) (by kernel_rfl) (by kernel_rfl) (Go.Ab.kc (by kernel_rfl) h)

-- 132
noncomputable def l132 : Nat → List Nat
  | 3 => [0, 2, 7, 8]
  | _ => []
noncomputable def u132 : Nat → Bool
  | _ => false
noncomputable def m132 : Nat → Bool
  | _ => false
noncomputable def g132 : Cfg := { N := 27, live := l132, cut := u132, mu := m132, ret := rets }
noncomputable def c132 : Go.Code := Go.Ab.bodyOf Go.Proofs.Tryz.f132
noncomputable def q132_0 : Nat → (AV → List AObj → Prop) → AQ := fun (n : Nat) (Post : AV → List AObj → Prop) => endQ Tryz.prog (resultsOf Tryz.f132) Post
noncomputable def q132_1 : Nat → (AV → List AObj → Prop) → AQ := fun (n : Nat) (Post : AV → List AObj → Prop) => seqQ (fun (s' : Slots) (H' : List AObj) => awp Tryz.prog g132 n (codeSnd (codeSnd (codeSnd c132))) s' H' (q132_0 n Post)) (q132_0 n Post)
noncomputable def q132_2 : Nat → (AV → List AObj → Prop) → AQ := fun (n : Nat) (Post : AV → List AObj → Prop) => blockQ 0 (q132_1 n Post)
noncomputable def c132_3 : Go.Code := codeFst (codeSnd (codeFst (codeSnd (codeSnd c132))))
theorem s132 : ∀ (bs : List UInt8) (p e most : Int) (Post : AV → List AObj → Prop),
  (ASpec Tryz.prog 127 [.ptr 0 0, .int .i64 most]
      [AObj.cells [.sl 1 (.map encB (0 : UInt8) bs) .none, .int .i64 p, AV.int .i64 e], AObj.cells [.ptr 0 0],
        AObj.cells [.fn (124 : FuncId) [.ptr 1 0]], AObj.cells [.fn (126 : FuncId) [.ptr 1 0]],
        AObj.cells [.fn (128 : FuncId) [.ptr 2 0, .ptr 1 0, .ptr 3 0]]]
      fun (r : AV) (H' : List AObj) =>
      ∃ (x : Int × Int × Int),
        r = AV.int .i64 (Prod.fst x) ∧
         H' =
         [AObj.cells [.sl 1 (.map encB (0 : UInt8) bs) .none, .int .i64 (Prod.fst (Prod.snd x)), .int .i64 (Prod.snd (Prod.snd x))],
         AObj.cells [.ptr 0 0], AObj.cells [.fn (124 : FuncId) [.ptr 1 0]], AObj.cells [.fn (126 : FuncId) [.ptr 1 0]],
         AObj.cells [.fn (128 : FuncId) [.ptr 2 0, .ptr 1 0, .ptr 3 0]]] ∧
         AWP Tryz.prog 27 5 c132_3
         [(0, .ptr 0 0), (2, .fn (128 : FuncId) [.ptr 2 0, .ptr 1 0, .ptr 3 0]),
         (7, .sl 0 (.raw []) .nil), (8, .int .i64 (Prod.fst x))]
         [AObj.cells [.sl 1 (.map encB (0 : UInt8) bs) .none, .int .i64 (Prod.fst (Prod.snd x)), .int .i64 (Prod.snd (Prod.snd x))],
         AObj.cells [.ptr 0 0], AObj.cells [.fn (124 : FuncId) [.ptr 1 0]], AObj.cells [.fn (126 : FuncId) [.ptr 1 0]],
         AObj.cells [.fn (128 : FuncId) [.ptr 2 0, .ptr 1 0, .ptr 3 0]]]
         (q132_2 5 Post)) →
    ASpec Tryz.prog 132 [.ptr 0 0, .int .i64 most, AV.fn (128 : FuncId) [.ptr 2 0, .ptr 1 0, .ptr 3 0]]
      (HR bs p e) Post := fun bs p e most Post h => Go.Ab.ASpec.of_vc g132 Go.Proofs.Tryz.func132 (by kernel_rfl) (by kernel_rfl) (by kernel_rfl) (Go.Ab.kc (by kernel_rfl) h)
theorem v132_3 : ∀ (bs : List UInt8) (p e : Int) (acc : List T.Need) (n : Int) (n_1 : Nat) (Post : AV → List AObj → Prop),
  condP (decide (n > (0 : Int)))
      (ASpec Tryz.prog 161 [.ptr 0 0]
        [AObj.cells [.sl 1 (.map encB (0 : UInt8) bs) .none, .int .i64 p, AV.int .i64 e], AObj.cells [.ptr 0 0],
         AObj.cells [.fn (124 : FuncId) [.ptr 1 0]], AObj.cells [.fn (126 : FuncId) [.ptr 1 0]],
         AObj.cells [.fn (128 : FuncId) [.ptr 2 0, .ptr 1 0, .ptr 3 0]], AObj.tok]
        fun (r : AV) (H' : List AObj) =>
        ∃ (x : Int),
         r = AV.int .i64 x ∧
         H' =
         [AObj.cells [.sl 1 (.map encB (0 : UInt8) bs) .none, .int .i64 p, AV.int .i64 e], AObj.cells [.ptr 0 0],
         AObj.cells [.fn (124 : FuncId) [.ptr 1 0]], AObj.cells [.fn (126 : FuncId) [.ptr 1 0]],
         AObj.cells [.fn (128 : FuncId) [.ptr 2 0, .ptr 1 0, .ptr 3 0]], AObj.tok] ∧
         condP (x == (0 : Int))
         (ASpec Tryz.prog 128 [.ptr 2 0, .ptr 1 0, .ptr 3 0]
         [AObj.cells [.sl 1 (.map encB (0 : UInt8) bs) .none, .int .i64 p, AV.int .i64 e], AObj.cells [.ptr 0 0],
         AObj.cells [.fn (124 : FuncId) [.ptr 1 0]], AObj.cells [.fn (126 : FuncId) [.ptr 1 0]],
         AObj.cells [.fn (128 : FuncId) [.ptr 2 0, .ptr 1 0, .ptr 3 0]], AObj.tok]
         fun (r : AV) (H' : List AObj) =>
         ∃ (x : T.Need × Int × Int),
         r = AV.agg [.str { data := List.toArray (Prod.fst (Prod.fst x)) }, AV.sl 2 (.map T.encS ((0 : Int), (0 : Int)) (Prod.snd (Prod.fst x))) .none] ∧
         H' =
         [AObj.cells [.sl 1 (.map encB (0 : UInt8) bs) .none, .int .i64 (Prod.fst (Prod.snd x)), .int .i64 (Prod.snd (Prod.snd x))],
         AObj.cells [.ptr 0 0], AObj.cells [.fn (124 : FuncId) [.ptr 1 0]], AObj.cells [.fn (126 : FuncId) [.ptr 1 0]],
         AObj.cells [.fn (128 : FuncId) [.ptr 2 0, .ptr 1 0, .ptr 3 0]], AObj.tok] ∧
         needP ((List.length acc + 1) * 40 ≤ 140737488351232)
         (AWP Tryz.prog 27 n_1 c132_3
         [(0, .ptr 0 0), (2, .fn (128 : FuncId) [.ptr 2 0, .ptr 1 0, .ptr 3 0]),
         (7,
         AV.sl 2
         (.app (.map T.encN ([], []) acc)
         (.raw [[.str { data := List.toArray (Prod.fst (Prod.fst x)) }, AV.sl 2 (.map T.encS ((0 : Int), (0 : Int)) (Prod.snd (Prod.fst x))) .none]]))
         (.tok 6)),
         (8, .int .i64 (IntKind.wrap .i64 (n - (1 : Int))))]
         [AObj.cells [.sl 1 (.map encB (0 : UInt8) bs) .none, .int .i64 (Prod.fst (Prod.snd x)), .int .i64 (Prod.snd (Prod.snd x))],
         AObj.cells [.ptr 0 0], AObj.cells [.fn (124 : FuncId) [.ptr 1 0]], AObj.cells [.fn (126 : FuncId) [.ptr 1 0]],
         AObj.cells [.fn (128 : FuncId) [.ptr 2 0, .ptr 1 0, .ptr 3 0]], AObj.gone, AObj.tok]
         (q132_2 n_1 Post)))
         (Post (.sl 2 (.map T.encN ([], []) acc) (.tok 5))
         [AObj.cells [.sl 1 (.map encB (0 : UInt8) bs) .none, .int .i64 p, AV.int .i64 e], AObj.cells [.ptr 0 0],
         AObj.cells [.fn (124 : FuncId) [.ptr 1 0]], AObj.cells [.fn (126 : FuncId) [.ptr 1 0]],
         AObj.cells [.fn (128 : FuncId) [.ptr 2 0, .ptr 1 0, .ptr 3 0]], AObj.tok]))
      (Post (.sl 2 (.map T.encN ([], []) acc) (.tok 5))
        [AObj.cells [.sl 1 (.map encB (0 : UInt8) bs) .none, .int .i64 p, AV.int .i64 e], AObj.cells [.ptr 0 0],
         AObj.cells [.fn (124 : FuncId) [.ptr 1 0]], AObj.cells [.fn (126 : FuncId) [.ptr 1 0]],
         AObj.cells [.fn (128 : FuncId) [.ptr 2 0, .ptr 1 0, .ptr 3 0]], AObj.tok]) →
    AWP Tryz.prog 27 n_1 c132_3
      [(0, .ptr 0 0), (2, .fn (128 : FuncId) [.ptr 2 0, .ptr 1 0, .ptr 3 0]),
        (7, .sl 2 (.map T.encN ([], []) acc) (.tok 5)), (8, .int .i64 n)]
      (HR bs p e ++ [AObj.tok]) (q132_2 n_1 Post) := fun bs p e acc n n Post h => Go.Ab.AWP.loop' g132 (Cfg.live g132) c132_3 (by kernel_rfl) (by kernel_rfl) (Go.Ab.kc (by kernel_rfl) h)

-- 131
noncomputable def l131 : Nat → List Nat
  | _ => []
noncomputable def u131 : Nat → Bool
  | _ => false
noncomputable def m131 : Nat → Bool
  | _ => false
noncomputable def g131 : Cfg := { N := 12, live := l131, cut := u131, mu := m131, ret := rets }
theorem s131 : ∀ (bs : List UInt8) (p e : Int) (Post : AV → List AObj → Prop),
  (ASpec Tryz.prog 127 [.ptr 0 0, .int .i64 (1000000000 : Int)]
      [AObj.cells [.sl 1 (.map encB (0 : UInt8) bs) .none, .int .i64 p, AV.int .i64 e], AObj.cells [.ptr 0 0],
        AObj.cells [.fn (124 : FuncId) [.ptr 1 0]], AObj.cells [.fn (126 : FuncId) [.ptr 1 0]],
        AObj.cells [.fn (128 : FuncId) [.ptr 2 0, .ptr 1 0, .ptr 3 0]],
        AObj.cells [.int .i64 (0 : Int), .sl 0 (.raw []) .nil]]
      fun (r : AV) (H' : List AObj) =>
      ∃ (x : Int × Int × Int),
        r = AV.int .i64 (Prod.fst x) ∧
         H' =
         [AObj.cells [.sl 1 (.map encB (0 : UInt8) bs) .none, .int .i64 (Prod.fst (Prod.snd x)), .int .i64 (Prod.snd (Prod.snd x))],
         AObj.cells [.ptr 0 0], AObj.cells [.fn (124 : FuncId) [.ptr 1 0]], AObj.cells [.fn (126 : FuncId) [.ptr 1 0]],
         AObj.cells [.fn (128 : FuncId) [.ptr 2 0, .ptr 1 0, .ptr 3 0]],
         AObj.cells [.int .i64 (0 : Int), .sl 0 (.raw []) .nil]] ∧
         ASpec Tryz.prog 132
         [.ptr 0 0, .int .i64 (6 : Int), .fn (128 : FuncId) [.ptr 2 0, .ptr 1 0, .ptr 3 0]]
         [AObj.cells [.sl 1 (.map encB (0 : UInt8) bs) .none, .int .i64 (Prod.fst (Prod.snd x)), .int .i64 (Prod.snd (Prod.snd x))],
         AObj.cells [.ptr 0 0], AObj.cells [.fn (124 : FuncId) [.ptr 1 0]], AObj.cells [.fn (126 : FuncId) [.ptr 1 0]],
         AObj.cells [.fn (128 : FuncId) [.ptr 2 0, .ptr 1 0, .ptr 3 0]],
         AObj.cells [.int .i64 (0 : Int), .sl 0 (.raw []) .nil], AObj.cells [.int .i64 (Prod.fst x), .sl 0 (.raw []) .nil]]
         fun (r : AV) (H' : List AObj) =>
         ∃ (x_1 : List T.Need × Int × Int),
         r = AV.sl 2 (.map T.encN ([], []) (Prod.fst x_1)) .none ∧
         H' =
         [AObj.cells [.sl 1 (.map encB (0 : UInt8) bs) .none, .int .i64 (Prod.fst (Prod.snd x_1)), .int .i64 (Prod.snd (Prod.snd x_1))],
         AObj.cells [.ptr 0 0], AObj.cells [.fn (124 : FuncId) [.ptr 1 0]], AObj.cells [.fn (126 : FuncId) [.ptr 1 0]],
         AObj.cells [.fn (128 : FuncId) [.ptr 2 0, .ptr 1 0, .ptr 3 0]],
         AObj.cells [.int .i64 (0 : Int), .sl 0 (.raw []) .nil], AObj.cells [.int .i64 (Prod.fst x), .sl 0 (.raw []) .nil]] ∧
         Post (.agg [.int .i64 (Prod.fst x), .sl 2 (.map T.encN ([], []) (Prod.fst x_1)) .none])
         [AObj.cells [.sl 1 (.map encB (0 : UInt8) bs) .none, .int .i64 (Prod.fst (Prod.snd x_1)), .int .i64 (Prod.snd (Prod.snd x_1))],
         AObj.cells [.ptr 0 0], AObj.cells [.fn (124 : FuncId) [.ptr 1 0]], AObj.cells [.fn (126 : FuncId) [.ptr 1 0]],
         AObj.cells [.fn (128 : FuncId) [.ptr 2 0, .ptr 1 0, .ptr 3 0]],
         AObj.cells [.int .i64 (Prod.fst x), .sl 2 (.map T.encN ([], []) (Prod.fst x_1)) .none],
         AObj.cells [.int .i64 (Prod.fst x), .sl 2 (.map T.encN ([], []) (Prod.fst x_1)) .none]]) →
    ASpec Tryz.prog 131 [.ptr 1 0, .ptr 4 0] (HR bs p e) Post := fun bs p e Post h => Go.Ab.ASpec.of_vc g131 Go.Proofs.Tryz.func131 (by kernel_rfl) (by kernel_rfl) (by kernel_rfl) (Go.Ab.kc (by kernel_rfl) h)

-- 130
noncomputable def l130 : Nat → List Nat
  | 3 => [0, 2, 7, 8]
  | _ => []
noncomputable def u130 : Nat → Bool
  | _ => false
noncomputable def m130 : Nat → Bool
  | _ => false
noncomputable def g130 : Cfg := { N := 27, live := l130, cut := u130, mu := m130, ret := rets }
noncomputable def c130 : Go.Code := Go.Ab.bodyOf Go.Proofs.Tryz.f130
noncomputable def q130_0 : Nat → (AV → List AObj → Prop) → AQ := fun (n : Nat) (Post : AV → List AObj → Prop) => endQ Tryz.prog (resultsOf Tryz.f130) Post
noncomputable def q130_1 : Nat → (AV → List AObj → Prop) → AQ := fun (n : Nat) (Post : AV → List AObj → Prop) => seqQ (fun (s' : Slots) (H' : List AObj) => awp Tryz.prog g130 n (codeSnd (codeSnd (codeSnd c130))) s' H' (q130_0 n Post)) (q130_0 n Post)
noncomputable def q130_2 : Nat → (AV → List AObj → Prop) → AQ := fun (n : Nat) (Post : AV → List AObj → Prop) => blockQ 0 (q130_1 n Post)
noncomputable def c130_3 : Go.Code := codeFst (codeSnd (codeFst (codeSnd (codeSnd c130))))
theorem s130 : ∀ (bs : List UInt8) (p e most : Int) (Post : AV → List AObj → Prop),
  (ASpec Tryz.prog 127 [.ptr 0 0, .int .i64 most]
      [AObj.cells [.sl 1 (.map encB (0 : UInt8) bs) .none, .int .i64 p, AV.int .i64 e], AObj.cells [.ptr 0 0],
        AObj.cells [.fn (124 : FuncId) [.ptr 1 0]], AObj.cells [.fn (126 : FuncId) [.ptr 1 0]],
        AObj.cells [.fn (128 : FuncId) [.ptr 2 0, .ptr 1 0, .ptr 3 0]]]
      fun (r : AV) (H' : List AObj) =>
      ∃ (x : Int × Int × Int),
        r = AV.int .i64 (Prod.fst x) ∧
         H' =
         [AObj.cells [.sl 1 (.map encB (0 : UInt8) bs) .none, .int .i64 (Prod.fst (Prod.snd x)), .int .i64 (Prod.snd (Prod.snd x))],
         AObj.cells [.ptr 0 0], AObj.cells [.fn (124 : FuncId) [.ptr 1 0]], AObj.cells [.fn (126 : FuncId) [.ptr 1 0]],
         AObj.cells [.fn (128 : FuncId) [.ptr 2 0, .ptr 1 0, .ptr 3 0]]] ∧
         AWP Tryz.prog 27 5 c130_3
         [(0, .ptr 0 0), (2, .fn (131 : FuncId) [.ptr 1 0, .ptr 4 0]), (7, .sl 0 (.raw []) .nil),
         (8, .int .i64 (Prod.fst x))]
         [AObj.cells [.sl 1 (.map encB (0 : UInt8) bs) .none, .int .i64 (Prod.fst (Prod.snd x)), .int .i64 (Prod.snd (Prod.snd x))],
         AObj.cells [.ptr 0 0], AObj.cells [.fn (124 : FuncId) [.ptr 1 0]], AObj.cells [.fn (126 : FuncId) [.ptr 1 0]],
         AObj.cells [.fn (128 : FuncId) [.ptr 2 0, .ptr 1 0, .ptr 3 0]]]
         (q130_2 5 Post)) →
    ASpec Tryz.prog 130 [.ptr 0 0, .int .i64 most, AV.fn (131 : FuncId) [.ptr 1 0, .ptr 4 0]] (HR bs p e) Post := fun bs p e most Post h => Go.Ab.ASpec.of_vc g130 Go.Proofs.Tryz.func130 (by kernel_rfl) (by kernel_rfl) (by kernel_rfl) (Go.Ab.kc (by kernel_rfl) h)
theorem v130_3 : ∀ (bs : List UInt8) (p e : Int) (acc : List T.Rel) (n : Int) (n_1 : Nat) (Post : AV → List AObj → Prop),
  condP (decide (n > (0 : Int)))
      (ASpec Tryz.prog 161 [.ptr 0 0]
        [AObj.cells [.sl 1 (.map encB (0 : UInt8) bs) .none, .int .i64 p, AV.int .i64 e], AObj.cells [.ptr 0 0],
         AObj.cells [.fn (124 : FuncId) [.ptr 1 0]], AObj.cells [.fn (126 : FuncId) [.ptr 1 0]],
         AObj.cells [.fn (128 : FuncId) [.ptr 2 0, .ptr 1 0, .ptr 3 0]], AObj.tok]
        fun (r : AV) (H' : List AObj) =>
        ∃ (x : Int),
         r = AV.int .i64 x ∧
         H' =
         [AObj.cells [.sl 1 (.map encB (0 : UInt8) bs) .none, .int .i64 p, AV.int .i64 e], AObj.cells [.ptr 0 0],
         AObj.cells [.fn (124 : FuncId) [.ptr 1 0]], AObj.cells [.fn (126 : FuncId) [.ptr 1 0]],
         AObj.cells [.fn (128 : FuncId) [.ptr 2 0, .ptr 1 0, .ptr 3 0]], AObj.tok] ∧
         condP (x == (0 : Int))
         (ASpec Tryz.prog 131 [.ptr 1 0, .ptr 4 0]
         [AObj.cells [.sl 1 (.map encB (0 : UInt8) bs) .none, .int .i64 p, AV.int .i64 e], AObj.cells [.ptr 0 0],
         AObj.cells [.fn (124 : FuncId) [.ptr 1 0]], AObj.cells [.fn (126 : FuncId) [.ptr 1 0]],
         AObj.cells [.fn (128 : FuncId) [.ptr 2 0, .ptr 1 0, .ptr 3 0]], AObj.tok]
         fun (r : AV) (H' : List AObj) =>
         ∃ (x : T.Rel × Int × Int),
         r = AV.agg [.int .i64 (Prod.fst (Prod.fst x)), .sl 2 (.map T.encN ([], []) (Prod.snd (Prod.fst x))) .none] ∧
         H' =
         [AObj.cells [.sl 1 (.map encB (0 : UInt8) bs) .none, .int .i64 (Prod.fst (Prod.snd x)), .int .i64 (Prod.snd (Prod.snd x))],
         AObj.cells [.ptr 0 0], AObj.cells [.fn (124 : FuncId) [.ptr 1 0]], AObj.cells [.fn (126 : FuncId) [.ptr 1 0]],
         AObj.cells [.fn (128 : FuncId) [.ptr 2 0, .ptr 1 0, .ptr 3 0]], AObj.tok] ∧
         needP ((List.length acc + 1) * 32 ≤ 140737488351232)
         (AWP Tryz.prog 27 n_1 c130_3
         [(0, .ptr 0 0), (2, .fn (131 : FuncId) [.ptr 1 0, .ptr 4 0]),
         (7,
         AV.sl 2
         (.app (.map T.encR ((0 : Int), []) acc)
         (.raw [[.int .i64 (Prod.fst (Prod.fst x)), .sl 2 (.map T.encN ([], []) (Prod.snd (Prod.fst x))) .none]]))
         (.tok 6)),
         (8, .int .i64 (IntKind.wrap .i64 (n - (1 : Int))))]
         [AObj.cells [.sl 1 (.map encB (0 : UInt8) bs) .none, .int .i64 (Prod.fst (Prod.snd x)), .int .i64 (Prod.snd (Prod.snd x))],
         AObj.cells [.ptr 0 0], AObj.cells [.fn (124 : FuncId) [.ptr 1 0]], AObj.cells [.fn (126 : FuncId) [.ptr 1 0]],
         AObj.cells [.fn (128 : FuncId) [.ptr 2 0, .ptr 1 0, .ptr 3 0]], AObj.gone, AObj.tok]
         (q130_2 n_1 Post)))
         (Post (.sl 2 (.map T.encR ((0 : Int), []) acc) (.tok 5))
         [AObj.cells [.sl 1 (.map encB (0 : UInt8) bs) .none, .int .i64 p, AV.int .i64 e], AObj.cells [.ptr 0 0],
         AObj.cells [.fn (124 : FuncId) [.ptr 1 0]], AObj.cells [.fn (126 : FuncId) [.ptr 1 0]],
         AObj.cells [.fn (128 : FuncId) [.ptr 2 0, .ptr 1 0, .ptr 3 0]], AObj.tok]))
      (Post (.sl 2 (.map T.encR ((0 : Int), []) acc) (.tok 5))
        [AObj.cells [.sl 1 (.map encB (0 : UInt8) bs) .none, .int .i64 p, AV.int .i64 e], AObj.cells [.ptr 0 0],
         AObj.cells [.fn (124 : FuncId) [.ptr 1 0]], AObj.cells [.fn (126 : FuncId) [.ptr 1 0]],
         AObj.cells [.fn (128 : FuncId) [.ptr 2 0, .ptr 1 0, .ptr 3 0]], AObj.tok]) →
    AWP Tryz.prog 27 n_1 c130_3
      [(0, .ptr 0 0), (2, .fn (131 : FuncId) [.ptr 1 0, .ptr 4 0]),
        (7, .sl 2 (.map T.encR ((0 : Int), []) acc) (.tok 5)), (8, .int .i64 n)]
      (HR bs p e ++ [AObj.tok]) (q130_2 n_1 Post) := fun bs p e acc n n Post h => Go.Ab.AWP.loop' g130 (Cfg.live g130) c130_3 (by kernel_rfl) (by kernel_rfl) (Go.Ab.kc (by kernel_rfl) h)

-- 93
noncomputable def l93 : Nat → List Nat
  | _ => []
noncomputable def u93 : Nat → Bool
  | _ => false
noncomputable def m93 : Nat → Bool
  | _ => false
noncomputable def g93 : Cfg := { N := 40, live := l93, cut := u93, mu := m93, ret := rets }
theorem s93 : ∀ (bs : List UInt8) (Post : AV → List AObj → Prop),
  condP (decide ((↑(List.length bs) : Int) > (8192 : Int)))
      (Post (.tup [AV.agg [AV.str { data := #[] }, AV.sl 0 (.raw []) .nil], .int .i64 (4 : Int)]) [AObj.cells [.str { data := #[] }, AV.sl 0 (.raw []) .nil]])
      (ASpec Tryz.prog 123 [.sl 1 (.map encB (0 : UInt8) bs) .none] [AObj.cells [.str { data := #[] }, AV.sl 0 (.raw []) .nil]] fun (r : AV) (H' : List AObj) =>
        ∃ (x : List UInt8),
         r = AV.ptr 1 0 ∧
         H' =
         [AObj.cells [.str { data := #[] }, AV.sl 0 (.raw []) .nil],
         AObj.cells [.sl 1 (.map encB (0 : UInt8) x) .none, .int .i64 (0 : Int), .int .i64 (0 : Int)]] ∧
         ASpec Tryz.prog 124 [.ptr 2 0]
         [AObj.cells [.str { data := #[] }, AV.sl 0 (.raw []) .nil],
         AObj.cells [.sl 1 (.map encB (0 : UInt8) x) .none, .int .i64 (0 : Int), .int .i64 (0 : Int)], AObj.cells [.ptr 1 0],
         AObj.cells [.fn 124 [.ptr 2 0]], AObj.cells [.fn 126 [.ptr 2 0]],
         AObj.cells [.fn 128 [.ptr 3 0, .ptr 2 0, .ptr 4 0]]]
         fun (r : AV) (H' : List AObj) =>
         ∃ (x_1 : ByteArray × Int × Int),
         r = AV.str (Prod.fst x_1) ∧
         H' =
         [AObj.cells [.str { data := #[] }, AV.sl 0 (.raw []) .nil],
         AObj.cells [.sl 1 (.map encB (0 : UInt8) x) .none, .int .i64 (Prod.fst (Prod.snd x_1)), .int .i64 (Prod.snd (Prod.snd x_1))],
         AObj.cells [.ptr 1 0], AObj.cells [.fn 124 [.ptr 2 0]], AObj.cells [.fn 126 [.ptr 2 0]],
         AObj.cells [.fn 128 [.ptr 3 0, .ptr 2 0, .ptr 4 0]]] ∧
         ASpec Tryz.prog 130 [.ptr 1 0, .int .i64 (8 : Int), .fn 131 [.ptr 2 0, .ptr 5 0]]
         [AObj.cells [.str { data := #[] }, AV.sl 0 (.raw []) .nil],
         AObj.cells [.sl 1 (.map encB (0 : UInt8) x) .none, .int .i64 (Prod.fst (Prod.snd x_1)), .int .i64 (Prod.snd (Prod.snd x_1))],
         AObj.cells [.ptr 1 0], AObj.cells [.fn 124 [.ptr 2 0]], AObj.cells [.fn 126 [.ptr 2 0]],
         AObj.cells [.fn 128 [.ptr 3 0, .ptr 2 0, .ptr 4 0]],
         AObj.cells [.str (Prod.fst x_1), .sl 0 (.raw []) .nil]]
         fun (r : AV) (H' : List AObj) =>
         ∃ (x_2 : List T.Rel × Int × Int),
         r = AV.sl 2 (.map T.encR ((0 : Int), []) (Prod.fst x_2)) .none ∧
         H' =
         [AObj.cells [.str { data := #[] }, AV.sl 0 (.raw []) .nil],
         AObj.cells [.sl 1 (.map encB (0 : UInt8) x) .none, .int .i64 (Prod.fst (Prod.snd x_2)), .int .i64 (Prod.snd (Prod.snd x_2))],
         AObj.cells [.ptr 1 0], AObj.cells [.fn 124 [.ptr 2 0]], AObj.cells [.fn 126 [.ptr 2 0]],
         AObj.cells [.fn 128 [.ptr 3 0, .ptr 2 0, .ptr 4 0]],
         AObj.cells [.str (Prod.fst x_1), .sl 0 (.raw []) .nil]] ∧
         ASpec Tryz.prog 133 [.ptr 1 0]
         [AObj.cells [.str { data := #[] }, AV.sl 0 (.raw []) .nil],
         AObj.cells [.sl 1 (.map encB (0 : UInt8) x) .none, .int .i64 (Prod.fst (Prod.snd x_2)), .int .i64 (Prod.snd (Prod.snd x_2))],
         AObj.cells [.ptr 1 0], AObj.cells [.fn 124 [.ptr 2 0]], AObj.cells [.fn 126 [.ptr 2 0]],
         AObj.cells [.fn 128 [.ptr 3 0, .ptr 2 0, .ptr 4 0]],
         AObj.cells [.str (Prod.fst x_1), .sl 2 (.map T.encR ((0 : Int), []) (Prod.fst x_2)) .none]]
         fun (r : AV) (H' : List AObj) =>
         ∃ (x_3 : Int),
         r = AV.int .i64 x_3 ∧
         H' =
         [AObj.cells [.str { data := #[] }, AV.sl 0 (.raw []) .nil],
         AObj.cells
         [.sl 1 (.map encB (0 : UInt8) x) .none, .int .i64 (Prod.fst (Prod.snd x_2)), .int .i64 (Prod.snd (Prod.snd x_2))],
         AObj.cells [.ptr 1 0], AObj.cells [.fn 124 [.ptr 2 0]],
         AObj.cells [.fn 126 [.ptr 2 0]],
         AObj.cells [.fn 128 [.ptr 3 0, .ptr 2 0, .ptr 4 0]],
         AObj.cells [.str (Prod.fst x_1), .sl 2 (.map T.encR ((0 : Int), []) (Prod.fst x_2)) .none]] ∧
         condP (x_3 == (0 : Int))
         (ASpec Tryz.prog 134 [.agg [.str (Prod.fst x_1), .sl 2 (.map T.encR ((0 : Int), []) (Prod.fst x_2)) .none]]
         [AObj.cells [.str { data := #[] }, AV.sl 0 (.raw []) .nil],
         AObj.cells
         [.sl 1 (.map encB (0 : UInt8) x) .none, .int .i64 (Prod.fst (Prod.snd x_2)), .int .i64 (Prod.snd (Prod.snd x_2))],
         AObj.cells [.ptr 1 0], AObj.cells [.fn 124 [.ptr 2 0]],
         AObj.cells [.fn 126 [.ptr 2 0]],
         AObj.cells [.fn 128 [.ptr 3 0, .ptr 2 0, .ptr 4 0]],
         AObj.cells [.str (Prod.fst x_1), .sl 2 (.map T.encR ((0 : Int), []) (Prod.fst x_2)) .none]]
         fun (r : AV) (H' : List AObj) =>
         ∃ (x_4 : Bool),
         r = AV.bool x_4 ∧
         H' =
         [AObj.cells [.str { data := #[] }, AV.sl 0 (.raw []) .nil],
         AObj.cells
         [.sl 1 (.map encB (0 : UInt8) x) .none, .int .i64 (Prod.fst (Prod.snd x_2)),
         AV.int .i64 (Prod.snd (Prod.snd x_2))],
         AObj.cells [.ptr 1 0], AObj.cells [.fn 124 [.ptr 2 0]],
         AObj.cells [.fn 126 [.ptr 2 0]],
         AObj.cells [.fn 128 [.ptr 3 0, .ptr 2 0, .ptr 4 0]],
         AObj.cells [.str (Prod.fst x_1), .sl 2 (.map T.encR ((0 : Int), []) (Prod.fst x_2)) .none]] ∧
         condP (!x_4)
         (Post (.tup [.agg [.str { data := #[] }, AV.sl 0 (.raw []) .nil], .int .i64 (3 : Int)])
         [AObj.cells [.str { data := #[] }, AV.sl 0 (.raw []) .nil],
         AObj.cells
         [.sl 1 (.map encB (0 : UInt8) x) .none, .int .i64 (Prod.fst (Prod.snd x_2)),
         AV.int .i64 (Prod.snd (Prod.snd x_2))],
         AObj.cells [.ptr 1 0], AObj.cells [.fn 124 [.ptr 2 0]],
         AObj.cells [.fn 126 [.ptr 2 0]],
         AObj.cells [.fn 128 [.ptr 3 0, .ptr 2 0, .ptr 4 0]],
         AObj.cells [.str (Prod.fst x_1), .sl 2 (.map T.encR ((0 : Int), []) (Prod.fst x_2)) .none]])
         (condP (x_3 != (0 : Int))
         (Post (.tup [.agg [.str { data := #[] }, AV.sl 0 (.raw []) .nil], .int .i64 x_3])
         [AObj.cells [.str { data := #[] }, AV.sl 0 (.raw []) .nil],
         AObj.cells
         [.sl 1 (.map encB (0 : UInt8) x) .none, .int .i64 (Prod.fst (Prod.snd x_2)),
         AV.int .i64 (Prod.snd (Prod.snd x_2))],
         AObj.cells [.ptr 1 0], AObj.cells [.fn 124 [.ptr 2 0]],
         AObj.cells [.fn 126 [.ptr 2 0]],
         AObj.cells [.fn 128 [.ptr 3 0, .ptr 2 0, .ptr 4 0]],
         AObj.cells [.str (Prod.fst x_1), .sl 2 (.map T.encR ((0 : Int), []) (Prod.fst x_2)) .none]])
         (Post
         (AV.tup [.agg [.str (Prod.fst x_1), .sl 2 (.map T.encR ((0 : Int), []) (Prod.fst x_2)) .none], .int .i64 (0 : Int)])
         [AObj.cells [.str (Prod.fst x_1), .sl 2 (.map T.encR ((0 : Int), []) (Prod.fst x_2)) .none],
         AObj.cells
         [.sl 1 (.map encB (0 : UInt8) x) .none, .int .i64 (Prod.fst (Prod.snd x_2)),
         AV.int .i64 (Prod.snd (Prod.snd x_2))],
         AObj.cells [.ptr 1 0], AObj.cells [.fn 124 [.ptr 2 0]],
         AObj.cells [.fn 126 [.ptr 2 0]],
         AObj.cells [.fn 128 [.ptr 3 0, .ptr 2 0, .ptr 4 0]],
         AObj.cells [.str (Prod.fst x_1), .sl 2 (.map T.encR ((0 : Int), []) (Prod.fst x_2)) .none]])))
         (condP (x_3 != (0 : Int))
         (Post (.tup [.agg [.str { data := #[] }, AV.sl 0 (.raw []) .nil], .int .i64 x_3])
         [AObj.cells [.str { data := #[] }, AV.sl 0 (.raw []) .nil],
         AObj.cells
         [.sl 1 (.map encB (0 : UInt8) x) .none, .int .i64 (Prod.fst (Prod.snd x_2)), .int .i64 (Prod.snd (Prod.snd x_2))],
         AObj.cells [.ptr 1 0], AObj.cells [.fn 124 [.ptr 2 0]],
         AObj.cells [.fn 126 [.ptr 2 0]],
         AObj.cells [.fn 128 [.ptr 3 0, .ptr 2 0, .ptr 4 0]],
         AObj.cells [.str (Prod.fst x_1), .sl 2 (.map T.encR ((0 : Int), []) (Prod.fst x_2)) .none]])
         (Post (.tup [.agg [.str (Prod.fst x_1), .sl 2 (.map T.encR ((0 : Int), []) (Prod.fst x_2)) .none], .int .i64 (0 : Int)])
         [AObj.cells [.str (Prod.fst x_1), .sl 2 (.map T.encR ((0 : Int), []) (Prod.fst x_2)) .none],
         AObj.cells
         [.sl 1 (.map encB (0 : UInt8) x) .none, .int .i64 (Prod.fst (Prod.snd x_2)), .int .i64 (Prod.snd (Prod.snd x_2))],
         AObj.cells [.ptr 1 0], AObj.cells [.fn 124 [.ptr 2 0]],
         AObj.cells [.fn 126 [.ptr 2 0]],
         AObj.cells [.fn 128 [.ptr 3 0, .ptr 2 0, .ptr 4 0]],
         AObj.cells [.str (Prod.fst x_1), .sl 2 (.map T.encR ((0 : Int), []) (Prod.fst x_2)) .none]]))) →
    ASpec Tryz.prog 93 [.sl 1 (.map encB (0 : UInt8) bs) .none] [] Post := fun bs Post h => Go.Ab.ASpec.of_vc g93 Go.Proofs.Tryz.func93 (by kernel_rfl) (by kernel_rfl) (by kernel_rfl) (Go.Ab.kc (by kernel_rfl) h)

-- 137
noncomputable def l137 : Nat → List Nat
  | 4 => [0, 3, 4, 5]
  | 9 => [0, 3, 4, 5, 6, 7, 8]
  | _ => []
noncomputable def u137 : Nat → Bool
  | _ => false
noncomputable def m137 : Nat → Bool
  | _ => false
noncomputable def g137 : Cfg := { N := 47, live := l137, cut := u137, mu := m137, ret := rets }
noncomputable def c137 : Go.Code := Go.Ab.bodyOf Go.Proofs.Tryz.f137
noncomputable def q137_0 : Nat → (AV → List AObj → Prop) → AQ := fun (n : Nat) (Post : AV → List AObj → Prop) => endQ Tryz.prog (resultsOf Tryz.f137) Post
noncomputable def q137_1 : Nat → (AV → List AObj → Prop) → AQ := fun (n : Nat) (Post : AV → List AObj → Prop) => seqQ (fun (s' : Slots) (H' : List AObj) => awp Tryz.prog g137 n (codeSnd (codeSnd (codeSnd (codeSnd c137)))) s' H' (q137_0 n Post)) (q137_0 n Post)
noncomputable def q137_2 : Nat → (AV → List AObj → Prop) → AQ := fun (n : Nat) (Post : AV → List AObj → Prop) => blockQ 0 (q137_1 n Post)
noncomputable def c137_4 : Go.Code := codeFst (codeSnd (codeFst (codeSnd (codeSnd (codeSnd c137)))))
theorem s137 : ∀ (s : ByteArray) (e : Int) (Post : AV → List AObj → Prop),
  (ASpec Tryz.prog 136 [.ptr 0 0, .int .i64 (6 : Int)] [AObj.cells [.str s, AV.int .i64 e]] fun (r : AV) (H' : List AObj) =>
      ∃ (x : Int × ByteArray × Int),
        r = AV.int .i64 (Prod.fst x) ∧
         H' = [AObj.cells [.str (Prod.fst (Prod.snd x)), .int .i64 (Prod.snd (Prod.snd x))]] ∧
         AWP Tryz.prog 47 1 c137_4
         [(0, .ptr 0 0), (3, .sl 0 (.raw []) .nil), (4, .int .i64 (Prod.fst x)), (5, .int .i64 (0 : Int))]
         [AObj.cells [.str (Prod.fst (Prod.snd x)), .int .i64 (Prod.snd (Prod.snd x))]] (q137_2 1 Post)) →
    ASpec Tryz.prog 137 [.ptr 0 0] [AObj.cells [.str s, AV.int .i64 e]] Post := fun s e Post h => Go.Ab.ASpec.of_vc g137 Go.Proofs.Tryz.func137 (by kernel_rfl) (by kernel_rfl) (by kernel_rfl) (Go.Ab.kc (by kernel_rfl) h)
noncomputable def q137_3 : Nat → (AV → List AObj → Prop) → AQ := fun (n : Nat) (Post : AV → List AObj → Prop) => loopQ Tryz.prog 47 n c137_4 (q137_2 n Post) (Cfg.live g137)
noncomputable def q137_4 : Nat → (AV → List AObj → Prop) → AQ := fun (n : Nat) (Post : AV → List AObj → Prop) => seqQ (fun (s' : Slots) (H' : List AObj) => awp Tryz.prog g137 n (codeSnd (codeSnd (codeFst c137_4))) s' H' (q137_3 n Post)) (q137_3 n Post)
noncomputable def q137_5 : Nat → (AV → List AObj → Prop) → AQ := fun (n : Nat) (Post : AV → List AObj → Prop) => blockQ 1 (q137_4 n Post)
noncomputable def q137_6 : Nat → (AV → List AObj → Prop) → AQ := fun (n : Nat) (Post : AV → List AObj → Prop) => seqQ (fun (s' : Slots) (H' : List AObj) => awp Tryz.prog g137 n (codeSnd (codeSnd (codeSnd (codeFst (codeFst (codeSnd (codeFst c137_4))))))) s' H' (q137_5 n Post)) (q137_5 n Post)
noncomputable def q137_7 : Nat → (AV → List AObj → Prop) → AQ := fun (n : Nat) (Post : AV → List AObj → Prop) => blockQ 2 (q137_6 n Post)
noncomputable def c137_9 : Go.Code := codeFst (codeSnd (codeFst (codeSnd (codeSnd (codeFst (codeFst (codeSnd (codeFst c137_4))))))))
theorem v137_4 : ∀ (s : ByteArray) (e : Int) (acc : List T.Need) (n i : Int) (n_1 : Nat) (Post : AV → List AObj → Prop),
  condP (decide (i < n))
      (ASpec Tryz.prog 135 [.ptr 0 0, .int .i64 (24 : Int)] [AObj.cells [.str s, AV.int .i64 e], AObj.tok] fun (r : AV) (H' : List AObj) =>
        ∃ (x : ByteArray × ByteArray × Int),
         r = AV.str (Prod.fst x) ∧
         H' = [AObj.cells [.str (Prod.fst (Prod.snd x)), .int .i64 (Prod.snd (Prod.snd x))], AObj.tok] ∧
         ASpec Tryz.prog 136 [.ptr 0 0, .int .i64 (6 : Int)]
         [AObj.cells [.str (Prod.fst (Prod.snd x)), .int .i64 (Prod.snd (Prod.snd x))], AObj.tok, AObj.cells [.str (Prod.fst x), .sl 0 (.raw []) .nil]]
         fun (r : AV) (H' : List AObj) =>
         ∃ (x_1 : Int × ByteArray × Int),
         r = AV.int .i64 (Prod.fst x_1) ∧
         H' =
         [AObj.cells [.str (Prod.fst (Prod.snd x_1)), .int .i64 (Prod.snd (Prod.snd x_1))], AObj.tok,
         AObj.cells [.str (Prod.fst x), .sl 0 (.raw []) .nil]] ∧
         AWP Tryz.prog 47 n_1 c137_9
         [(0, .ptr 0 0), (3, .sl 2 (.map T.encN ([], []) acc) (.tok 1)), (4, .int .i64 n),
         (5, .int .i64 i), (6, .ptr 2 0), (7, .int .i64 (Prod.fst x_1)), (8, .int .i64 (0 : Int))]
         [AObj.cells [.str (Prod.fst (Prod.snd x_1)), .int .i64 (Prod.snd (Prod.snd x_1))], AObj.tok, AObj.cells [.str (Prod.fst x), .sl 0 (.raw []) .nil]]
         (q137_7 n_1 Post))
      (Post (.sl 2 (.map T.encN ([], []) acc) (.tok 1)) [AObj.cells [.str s, AV.int .i64 e], AObj.tok]) →
    AWP Tryz.prog 47 n_1 c137_4
      [(0, .ptr 0 0), (3, .sl 2 (.map T.encN ([], []) acc) (.tok 1)), (4, .int .i64 n), (5, .int .i64 i)]
      [AObj.cells [.str s, AV.int .i64 e], AObj.tok] (q137_2 n_1 Post) := fun s e acc n i n Post h => Go.Ab.AWP.loop' g137 (Cfg.live g137) c137_4 (by kernel_rfl) (by kernel_rfl) (Go.Ab.kc (by kernel_rfl) h)
theorem v137_9 : ∀ (s : ByteArray) (e : Int) (acc : List T.Need) (n i : Int) (nm : ByteArray) (sp : List T.Span) (k j : Int) (n_1 : Nat) (Post : AV → List AObj → Prop),
  condP (decide (j < k))
      (ASpec Tryz.prog 136 [.ptr 0 0, .int .i64 (1000000000 : Int)]
        [AObj.cells [.str s, AV.int .i64 e], AObj.tok, AObj.cells [.str nm, AV.sl 2 (.map T.encS ((0 : Int), (0 : Int)) sp) (.tok 3)], AObj.tok]
        fun (r : AV) (H' : List AObj) =>
        ∃ (x : Int × ByteArray × Int),
         r = AV.int .i64 (Prod.fst x) ∧
         H' =
         [AObj.cells [.str (Prod.fst (Prod.snd x)), .int .i64 (Prod.snd (Prod.snd x))], AObj.tok,
         AObj.cells [.str nm, AV.sl 2 (.map T.encS ((0 : Int), (0 : Int)) sp) (.tok 3)], AObj.tok] ∧
         ASpec Tryz.prog 136 [.ptr 0 0, .int .i64 (1000000000 : Int)]
         [AObj.cells [.str (Prod.fst (Prod.snd x)), .int .i64 (Prod.snd (Prod.snd x))], AObj.tok,
         AObj.cells [.str nm, AV.sl 2 (.map T.encS ((0 : Int), (0 : Int)) sp) (.tok 3)], AObj.tok]
         fun (r : AV) (H' : List AObj) =>
         ∃ (x_1 : Int × ByteArray × Int),
         r = AV.int .i64 (Prod.fst x_1) ∧
         H' =
         [AObj.cells [.str (Prod.fst (Prod.snd x_1)), .int .i64 (Prod.snd (Prod.snd x_1))], AObj.tok,
         AObj.cells [.str nm, AV.sl 2 (.map T.encS ((0 : Int), (0 : Int)) sp) (.tok 3)], AObj.tok] ∧
         needP ((List.length sp + 1) * 16 ≤ 140737488351232)
         (AWP Tryz.prog 47 n_1 c137_9
         [(0, .ptr 0 0), (3, .sl 2 (.map T.encN ([], []) acc) (.tok 1)), (4, .int .i64 n),
         (5, .int .i64 i), (6, .ptr 2 0), (7, .int .i64 k),
         (8, .int .i64 (IntKind.wrap .i64 (j + (1 : Int))))]
         [AObj.cells [.str (Prod.fst (Prod.snd x_1)), .int .i64 (Prod.snd (Prod.snd x_1))], AObj.tok,
         AObj.cells
         [.str nm,
         AV.sl 2
         (.app (.map T.encS ((0 : Int), (0 : Int)) sp)
         (.raw [[.int .i64 (Prod.fst x), .int .i64 (IntKind.wrap .i64 (Prod.fst x + Prod.fst x_1))]]))
         (.tok 4)],
         AObj.gone, AObj.tok]
         (q137_7 n_1 Post)))
      (needP ((List.length acc + 1) * 40 ≤ 140737488351232)
        (AWP Tryz.prog 47 n_1 c137_4
         [(0, .ptr 0 0),
         (3,
         AV.sl 2 (.app (.map T.encN ([], []) acc) (.raw [[.str nm, AV.sl 2 (.map T.encS ((0 : Int), (0 : Int)) sp) (.tok 3)]])) (.tok 4)),
         (4, .int .i64 n), (5, .int .i64 (IntKind.wrap .i64 (i + (1 : Int))))]
         [AObj.cells [.str s, AV.int .i64 e], AObj.gone, AObj.cells [.str nm, AV.sl 2 (.map T.encS ((0 : Int), (0 : Int)) sp) (.tok 3)], AObj.tok, AObj.tok]
         (q137_2 n_1 Post))) →
    AWP Tryz.prog 47 n_1 c137_9
      [(0, .ptr 0 0), (3, .sl 2 (.map T.encN ([], []) acc) (.tok 1)), (4, .int .i64 n), (5, .int .i64 i),
        (6, .ptr 2 0), (7, .int .i64 k), (8, .int .i64 j)]
      [AObj.cells [.str s, AV.int .i64 e], AObj.tok, AObj.cells [.str nm, AV.sl 2 (.map T.encS ((0 : Int), (0 : Int)) sp) (.tok 3)], AObj.tok] (q137_7 n_1 Post) := fun s e acc n i nm sp k j n Post h => Go.Ab.AWP.loop' g137 (Cfg.live g137) c137_9 (by kernel_rfl) (by kernel_rfl) (Go.Ab.kc (by kernel_rfl) h)

-- 95
noncomputable def l95 : Nat → List Nat
  | 7 => [2, 4, 5, 6, 7]
  | _ => []
noncomputable def u95 : Nat → Bool
  | _ => false
noncomputable def m95 : Nat → Bool
  | _ => false
noncomputable def g95 : Cfg := { N := 53, live := l95, cut := u95, mu := m95, ret := rets }
noncomputable def c95 : Go.Code := Go.Ab.bodyOf Go.Proofs.Tryz.f95
noncomputable def q95_0 : Nat → (AV → List AObj → Prop) → AQ := fun (n : Nat) (Post : AV → List AObj → Prop) => endQ Tryz.prog (resultsOf Tryz.f95) Post
noncomputable def q95_1 : Nat → (AV → List AObj → Prop) → AQ := fun (n : Nat) (Post : AV → List AObj → Prop) => seqQ (fun (s' : Slots) (H' : List AObj) => awp Tryz.prog g95 n (codeSnd (codeSnd (codeSnd (codeSnd (codeSnd (codeSnd c95)))))) s' H' (q95_0 n Post)) (q95_0 n Post)
noncomputable def q95_2 : Nat → (AV → List AObj → Prop) → AQ := fun (n : Nat) (Post : AV → List AObj → Prop) => blockQ 0 (q95_1 n Post)
noncomputable def c95_7 : Go.Code := codeFst (codeSnd (codeFst (codeSnd (codeSnd (codeSnd (codeSnd (codeSnd c95)))))))
theorem s95 : ∀ (s : ByteArray) (Post : AV → List AObj → Prop),
  condP (decide ((↑(ByteArray.size s) : Int) > (8192 : Int)))
      (Post (.tup [.agg [.str { data := #[] }, AV.sl 0 (.raw []) .nil], .int .i64 (4 : Int)]) [AObj.cells [.str { data := #[] }, AV.sl 0 (.raw []) .nil]])
      (ASpec Tryz.prog 135 [.ptr 1 0, .int .i64 (24 : Int)]
        [AObj.cells [.str { data := #[] }, AV.sl 0 (.raw []) .nil], AObj.cells [.str s, AV.int .i64 (0 : Int)]] fun (r : AV) (H' : List AObj) =>
        ∃ (x : ByteArray × ByteArray × Int),
         r = AV.str (Prod.fst x) ∧
         H' = [AObj.cells [.str { data := #[] }, AV.sl 0 (.raw []) .nil], AObj.cells [.str (Prod.fst (Prod.snd x)), .int .i64 (Prod.snd (Prod.snd x))]] ∧
         ASpec Tryz.prog 136 [.ptr 1 0, .int .i64 (8 : Int)]
         [AObj.cells [.str { data := #[] }, AV.sl 0 (.raw []) .nil], AObj.cells [.str (Prod.fst (Prod.snd x)), .int .i64 (Prod.snd (Prod.snd x))],
         AObj.cells [.str (Prod.fst x), .sl 0 (.raw []) .nil]]
         fun (r : AV) (H' : List AObj) =>
         ∃ (x_1 : Int × ByteArray × Int),
         r = AV.int .i64 (Prod.fst x_1) ∧
         H' =
         [AObj.cells [.str { data := #[] }, AV.sl 0 (.raw []) .nil], AObj.cells [.str (Prod.fst (Prod.snd x_1)), .int .i64 (Prod.snd (Prod.snd x_1))],
         AObj.cells [.str (Prod.fst x), .sl 0 (.raw []) .nil]] ∧
         AWP Tryz.prog 53 0 c95_7
         [(2, .ptr 0 0), (4, .ptr 1 0), (5, .ptr 2 0), (6, .int .i64 (Prod.fst x_1)),
         (7, .int .i64 (0 : Int))]
         [AObj.cells [.str { data := #[] }, AV.sl 0 (.raw []) .nil], AObj.cells [.str (Prod.fst (Prod.snd x_1)), .int .i64 (Prod.snd (Prod.snd x_1))],
         AObj.cells [.str (Prod.fst x), .sl 0 (.raw []) .nil]]
         (q95_2 0 Post)) →
    ASpec Tryz.prog 95 [.str s] [] Post := fun s Post h => Go.Ab.ASpec.of_vc g95 Go.Proofs.Tryz.func95 (by kernel_rfl) (by kernel_rfl) (by kernel_rfl) (Go.Ab.kc (by kernel_rfl) h)
theorem v95_7 : ∀ (s : ByteArray) (e : Int) (nm : ByteArray) (acc : List T.Rel) (n i : Int) (n_1 : Nat) (Post : AV → List AObj → Prop),
  condP (decide (i < n))
      (ASpec Tryz.prog 136 [.ptr 1 0, .int .i64 (1000000000 : Int)]
        [AObj.cells [.str { data := #[] }, AV.sl 0 (.raw []) .nil], AObj.cells [.str s, AV.int .i64 e],
         AObj.cells [.str nm, AV.sl 2 (.map T.encR ((0 : Int), []) acc) (.tok 3)], AObj.tok]
        fun (r : AV) (H' : List AObj) =>
        ∃ (x : Int × ByteArray × Int),
         r = AV.int .i64 (Prod.fst x) ∧
         H' =
         [AObj.cells [.str { data := #[] }, AV.sl 0 (.raw []) .nil], AObj.cells [.str (Prod.fst (Prod.snd x)), .int .i64 (Prod.snd (Prod.snd x))],
         AObj.cells [.str nm, AV.sl 2 (.map T.encR ((0 : Int), []) acc) (.tok 3)], AObj.tok] ∧
         ASpec Tryz.prog 137 [.ptr 1 0]
         [AObj.cells [.str { data := #[] }, AV.sl 0 (.raw []) .nil], AObj.cells [.str (Prod.fst (Prod.snd x)), .int .i64 (Prod.snd (Prod.snd x))],
         AObj.cells [.str nm, AV.sl 2 (.map T.encR ((0 : Int), []) acc) (.tok 3)], AObj.tok,
         AObj.cells [.int .i64 (Prod.fst x), .sl 0 (.raw []) .nil]]
         fun (r : AV) (H' : List AObj) =>
         ∃ (x_1 : List T.Need × ByteArray × Int),
         r = AV.sl 2 (.map T.encN ([], []) (Prod.fst x_1)) .none ∧
         H' =
         [AObj.cells [.str { data := #[] }, AV.sl 0 (.raw []) .nil], AObj.cells [.str (Prod.fst (Prod.snd x_1)), .int .i64 (Prod.snd (Prod.snd x_1))],
         AObj.cells [.str nm, AV.sl 2 (.map T.encR ((0 : Int), []) acc) (.tok 3)], AObj.tok,
         AObj.cells [.int .i64 (Prod.fst x), .sl 0 (.raw []) .nil]] ∧
         needP ((List.length acc + 1) * 32 ≤ 140737488351232)
         (AWP Tryz.prog 53 n_1 c95_7
         [(2, .ptr 0 0), (4, .ptr 1 0), (5, .ptr 2 0), (6, .int .i64 n),
         (7, .int .i64 (IntKind.wrap .i64 (i + (1 : Int))))]
         [AObj.cells [.str { data := #[] }, AV.sl 0 (.raw []) .nil], AObj.cells [.str (Prod.fst (Prod.snd x_1)), .int .i64 (Prod.snd (Prod.snd x_1))],
         AObj.cells
         [.str nm,
         AV.sl 2
         (.app (.map T.encR ((0 : Int), []) acc) (.raw [[.int .i64 (Prod.fst x), .sl 2 (.map T.encN ([], []) (Prod.fst x_1)) .none]]))
         (.tok 5)],
         AObj.gone, AObj.cells [.int .i64 (Prod.fst x), .sl 2 (.map T.encN ([], []) (Prod.fst x_1)) .none], AObj.tok]
         (q95_2 n_1 Post)))
      (ASpec Tryz.prog 138 [.ptr 1 0]
        [AObj.cells [.str { data := #[] }, AV.sl 0 (.raw []) .nil], AObj.cells [.str s, AV.int .i64 e],
         AObj.cells [.str nm, AV.sl 2 (.map T.encR ((0 : Int), []) acc) (.tok 3)], AObj.tok]
        fun (r : AV) (H' : List AObj) =>
        ∃ (x : Int),
         r = AV.int .i64 x ∧
         H' =
         [AObj.cells [.str { data := #[] }, AV.sl 0 (.raw []) .nil], AObj.cells [.str s, AV.int .i64 e],
         AObj.cells [.str nm, AV.sl 2 (.map T.encR ((0 : Int), []) acc) (.tok 3)], AObj.tok] ∧
         condP (x == (0 : Int))
         (ASpec Tryz.prog 139 [.agg [.str nm, AV.sl 2 (.map T.encR ((0 : Int), []) acc) (.tok 3)]]
         [AObj.cells [.str { data := #[] }, AV.sl 0 (.raw []) .nil], AObj.cells [.str s, AV.int .i64 e],
         AObj.cells [.str nm, AV.sl 2 (.map T.encR ((0 : Int), []) acc) (.tok 3)], AObj.tok]
         fun (r : AV) (H' : List AObj) =>
         ∃ (x_1 : Bool),
         r = AV.bool x_1 ∧
         H' =
         [AObj.cells [.str { data := #[] }, AV.sl 0 (.raw []) .nil], AObj.cells [.str s, AV.int .i64 e],
         AObj.cells [.str nm, AV.sl 2 (.map T.encR ((0 : Int), []) acc) (.tok 3)], AObj.tok] ∧
         condP (!x_1)
         (Post (.tup [.agg [.str { data := #[] }, AV.sl 0 (.raw []) .nil], .int .i64 (3 : Int)])
         [AObj.cells [.str { data := #[] }, AV.sl 0 (.raw []) .nil], AObj.cells [.str s, AV.int .i64 e],
         AObj.cells [.str nm, AV.sl 2 (.map T.encR ((0 : Int), []) acc) (.tok 3)], AObj.tok])
         (condP (x != (0 : Int))
         (Post (.tup [.agg [.str { data := #[] }, AV.sl 0 (.raw []) .nil], .int .i64 x])
         [AObj.cells [.str { data := #[] }, AV.sl 0 (.raw []) .nil], AObj.cells [.str s, AV.int .i64 e],
         AObj.cells [.str nm, AV.sl 2 (.map T.encR ((0 : Int), []) acc) (.tok 3)], AObj.tok])
         (Post (.tup [.agg [.str nm, AV.sl 2 (.map T.encR ((0 : Int), []) acc) (.tok 3)], .int .i64 (0 : Int)])
         [AObj.cells [.str nm, AV.sl 2 (.map T.encR ((0 : Int), []) acc) (.tok 3)], AObj.cells [.str s, AV.int .i64 e],
         AObj.cells [.str nm, AV.sl 2 (.map T.encR ((0 : Int), []) acc) (.tok 3)], AObj.tok])))
         (condP (x != (0 : Int))
         (Post (.tup [.agg [.str { data := #[] }, AV.sl 0 (.raw []) .nil], .int .i64 x])
         [AObj.cells [.str { data := #[] }, AV.sl 0 (.raw []) .nil], AObj.cells [.str s, AV.int .i64 e],
         AObj.cells [.str nm, AV.sl 2 (.map T.encR ((0 : Int), []) acc) (.tok 3)], AObj.tok])
         (Post (.tup [.agg [.str nm, AV.sl 2 (.map T.encR ((0 : Int), []) acc) (.tok 3)], .int .i64 (0 : Int)])
         [AObj.cells [.str nm, AV.sl 2 (.map T.encR ((0 : Int), []) acc) (.tok 3)], AObj.cells [.str s, AV.int .i64 e],
         AObj.cells [.str nm, AV.sl 2 (.map T.encR ((0 : Int), []) acc) (.tok 3)], AObj.tok]))) →
    AWP Tryz.prog 53 n_1 c95_7
      [(2, .ptr 0 0), (4, .ptr 1 0), (5, .ptr 2 0), (6, .int .i64 n), (7, .int .i64 i)]
      [AObj.cells [.str { data := #[] }, AV.sl 0 (.raw []) .nil], AObj.cells [.str s, AV.int .i64 e],
        AObj.cells [.str nm, AV.sl 2 (.map T.encR ((0 : Int), []) acc) (.tok 3)], AObj.tok]
      (q95_2 n_1 Post) := fun s e nm acc n i n Post h => Go.Ab.AWP.loop' g95 (Cfg.live g95) c95_7 (by kernel_rfl) (by kernel_rfl) (Go.Ab.kc (by kernel_rfl) h)

end
end W
end

section
/- Entries, and what an index knows. -/

open Go Go.Ab Go.Proofs
namespace T
/-- name, body -/
abbrev Ent := List UInt8 × List UInt8
noncomputable def encEn (x : Ent) : List AV := [.str ⟨x.1.toArray⟩, .sl 1 (.map encB 0 x.2) .none]
/-- a manifest, or a name that is broken -/
abbrev Known := Option Mani
noncomputable def encK : Known → AV
  | some m => .iface 154 (.agg (encM m))
  | none => .iface 152 (.agg [])
noncomputable def EK : Enc Known := ⟨encK, fun a K => optionP a (fun m => K (.iface 154 (.agg (encM m)))) (K (.iface 152 (.agg []))), fun a K h => by cases a <;> exact h⟩
abbrev Kn := List (ByteArray × Known)
noncomputable def HX (es : Kn) : List AObj := [.mp (.typed EK es), .cells [.map 0]]
end T
end

section
/- Printed: what the code of functions 5, 31, 60, 77, 32, 210, 209, 61, 143, 103, 101 asks for, by the framework's own reading of it; each line is checked against the code. -/

set_option linter.unusedVariables false
set_option maxRecDepth 100000
set_option maxHeartbeats 4000000
open Go Go.Ab Go.Proofs
namespace X
noncomputable section

noncomputable def updI (args : List AV) (H : List AObj) (es : T.Kn) : List AObj := match args with
  | .ptr p _ :: _ => match H[p]? with
    | some (.cells [.map q]) => H.set q (.mp (.typed T.EK es))
    | _ => H
  | _ => H
noncomputable def retX : List (Nat × Ret) := [
  (5, ⟨Bool, fun _ _ x => .bool x, fun _ H _ => H⟩), (60, ⟨Bool, fun _ _ x => .bool x, fun _ H _ => H⟩),
  (9111, ⟨Unit, fun _ _ _ => .bool true, fun _ H _ => H⟩),
  (210, ⟨Unit, fun _ _ _ => .bool true, fun _ H _ => H⟩),
  (209, ⟨Unit, fun _ _ _ => .bool false, fun _ H _ => H⟩),
  (31, ⟨Unit, fun _ H _ => .ptr (H.length + 1) 0, fun _ H _ => H ++ [.mp (.typed T.EK []), .cells [.map H.length]]⟩),
  (77, ⟨T.Mani × Bool, fun _ _ x => .tup [.agg (T.encM x.1), .bool x.2], fun _ H _ => H⟩),
  (208, ⟨Int, fun _ _ x => .int .i64 x, fun _ H _ => H⟩),
  (32, ⟨Int × T.Kn, fun _ _ x => .int .i64 x.1, fun a H x => updI a H x.2⟩),
  (101, ⟨T.Mani, fun _ _ x => .agg (T.encM x), fun _ H _ => H⟩),
  (103, ⟨T.Rel, fun _ _ x => .agg (T.encR x), fun _ H _ => H⟩),
  (143, ⟨List T.Span, fun _ _ x => .sl 2 (.map T.encS (0, 0) x) .none, fun _ H _ => H⟩),
  (61, ⟨T.Mani, fun _ _ x => .iface 154 (.agg (T.encM x)), fun _ H _ => H⟩),
  (61, ⟨Unit, fun _ _ _ => .iface 152 (.agg []), fun _ H _ => H⟩)]
noncomputable def rets : FuncId → List Ret := lookupR (retX ++ W.retW ++ C.retC ++ V.retL)

-- 5
noncomputable def l5 : Nat → List Nat
  | 4 => [0, 3]
  | _ => []
noncomputable def u5 : Nat → Bool
  | _ => false
noncomputable def m5 : Nat → Bool
  | _ => false
noncomputable def g5 : Cfg := { N := 29, live := l5, cut := u5, mu := m5, ret := rets }
noncomputable def c5 : Go.Code := Go.Ab.bodyOf Go.Proofs.Tryz.f5
noncomputable def q5_0 : Nat → (AV → List AObj → Prop) → AQ := fun (n : Nat) (Post : AV → List AObj → Prop) => endQ Tryz.prog (resultsOf Tryz.f5) Post
noncomputable def q5_1 : Nat → (AV → List AObj → Prop) → AQ := fun (n : Nat) (Post : AV → List AObj → Prop) => seqQ (fun (s' : Slots) (H' : List AObj) => awp Tryz.prog g5 n (codeSnd (codeSnd (codeSnd c5))) s' H' (q5_0 n Post)) (q5_0 n Post)
noncomputable def q5_2 : Nat → (AV → List AObj → Prop) → AQ := fun (n : Nat) (Post : AV → List AObj → Prop) => blockQ 0 (q5_1 n Post)
noncomputable def c5_4 : Go.Code := codeFst (codeSnd (codeFst (codeSnd (codeSnd c5))))
theorem s5 : ∀ (l : List T.Ent) (Post : AV → List AObj → Prop),
  condP (decide ((↑(List.length l) : Int) > (30 : Int))) (Post (.bool true) [])
      (AWP Tryz.prog 29 0 c5_4 [(0, .sl 2 (.map T.encEn ([], []) l) .none), (3, .int .i64 (0 : Int))] [] (q5_2 0 Post)) →
    ASpec Tryz.prog 5 [.sl 2 (.map T.encEn ([], []) l) .none] [] Post := fun l Post h => Go.Ab.ASpec.of_vc g5 Go.Proofs.Tryz.func5 (by kernel_rfl) (by kernel_rfl) (by kernel_rfl) (Go.Ab.kc (by kernel_rfl) h)
theorem v5_4 : ∀ (l : List T.Ent) (i : Int) (n : Nat) (Post : AV → List AObj → Prop),
  condP (decide (i < (↑(List.length l) : Int)))
      (needP ((0 : Int) ≤ i ∧ i < (↑(List.length l) : Int))
        (condP (decide ((↑(ByteArray.size { data := List.toArray (Prod.fst (List.getD l (Int.toNat i) ([], []))) }) : Int) > (200 : Int))) (Post (.bool true) [])
         (needP ((0 : Int) ≤ i ∧ i < (↑(List.length l) : Int))
         (condP (decide ((↑(List.length (Prod.snd (List.getD l (Int.toNat i) ([], [])))) : Int) > (9000 : Int))) (Post (.bool true) [])
         (AWP Tryz.prog 29 n c5_4 [(0, .sl 2 (.map T.encEn ([], []) l) .none), (3, .int .i64 (IntKind.wrap .i64 (i + (1 : Int))))] []
         (q5_2 n Post))))))
      (Post (.bool false) []) →
    AWP Tryz.prog 29 n c5_4 [(0, .sl 2 (.map T.encEn ([], []) l) .none), (3, .int .i64 i)] [] (q5_2 n Post) := fun l i n Post h => Go.Ab.AWP.loop' g5 (Cfg.live g5) c5_4 (by kernel_rfl) (by kernel_rfl) (Go.Ab.kc (by kernel_rfl) h)

-- 31
noncomputable def l31 : Nat → List Nat
  | _ => []
noncomputable def u31 : Nat → Bool
  | _ => false
noncomputable def m31 : Nat → Bool
  | _ => false
noncomputable def g31 : Cfg := { N := 4, live := l31, cut := u31, mu := m31, ret := rets }
theorem s31 : ∀ (Post : AV → List AObj → Prop), Post (.ptr 1 0) [AObj.mp MM.nil, AObj.cells [.map 0]] → ASpec Tryz.prog 31 [] [] Post := fun Post h => Go.Ab.ASpec.of_vc g31 Go.Proofs.Tryz.func31 (by kernel_rfl) (by kernel_rfl) (by kernel_rfl) (Go.Ab.kc (by kernel_rfl) h)

-- 60
noncomputable def l60 : Nat → List Nat
  | _ => []
noncomputable def u60 : Nat → Bool
  | _ => false
noncomputable def m60 : Nat → Bool
  | _ => false
noncomputable def g60 : Cfg := { N := 19, live := l60, cut := u60, mu := m60, ret := rets }
theorem s60 : ∀ (es : T.Kn) (s : ByteArray) (Post : AV → List AObj → Prop),
  optionP (findM es s)
      (fun (x : T.Known) =>
        optionP x (fun (x : T.Mani) => Post (.bool true) [AObj.mp (MM.typed T.EK es), AObj.cells [.map 0]])
         (Post (.bool true) [AObj.mp (MM.typed T.EK es), AObj.cells [.map 0]]))
      (Post (.bool false) [AObj.mp (MM.typed T.EK es), AObj.cells [.map 0]]) →
    ASpec Tryz.prog 60 [.ptr 1 0, .str s] (T.HX es) Post := fun es s Post h => Go.Ab.ASpec.of_vc g60 Go.Proofs.Tryz.func60 (by kernel_rfl) (by kernel_rfl) (by kernel_rfl) (Go.Ab.kc (by kernel_rfl) h)

-- 77
noncomputable def l77 : Nat → List Nat
  | _ => []
noncomputable def u77 : Nat → Bool
  | _ => false
noncomputable def m77 : Nat → Bool
  | _ => false
noncomputable def g77 : Cfg := { N := 35, live := l77, cut := u77, mu := m77, ret := rets }
theorem s77 : ∀ (es : T.Kn) (s : ByteArray) (Post : AV → List AObj → Prop),
  (ASpec Tryz.prog 60 [.ptr 1 0, .str s]
      [AObj.mp (MM.typed T.EK es), AObj.cells [.map 0], AObj.cells [.str { data := #[] }, AV.sl 0 (.raw []) .nil],
        AObj.cells [.str s, AV.sl 0 (.raw []) .nil]]
      fun (r : AV) (H' : List AObj) =>
      ∃ (x : Bool),
        r = AV.bool x ∧
         H' =
         [AObj.mp (MM.typed T.EK es), AObj.cells [.map 0], AObj.cells [.str { data := #[] }, AV.sl 0 (.raw []) .nil],
         AObj.cells [.str s, AV.sl 0 (.raw []) .nil]] ∧
         condP (!x)
         (Post (.tup [.agg [.str s, AV.sl 0 (.raw []) .nil], .bool false])
         [AObj.mp (MM.typed T.EK es), AObj.cells [.map 0], AObj.cells [.str s, AV.sl 0 (.raw []) .nil], AObj.cells [.str s, AV.sl 0 (.raw []) .nil]])
         (optionP (findM es s)
         (fun (x : T.Known) =>
         optionP x
         (fun (x : T.Mani) =>
         ASpec Tryz.prog 210 [.agg [.str { data := List.toArray (Prod.fst x) }, AV.sl 2 (.map T.encR ((0 : Int), []) (Prod.snd x)) .none]]
         [AObj.mp (MM.typed T.EK es), AObj.cells [.map 0], AObj.cells [.str { data := #[] }, AV.sl 0 (.raw []) .nil],
         AObj.cells [.str s, AV.sl 0 (.raw []) .nil]]
         fun (r : AV) (H' : List AObj) =>
         ∃ (x : Unit),
         r = AV.bool true ∧
         H' =
         [AObj.mp (MM.typed T.EK es), AObj.cells [.map 0], AObj.cells [.str { data := #[] }, AV.sl 0 (.raw []) .nil],
         AObj.cells [.str s, AV.sl 0 (.raw []) .nil]] ∧
         optionP (findM es s)
         (fun (x : T.Known) =>
         optionP x
         (fun (x : T.Mani) =>
         ASpec Tryz.prog 101 [.agg [.str { data := List.toArray (Prod.fst x) }, AV.sl 2 (.map T.encR ((0 : Int), []) (Prod.snd x)) .none]]
         [AObj.mp (MM.typed T.EK es), AObj.cells [.map 0], AObj.cells [.str { data := #[] }, AV.sl 0 (.raw []) .nil],
         AObj.cells [.str s, AV.sl 0 (.raw []) .nil],
         AObj.cells [.str { data := List.toArray (Prod.fst x) }, AV.sl 2 (.map T.encR ((0 : Int), []) (Prod.snd x)) .none]]
         fun (r : AV) (H' : List AObj) =>
         ∃ (x_1 : List UInt8 × List T.Rel),
         r = AV.agg [.str { data := List.toArray (Prod.fst x_1) }, AV.sl 2 (.map T.encR ((0 : Int), []) (Prod.snd x_1)) .none] ∧
         H' =
         [AObj.mp (MM.typed T.EK es), AObj.cells [.map 0], AObj.cells [.str { data := #[] }, AV.sl 0 (.raw []) .nil],
         AObj.cells [.str s, AV.sl 0 (.raw []) .nil],
         AObj.cells [.str { data := List.toArray (Prod.fst x) }, AV.sl 2 (.map T.encR ((0 : Int), []) (Prod.snd x)) .none]] ∧
         Post
         (AV.tup
         [.agg [.str { data := List.toArray (Prod.fst x_1) }, AV.sl 2 (.map T.encR ((0 : Int), []) (Prod.snd x_1)) .none], .bool true])
         [AObj.mp (MM.typed T.EK es), AObj.cells [.map 0],
         AObj.cells [.str { data := List.toArray (Prod.fst x_1) }, AV.sl 2 (.map T.encR ((0 : Int), []) (Prod.snd x_1)) .none],
         AObj.cells [.str s, AV.sl 0 (.raw []) .nil],
         AObj.cells [.str { data := List.toArray (Prod.fst x) }, AV.sl 2 (.map T.encR ((0 : Int), []) (Prod.snd x)) .none]])
         False)
         False)
         (ASpec Tryz.prog 209 [.agg []]
         [AObj.mp (MM.typed T.EK es), AObj.cells [.map 0], AObj.cells [.str { data := #[] }, AV.sl 0 (.raw []) .nil],
         AObj.cells [.str s, AV.sl 0 (.raw []) .nil]]
         fun (r : AV) (H' : List AObj) =>
         ∃ (x : Unit),
         r = AV.bool false ∧
         H' =
         [AObj.mp (MM.typed T.EK es), AObj.cells [.map 0], AObj.cells [.str { data := #[] }, AV.sl 0 (.raw []) .nil],
         AObj.cells [.str s, AV.sl 0 (.raw []) .nil]] ∧
         Post (.tup [.agg [.str s, AV.sl 0 (.raw []) .nil], .bool false])
         [AObj.mp (MM.typed T.EK es), AObj.cells [.map 0], AObj.cells [.str s, AV.sl 0 (.raw []) .nil],
         AObj.cells [.str s, AV.sl 0 (.raw []) .nil]]))
         False)) →
    ASpec Tryz.prog 77 [.ptr 1 0, .str s] (T.HX es) Post := fun es s Post h => Go.Ab.ASpec.of_vc g77 Go.Proofs.Tryz.func77 (by kernel_rfl) (by kernel_rfl) (by kernel_rfl) (Go.Ab.kc (by kernel_rfl) h)

-- 32
noncomputable def l32 : Nat → List Nat
  | _ => []
noncomputable def u32 : Nat → Bool
  | _ => false
noncomputable def m32 : Nat → Bool
  | _ => false
noncomputable def g32 : Cfg := { N := 32, live := l32, cut := u32, mu := m32, ret := rets }
theorem s32 : ∀ (es : T.Kn) (s : ByteArray) (bs : List UInt8) (Post : AV → List AObj → Prop),
  (ASpec Tryz.prog 59 [.str s] [AObj.mp (MM.typed T.EK es), AObj.cells [.map 0]] fun (r : AV) (H' : List AObj) =>
      ∃ (x : Bool),
        r = AV.bool x ∧
         H' = [AObj.mp (MM.typed T.EK es), AObj.cells [.map 0]] ∧
         condP (!x) (Post (.int .i64 (1 : Int)) [AObj.mp (MM.typed T.EK es), AObj.cells [.map 0]])
         (condP (decide ((↑(List.length bs) : Int) > (8192 : Int))) (Post (.int .i64 (1 : Int)) [AObj.mp (MM.typed T.EK es), AObj.cells [.map 0]])
         (ASpec Tryz.prog 60 [.ptr 1 0, .str s] [AObj.mp (MM.typed T.EK es), AObj.cells [.map 0]] fun (r : AV) (H' : List AObj) =>
         ∃ (x : Bool),
         r = AV.bool x ∧
         H' = [AObj.mp (MM.typed T.EK es), AObj.cells [.map 0]] ∧
         condP x (Post (.int .i64 (6 : Int)) [AObj.mp (MM.typed T.EK es), AObj.cells [.map 0]])
         (ASpec Tryz.prog 61 [.str s, AV.sl 1 (.map encB (0 : UInt8) bs) .none] [AObj.mp (MM.typed T.EK es), AObj.cells [.map 0]]
         fun (r : AV) (H' : List AObj) =>
         (∃ (x : List UInt8 × List T.Rel),
         r = AV.iface (154 : TypeId) (AV.agg [.str { data := List.toArray (Prod.fst x) }, AV.sl 2 (.map T.encR ((0 : Int), []) (Prod.snd x)) .none]) ∧
         H' = [AObj.mp (MM.typed T.EK es), AObj.cells [.map 0]] ∧
         (AV.map 0 = AV.map 0 ∧ [AObj.mp (MM.typed T.EK es), AObj.cells [.map 0]] = [AObj.mp (MM.typed T.EK es), AObj.cells [.map 0]]) ∧
         Post (.int .i64 (0 : Int))
         [AObj.mp
         (MM.put (MM.typed T.EK es) s
         (AV.iface (154 : TypeId)
         (AV.agg [.str { data := List.toArray (Prod.fst x) }, AV.sl 2 (.map T.encR ((0 : Int), []) (Prod.snd x)) .none]))),
         AObj.cells [.map 0]]) ∨
         ∃ (x : Unit),
         r = AV.iface (152 : TypeId) (AV.agg []) ∧
         H' = [AObj.mp (MM.typed T.EK es), AObj.cells [.map 0]] ∧
         (AV.map 0 = AV.map 0 ∧ [AObj.mp (MM.typed T.EK es), AObj.cells [.map 0]] = [AObj.mp (MM.typed T.EK es), AObj.cells [.map 0]]) ∧
         Post (.int .i64 (0 : Int)) [AObj.mp (MM.put (MM.typed T.EK es) s (AV.iface (152 : TypeId) (AV.agg []))), AObj.cells [.map 0]])))) →
    ASpec Tryz.prog 32 [.ptr 1 0, .str s, AV.sl 1 (.map encB (0 : UInt8) bs) .none] (T.HX es) Post := fun es s bs Post h => Go.Ab.ASpec.of_vc g32 Go.Proofs.Tryz.func32 (by kernel_rfl) (by kernel_rfl) (by kernel_rfl) (Go.Ab.kc (by kernel_rfl) h)

-- 210
noncomputable def l210 : Nat → List Nat
  | _ => []
noncomputable def u210 : Nat → Bool
  | _ => false
noncomputable def m210 : Nat → Bool
  | _ => false
noncomputable def g210 : Cfg := { N := 3, live := l210, cut := u210, mu := m210, ret := rets }
theorem s210 : ∀ (m : T.Mani) (Post : AV → List AObj → Prop),
  Post (.bool true) [AObj.cells [.str { data := List.toArray (Prod.fst m) }, AV.sl 2 (.map T.encR ((0 : Int), []) (Prod.snd m)) .none]] →
    ASpec Tryz.prog 210 [.agg (T.encM m)] [] Post := fun m Post h => Go.Ab.ASpec.of_vc g210 Go.Proofs.Tryz.func210 (by kernel_rfl) (by kernel_rfl) (by kernel_rfl) (Go.Ab.kc (by kernel_rfl) h)

-- 209
noncomputable def l209 : Nat → List Nat
  | _ => []
noncomputable def u209 : Nat → Bool
  | _ => false
noncomputable def m209 : Nat → Bool
  | _ => false
noncomputable def g209 : Cfg := { N := 3, live := l209, cut := u209, mu := m209, ret := rets }
theorem s209 : ∀ (Post : AV → List AObj → Prop), Post (.bool false) [AObj.cells []] → ASpec Tryz.prog 209 [.agg []] [] Post := fun Post h => Go.Ab.ASpec.of_vc g209 Go.Proofs.Tryz.func209 (by kernel_rfl) (by kernel_rfl) (by kernel_rfl) (Go.Ab.kc (by kernel_rfl) h)

-- 61
noncomputable def l61 : Nat → List Nat
  | _ => []
noncomputable def u61 : Nat → Bool
  | _ => false
noncomputable def m61 : Nat → Bool
  | _ => false
noncomputable def g61 : Cfg := { N := 25, live := l61, cut := u61, mu := m61, ret := rets }
theorem s61 : ∀ (s : ByteArray) (bs : List UInt8) (Post : AV → List AObj → Prop),
  (ASpec Tryz.prog 93 [.sl 1 (.map encB (0 : UInt8) bs) .none] [] fun (r : AV) (H' : List AObj) =>
      ∃ (x : T.Mani × Int),
        r =
         AV.tup
         [.agg [.str { data := List.toArray (Prod.fst (Prod.fst x)) }, AV.sl 2 (.map T.encR ((0 : Int), []) (Prod.snd (Prod.fst x))) .none], .int .i64 (Prod.snd x)] ∧
         H' = [] ∧
         condP (Prod.snd x != (0 : Int))
         (Post (.iface 152 (AV.agg []))
         [AObj.cells [.str { data := List.toArray (Prod.fst (Prod.fst x)) }, AV.sl 2 (.map T.encR ((0 : Int), []) (Prod.snd (Prod.fst x))) .none]])
         (condP (!ByteArray.toList { data := List.toArray (Prod.fst (Prod.fst x)) } == ByteArray.toList s)
         (Post (.iface 152 (AV.agg []))
         [AObj.cells [.str { data := List.toArray (Prod.fst (Prod.fst x)) }, AV.sl 2 (.map T.encR ((0 : Int), []) (Prod.snd (Prod.fst x))) .none]])
         (Post (.iface 154 (AV.agg [.str { data := List.toArray (Prod.fst (Prod.fst x)) }, AV.sl 2 (.map T.encR ((0 : Int), []) (Prod.snd (Prod.fst x))) .none]))
         [AObj.cells [.str { data := List.toArray (Prod.fst (Prod.fst x)) }, AV.sl 2 (.map T.encR ((0 : Int), []) (Prod.snd (Prod.fst x))) .none]]))) →
    ASpec Tryz.prog 61 [.str s, AV.sl 1 (.map encB (0 : UInt8) bs) .none] [] Post := fun s bs Post h => Go.Ab.ASpec.of_vc g61 Go.Proofs.Tryz.func61 (by kernel_rfl) (by kernel_rfl) (by kernel_rfl) (Go.Ab.kc (by kernel_rfl) h)

-- 143
noncomputable def l143 : Nat → List Nat
  | _ => []
noncomputable def u143 : Nat → Bool
  | _ => false
noncomputable def m143 : Nat → Bool
  | _ => false
noncomputable def g143 : Cfg := { N := 8, live := l143, cut := u143, mu := m143, ret := rets }
theorem s143 : ∀ (l : List T.Span) (Post : AV → List AObj → Prop),
  (∀ (b : Bool),
      (b = true → Seq.toList (.map T.encS ((0 : Int), (0 : Int)) l) = []) →
        condP b (Post (.sl 0 (.raw []) .nil) [])
         (needP (∀ (x : T.Span), List.all (T.encS x) oneAV = true)
         (needP ((0 + List.length l) * 16 ≤ 140737488351232)
         (Post (.sl 2 (.app (.raw []) (.map T.encS ((0 : Int), (0 : Int)) l)) (.tok 0)) [AObj.tok])))) →
    ASpec Tryz.prog 143 [.sl 2 (.map T.encS ((0 : Int), (0 : Int)) l) .none] [] Post := fun l Post h => Go.Ab.ASpec.of_vc g143 Go.Proofs.Tryz.func143 (by kernel_rfl) (by kernel_rfl) (by kernel_rfl) (Go.Ab.kc (by kernel_rfl) h)

-- 103
noncomputable def l103 : Nat → List Nat
  | 3 => [2, 3, 10, 11, 12]
  | _ => []
noncomputable def u103 : Nat → Bool
  | _ => false
noncomputable def m103 : Nat → Bool
  | _ => false
noncomputable def g103 : Cfg := { N := 29, live := l103, cut := u103, mu := m103, ret := rets }
noncomputable def c103 : Go.Code := Go.Ab.bodyOf Go.Proofs.Tryz.f103
noncomputable def q103_0 : Nat → (AV → List AObj → Prop) → AQ := fun (n : Nat) (Post : AV → List AObj → Prop) => endQ Tryz.prog (resultsOf Tryz.f103) Post
noncomputable def q103_1 : Nat → (AV → List AObj → Prop) → AQ := fun (n : Nat) (Post : AV → List AObj → Prop) => seqQ (fun (s' : Slots) (H' : List AObj) => awp Tryz.prog g103 n (codeSnd (codeSnd (codeSnd c103))) s' H' (q103_0 n Post)) (q103_0 n Post)
noncomputable def q103_2 : Nat → (AV → List AObj → Prop) → AQ := fun (n : Nat) (Post : AV → List AObj → Prop) => blockQ 0 (q103_1 n Post)
noncomputable def c103_3 : Go.Code := codeFst (codeSnd (codeFst (codeSnd (codeSnd c103))))
theorem s103 : ∀ (r : T.Rel) (Post : AV → List AObj → Prop),
  AWP Tryz.prog 29 0 c103_3
      [(2, .ptr 1 0), (3, .ptr 2 0), (10, .sl 2 (.map T.encN ([], []) (Prod.snd r)) .none),
        (11, .int .i64 (↑(List.length (Prod.snd r)) : Int)), (12, .int .i64 (0 : Int))]
      [AObj.cells [.int .i64 (Prod.fst r), .sl 2 (.map T.encN ([], []) (Prod.snd r)) .none], AObj.cells [.int .i64 (0 : Int), .sl 0 (.raw []) .nil],
        AObj.cells [.int .i64 (Prod.fst r), .sl 0 (.raw []) .nil]]
      (q103_2 0 Post) →
    ASpec Tryz.prog 103 [.agg (T.encR r)] [] Post := fun r Post h => Go.Ab.ASpec.of_vc g103 Go.Proofs.Tryz.func103 (by kernel_rfl) (by kernel_rfl) (by kernel_rfl) (Go.Ab.kc (by kernel_rfl) h)
theorem v103_3 : ∀ (v : Int) (acc l : List T.Need) (n i : Int) (n_1 : Nat) (Post : AV → List AObj → Prop),
  condP (decide (i < n))
      (needP ((0 : Int) ≤ i ∧ i < (↑(List.length l) : Int))
        (ASpec Tryz.prog 143 [AV.sl 2 (.map T.encS ((0 : Int), (0 : Int)) (Prod.snd (List.getD l (Int.toNat i) ([], [])))) .none]
         [AObj.cells [AV.int .i64 (0 : Int), .sl 0 (.raw []) .nil], AObj.cells [.int .i64 v, AV.sl 2 (.map T.encN ([], []) acc) (.tok 2)],
         AObj.tok,
         AObj.cells
         [.str { data := List.toArray (Prod.fst (List.getD l (Int.toNat i) ([], []))) },
         AV.sl 2 (.map T.encS ((0 : Int), (0 : Int)) (Prod.snd (List.getD l (Int.toNat i) ([], [])))) .none]]
         fun (r : AV) (H' : List AObj) =>
         ∃ (x : List T.Span),
         r = AV.sl 2 (.map T.encS ((0 : Int), (0 : Int)) x) .none ∧
         H' =
         [AObj.cells [.int .i64 (0 : Int), .sl 0 (.raw []) .nil],
         AObj.cells [.int .i64 v, AV.sl 2 (.map T.encN ([], []) acc) (.tok 2)], AObj.tok,
         AObj.cells
         [.str { data := List.toArray (Prod.fst (List.getD l (Int.toNat i) ([], []))) },
         AV.sl 2 (.map T.encS ((0 : Int), (0 : Int)) (Prod.snd (List.getD l (Int.toNat i) ([], [])))) .none]] ∧
         (AV.str { data := List.toArray (Prod.fst (List.getD l (Int.toNat i) ([], []))) } = AV.str { data := List.toArray (Prod.fst (List.getD l (Int.toNat i) ([], []))) } ∧
         [AObj.cells [AV.int .i64 (0 : Int), .sl 0 (.raw []) .nil],
         AObj.cells [.int .i64 v, AV.sl 2 (.map T.encN ([], []) acc) (.tok 2)], AObj.tok,
         AObj.cells
         [.str { data := List.toArray (Prod.fst (List.getD l (Int.toNat i) ([], []))) },
         AV.sl 2 (.map T.encS ((0 : Int), (0 : Int)) (Prod.snd (List.getD l (Int.toNat i) ([], [])))) .none]] =
         [AObj.cells [AV.int .i64 (0 : Int), .sl 0 (.raw []) .nil],
         AObj.cells [.int .i64 v, AV.sl 2 (.map T.encN ([], []) acc) (.tok 2)], AObj.tok,
         AObj.cells
         [.str { data := List.toArray (Prod.fst (List.getD l (Int.toNat i) ([], []))) },
         AV.sl 2 (.map T.encS ((0 : Int), (0 : Int)) (Prod.snd (List.getD l (Int.toNat i) ([], [])))) .none]]) ∧
         (AV.sl 2 (.map T.encN ([], []) acc) (.tok 2) = AV.sl 2 (.map T.encN ([], []) acc) (.tok 2) ∧
         [AObj.cells [.int .i64 (0 : Int), .sl 0 (.raw []) .nil],
         AObj.cells [.int .i64 v, AV.sl 2 (.map T.encN ([], []) acc) (.tok 2)], AObj.tok,
         AObj.cells
         [.str { data := List.toArray (Prod.fst (List.getD l (Int.toNat i) ([], []))) },
         AV.sl 2 (.map T.encS ((0 : Int), (0 : Int)) (Prod.snd (List.getD l (Int.toNat i) ([], [])))) .none]] =
         [AObj.cells [AV.int .i64 (0 : Int), .sl 0 (.raw []) .nil],
         AObj.cells [.int .i64 v, AV.sl 2 (.map T.encN ([], []) acc) (.tok 2)], AObj.tok,
         AObj.cells
         [.str { data := List.toArray (Prod.fst (List.getD l (Int.toNat i) ([], []))) },
         AV.sl 2 (.map T.encS ((0 : Int), (0 : Int)) (Prod.snd (List.getD l (Int.toNat i) ([], [])))) .none]]) ∧
         needP ((List.length acc + 1) * 40 ≤ 140737488351232)
         (AWP Tryz.prog 29 n_1 c103_3
         [(2, .ptr 0 0), (3, .ptr 1 0), (10, .sl 2 (.map T.encN ([], []) l) .none),
         (11, .int .i64 n), (12, .int .i64 (IntKind.wrap .i64 (i + (1 : Int))))]
         [AObj.cells [.int .i64 (0 : Int), .sl 0 (.raw []) .nil],
         AObj.cells
         [.int .i64 v,
         AV.sl 2
         (.app (.map T.encN ([], []) acc)
         (.raw [[.str { data := List.toArray (Prod.fst (List.getD l (Int.toNat i) ([], []))) }, AV.sl 2 (.map T.encS ((0 : Int), (0 : Int)) x) .none]]))
         (.tok 4)],
         AObj.gone,
         AObj.cells
         [.str { data := List.toArray (Prod.fst (List.getD l (Int.toNat i) ([], []))) },
         AV.sl 2 (.map T.encS ((0 : Int), (0 : Int)) (Prod.snd (List.getD l (Int.toNat i) ([], [])))) .none],
         AObj.tok]
         (q103_2 n_1 Post))))
      (Post (.agg [.int .i64 v, AV.sl 2 (.map T.encN ([], []) acc) (.tok 2)])
        [AObj.cells [.int .i64 v, AV.sl 2 (.map T.encN ([], []) acc) (.tok 2)],
         AObj.cells [.int .i64 v, AV.sl 2 (.map T.encN ([], []) acc) (.tok 2)], AObj.tok]) →
    AWP Tryz.prog 29 n_1 c103_3
      [(2, .ptr 0 0), (3, .ptr 1 0), (10, .sl 2 (.map T.encN ([], []) l) .none), (11, .int .i64 n),
        (12, .int .i64 i)]
      [AObj.cells [.int .i64 (0 : Int), .sl 0 (.raw []) .nil], AObj.cells [.int .i64 v, AV.sl 2 (.map T.encN ([], []) acc) (.tok 2)], AObj.tok]
      (q103_2 n_1 Post) := fun v acc l n i n Post h => Go.Ab.AWP.loop' g103 (Cfg.live g103) c103_3 (by kernel_rfl) (by kernel_rfl) (Go.Ab.kc (by kernel_rfl) h)

-- 101
noncomputable def l101 : Nat → List Nat
  | 3 => [2, 3, 10, 11, 12]
  | _ => []
noncomputable def u101 : Nat → Bool
  | _ => false
noncomputable def m101 : Nat → Bool
  | _ => false
noncomputable def g101 : Cfg := { N := 25, live := l101, cut := u101, mu := m101, ret := rets }
noncomputable def c101 : Go.Code := Go.Ab.bodyOf Go.Proofs.Tryz.f101
noncomputable def q101_0 : Nat → (AV → List AObj → Prop) → AQ := fun (n : Nat) (Post : AV → List AObj → Prop) => endQ Tryz.prog (resultsOf Tryz.f101) Post
noncomputable def q101_1 : Nat → (AV → List AObj → Prop) → AQ := fun (n : Nat) (Post : AV → List AObj → Prop) => seqQ (fun (s' : Slots) (H' : List AObj) => awp Tryz.prog g101 n (codeSnd (codeSnd (codeSnd c101))) s' H' (q101_0 n Post)) (q101_0 n Post)
noncomputable def q101_2 : Nat → (AV → List AObj → Prop) → AQ := fun (n : Nat) (Post : AV → List AObj → Prop) => blockQ 0 (q101_1 n Post)
noncomputable def c101_3 : Go.Code := codeFst (codeSnd (codeFst (codeSnd (codeSnd c101))))
theorem s101 : ∀ (m : T.Mani) (Post : AV → List AObj → Prop),
  AWP Tryz.prog 25 0 c101_3
      [(2, .ptr 1 0), (3, .ptr 2 0), (10, .sl 2 (.map T.encR ((0 : Int), []) (Prod.snd m)) .none),
        (11, .int .i64 (↑(List.length (Prod.snd m)) : Int)), (12, .int .i64 (0 : Int))]
      [AObj.cells [.str { data := List.toArray (Prod.fst m) }, AV.sl 2 (.map T.encR ((0 : Int), []) (Prod.snd m)) .none],
        AObj.cells [.str { data := #[] }, AV.sl 0 (.raw []) .nil], AObj.cells [.str { data := List.toArray (Prod.fst m) }, AV.sl 0 (.raw []) .nil]]
      (q101_2 0 Post) →
    ASpec Tryz.prog 101 [.agg (T.encM m)] [] Post := fun m Post h => Go.Ab.ASpec.of_vc g101 Go.Proofs.Tryz.func101 (by kernel_rfl) (by kernel_rfl) (by kernel_rfl) (Go.Ab.kc (by kernel_rfl) h)
theorem v101_3 : ∀ (s : ByteArray) (acc l : List T.Rel) (n i : Int) (n_1 : Nat) (Post : AV → List AObj → Prop),
  condP (decide (i < n))
      (needP ((0 : Int) ≤ i ∧ i < (↑(List.length l) : Int))
        (ASpec Tryz.prog 103
         [AV.agg
         [AV.int .i64 (Prod.fst (List.getD l (Int.toNat i) ((0 : Int), []))), .sl 2 (.map T.encN ([], []) (Prod.snd (List.getD l (Int.toNat i) ((0 : Int), [])))) .none]]
         [AObj.cells [AV.str { data := #[] }, AV.sl 0 (.raw []) .nil], AObj.cells [.str s, AV.sl 2 (.map T.encR ((0 : Int), []) acc) (.tok 2)], AObj.tok,
         AObj.cells
         [.int .i64 (Prod.fst (List.getD l (Int.toNat i) ((0 : Int), []))), .sl 2 (.map T.encN ([], []) (Prod.snd (List.getD l (Int.toNat i) ((0 : Int), [])))) .none]]
         fun (r : AV) (H' : List AObj) =>
         ∃ (x : Int × List T.Need),
         r = AV.agg [.int .i64 (Prod.fst x), .sl 2 (.map T.encN ([], []) (Prod.snd x)) .none] ∧
         H' =
         [AObj.cells [.str { data := #[] }, AV.sl 0 (.raw []) .nil], AObj.cells [.str s, AV.sl 2 (.map T.encR ((0 : Int), []) acc) (.tok 2)], AObj.tok,
         AObj.cells
         [.int .i64 (Prod.fst (List.getD l (Int.toNat i) ((0 : Int), []))),
         AV.sl 2 (.map T.encN ([], []) (Prod.snd (List.getD l (Int.toNat i) ((0 : Int), [])))) .none]] ∧
         (AV.sl 2 (.map T.encR ((0 : Int), []) acc) (.tok 2) = AV.sl 2 (.map T.encR ((0 : Int), []) acc) (.tok 2) ∧
         [AObj.cells [.str { data := #[] }, AV.sl 0 (.raw []) .nil], AObj.cells [.str s, AV.sl 2 (.map T.encR ((0 : Int), []) acc) (.tok 2)],
         AObj.tok,
         AObj.cells
         [.int .i64 (Prod.fst (List.getD l (Int.toNat i) ((0 : Int), []))),
         AV.sl 2 (.map T.encN ([], []) (Prod.snd (List.getD l (Int.toNat i) ((0 : Int), [])))) .none]] =
         [AObj.cells [AV.str { data := #[] }, AV.sl 0 (.raw []) .nil], AObj.cells [.str s, AV.sl 2 (.map T.encR ((0 : Int), []) acc) (.tok 2)],
         AObj.tok,
         AObj.cells
         [.int .i64 (Prod.fst (List.getD l (Int.toNat i) ((0 : Int), []))),
         AV.sl 2 (.map T.encN ([], []) (Prod.snd (List.getD l (Int.toNat i) ((0 : Int), [])))) .none]]) ∧
         needP ((List.length acc + 1) * 32 ≤ 140737488351232)
         (AWP Tryz.prog 25 n_1 c101_3
         [(2, .ptr 0 0), (3, .ptr 1 0), (10, .sl 2 (.map T.encR ((0 : Int), []) l) .none),
         (11, .int .i64 n), (12, .int .i64 (IntKind.wrap .i64 (i + (1 : Int))))]
         [AObj.cells [.str { data := #[] }, AV.sl 0 (.raw []) .nil],
         AObj.cells
         [.str s,
         AV.sl 2
         (.app (.map T.encR ((0 : Int), []) acc) (.raw [[.int .i64 (Prod.fst x), .sl 2 (.map T.encN ([], []) (Prod.snd x)) .none]]))
         (.tok 4)],
         AObj.gone,
         AObj.cells
         [.int .i64 (Prod.fst (List.getD l (Int.toNat i) ((0 : Int), []))),
         AV.sl 2 (.map T.encN ([], []) (Prod.snd (List.getD l (Int.toNat i) ((0 : Int), [])))) .none],
         AObj.tok]
         (q101_2 n_1 Post))))
      (Post (.agg [.str s, AV.sl 2 (.map T.encR ((0 : Int), []) acc) (.tok 2)])
        [AObj.cells [.str s, AV.sl 2 (.map T.encR ((0 : Int), []) acc) (.tok 2)],
         AObj.cells [.str s, AV.sl 2 (.map T.encR ((0 : Int), []) acc) (.tok 2)], AObj.tok]) →
    AWP Tryz.prog 25 n_1 c101_3
      [(2, .ptr 0 0), (3, .ptr 1 0), (10, .sl 2 (.map T.encR ((0 : Int), []) l) .none), (11, .int .i64 n),
        (12, .int .i64 i)]
      [AObj.cells [.str { data := #[] }, AV.sl 0 (.raw []) .nil], AObj.cells [.str s, AV.sl 2 (.map T.encR ((0 : Int), []) acc) (.tok 2)], AObj.tok]
      (q101_2 n_1 Post) := fun s acc l n i n Post h => Go.Ab.AWP.loop' g101 (Cfg.live g101) c101_3 (by kernel_rfl) (by kernel_rfl) (Go.Ab.kc (by kernel_rfl) h)

end
end X
end

section
/- Names as cells. -/

open Go Go.Ab Go.Proofs
namespace T
noncomputable def encL (x : List UInt8) : List AV := [.str ⟨x.toArray⟩]
end T
end

section
/- Printed: what the code of functions 19, 5, 181, 169, 188, 168, 84, 151, 158, 63, 118, 16, 26 asks for, by the framework's own reading of it; each line is checked against the code. -/

set_option linter.unusedVariables false
set_option maxRecDepth 100000
set_option maxHeartbeats 4000000
open Go Go.Ab Go.Proofs
namespace Dp
noncomputable section

noncomputable def retD : List (Nat × Ret) := [
  (9058, ⟨Bool, fun _ _ x => .bool x, fun _ H _ => H⟩),
  (19, ⟨Bool, fun _ _ x => .bool x, fun _ H _ => H⟩),
  (181, ⟨Int × Bool, fun _ _ x => .tup [.int .i64 x.1, .bool x.2], fun _ H _ => H⟩),
  (169, ⟨Int × Bool, fun _ _ x => .tup [.int .i64 x.1, .bool x.2], fun _ H _ => H⟩),
  (188, ⟨Int, fun _ _ x => .int .i64 x, fun _ H _ => H⟩),
  (171, ⟨Int, fun _ _ x => .int .i64 x, fun _ H _ => H⟩),
  (168, ⟨List UInt8, fun _ _ x => .sl 1 (.map encB 0 x) .none, fun _ H _ => H⟩),
  (84, ⟨List UInt8, fun _ _ x => .sl 1 (.map encB 0 x) .none, fun _ H _ => H⟩),
  (151, ⟨T.Mani × Bool, fun _ _ x => .tup [.agg (T.encM x.1), .bool x.2], fun _ H _ => H⟩),
  (63, ⟨T.Mani × Bool, fun _ _ x => .tup [.agg (T.encM x.1), .bool x.2], fun _ H _ => H⟩),
  (118, ⟨T.Mani × Bool, fun _ _ x => .tup [.agg (T.encM x.1), .bool x.2], fun _ H _ => H⟩),
  (9064, ⟨List (List UInt8), fun _ _ x => .sl 1 (.map T.encL [] x) .none, fun _ H _ => H⟩),
  (9065, ⟨List (List UInt8), fun _ _ x => .sl 1 (.map T.encL [] x) .none, fun _ H _ => H⟩),
  (16, ⟨Bool, fun _ _ x => .bool x, fun _ H _ => H⟩),
  (9067, ⟨List T.Ent × Bool, fun _ _ x => .tup [.sl 2 (.map T.encEn ([], []) x.1) .none, .bool x.2], fun _ H _ => H⟩),
  (9068, ⟨List T.Ent × Bool, fun _ _ x => .tup [.sl 2 (.map T.encEn ([], []) x.1) .none, .bool x.2], fun _ H _ => H⟩),
  (26, ⟨Bool, fun _ _ x => .bool x, fun _ H _ => H⟩),
  (5, ⟨Bool, fun _ _ x => .bool x, fun _ H _ => H⟩),
  (158, ⟨ByteArray, fun _ _ x => .str x, fun _ H _ => H⟩),
  (9057, ⟨Unit, fun _ _ _ => .bool true, fun _ H _ => H⟩)]
noncomputable def rets : FuncId → List Ret := lookupR (retD ++ W.retW ++ C.retC ++ V.retL)

-- 19
noncomputable def u19 : Nat → Bool
  | _ => false
noncomputable def l5 : Nat → List Nat
  | 4 => [0, 3]
  | _ => []
noncomputable def l63 : Nat → List Nat
  | _ => []
noncomputable def u63 : Nat → Bool
  | _ => false
noncomputable def m63 : Nat → Bool
  | _ => false
noncomputable def g63 : Cfg := { N := 24, live := l63, cut := u63, mu := m63, ret := rets }
theorem s63 : ∀ (s b : List UInt8) (Post : AV → List AObj → Prop),
  (ASpec Tryz.prog 95 [.str { data := List.toArray b }] [AObj.cells [AV.str { data := #[] }, AV.sl 0 (.raw []) .nil]] fun (r : AV) (H' : List AObj) =>
      ∃ (x : T.Mani × Int),
        r =
         AV.tup
         [.agg [.str { data := List.toArray (Prod.fst (Prod.fst x)) }, AV.sl 2 (.map T.encR ((0 : Int), []) (Prod.snd (Prod.fst x))) .none], .int .i64 (Prod.snd x)] ∧
         H' = [AObj.cells [.str { data := #[] }, AV.sl 0 (.raw []) .nil]] ∧
         condP (Prod.snd x != (0 : Int))
         (Post (.tup [.agg [.str { data := List.toArray s }, AV.sl 0 (.raw []) .nil], .bool false])
         [AObj.cells [.str { data := List.toArray s }, AV.sl 0 (.raw []) .nil],
         AObj.cells [AV.str { data := List.toArray (Prod.fst (Prod.fst x)) }, AV.sl 2 (.map T.encR ((0 : Int), []) (Prod.snd (Prod.fst x))) .none]])
         (condP (!ByteArray.toList { data := List.toArray (Prod.fst (Prod.fst x)) } == ByteArray.toList { data := List.toArray s })
         (Post (.tup [AV.agg [AV.str { data := List.toArray s }, AV.sl 0 (.raw []) .nil], .bool false])
         [AObj.cells [.str { data := List.toArray s }, AV.sl 0 (.raw []) .nil],
         AObj.cells [AV.str { data := List.toArray (Prod.fst (Prod.fst x)) }, AV.sl 2 (.map T.encR ((0 : Int), []) (Prod.snd (Prod.fst x))) .none]])
         (Post (.tup [.agg [.str { data := List.toArray (Prod.fst (Prod.fst x)) }, AV.sl 2 (.map T.encR ((0 : Int), []) (Prod.snd (Prod.fst x))) .none], .bool true])
         [AObj.cells [.str { data := List.toArray (Prod.fst (Prod.fst x)) }, AV.sl 2 (.map T.encR ((0 : Int), []) (Prod.snd (Prod.fst x))) .none],
         AObj.cells [.str { data := List.toArray (Prod.fst (Prod.fst x)) }, AV.sl 2 (.map T.encR ((0 : Int), []) (Prod.snd (Prod.fst x))) .none]]))) →
    ASpec Tryz.prog 63 [.str { data := List.toArray s }, AV.str { data := List.toArray b }] [] Post := fun s b Post h => Go.Ab.ASpec.of_vc g63 Go.Proofs.Tryz.func63 (by kernel_rfl) (by kernel_rfl) (by kernel_rfl) (Go.Ab.kc (by kernel_rfl) h)

-- 118
noncomputable def l16 : Nat → List Nat
  | 4 => [0, 1, 5]
  | _ => []
noncomputable def u16 : Nat → Bool
  | _ => false
noncomputable def m16 : Nat → Bool
  | _ => false
noncomputable def g16 : Cfg := { N := 26, live := l16, cut := u16, mu := m16, ret := rets }
noncomputable def c16 : Go.Code := Go.Ab.bodyOf Go.Proofs.Tryz.f16
noncomputable def q16_0 : Nat → (AV → List AObj → Prop) → AQ := fun (n : Nat) (Post : AV → List AObj → Prop) => endQ Tryz.prog (resultsOf Tryz.f16) Post
noncomputable def q16_1 : Nat → (AV → List AObj → Prop) → AQ := fun (n : Nat) (Post : AV → List AObj → Prop) => seqQ (fun (s' : Slots) (H' : List AObj) => awp Tryz.prog g16 n (codeSnd (codeSnd (codeSnd c16))) s' H' (q16_0 n Post)) (q16_0 n Post)
noncomputable def q16_2 : Nat → (AV → List AObj → Prop) → AQ := fun (n : Nat) (Post : AV → List AObj → Prop) => blockQ 0 (q16_1 n Post)
noncomputable def c16_4 : Go.Code := codeFst (codeSnd (codeFst (codeSnd (codeSnd c16))))
theorem s16 : ∀ (a b : List (List UInt8)) (Post : AV → List AObj → Prop),
  condP ((↑(List.length a) : Int) != (↑(List.length b) : Int)) (Post (.bool false) [])
      (AWP Tryz.prog 26 0 c16_4
        [(0, .sl 1 (.map T.encL [] a) .none), (1, .sl 1 (.map T.encL [] b) .none), (5, .int .i64 (0 : Int))] []
        (q16_2 0 Post)) →
    ASpec Tryz.prog 16 [.sl 1 (.map T.encL [] a) .none, .sl 1 (.map T.encL [] b) .none] [] Post := fun a b Post h => Go.Ab.ASpec.of_vc g16 Go.Proofs.Tryz.func16 (by kernel_rfl) (by kernel_rfl) (by kernel_rfl) (Go.Ab.kc (by kernel_rfl) h)
theorem v16_4 : ∀ (a b : List (List UInt8)) (i : Int) (n : Nat) (Post : AV → List AObj → Prop),
  condP (decide (i < (↑(List.length a) : Int)))
      (needP ((0 : Int) ≤ i ∧ i < (↑(List.length a) : Int))
        (needP ((0 : Int) ≤ i ∧ i < (↑(List.length b) : Int))
         (condP (!ByteArray.toList { data := List.toArray (List.getD a (Int.toNat i) []) } == ByteArray.toList { data := List.toArray (List.getD b (Int.toNat i) []) }) (Post (.bool false) [])
         (AWP Tryz.prog 26 n c16_4
         [(0, .sl 1 (.map T.encL [] a) .none), (1, .sl 1 (.map T.encL [] b) .none),
         (5, .int .i64 (IntKind.wrap .i64 (i + (1 : Int))))]
         [] (q16_2 n Post)))))
      (Post (.bool true) []) →
    AWP Tryz.prog 26 n c16_4 [(0, .sl 1 (.map T.encL [] a) .none), (1, .sl 1 (.map T.encL [] b) .none), (5, .int .i64 i)] []
      (q16_2 n Post) := fun a b i n Post h => Go.Ab.AWP.loop' g16 (Cfg.live g16) c16_4 (by kernel_rfl) (by kernel_rfl) (Go.Ab.kc (by kernel_rfl) h)

-- 26
end
end Dp
end

section
/- What the document's index knows, as cells. -/

open Go Go.Ab Go.Proofs
namespace T
/-- a manifest, and whether it is good -/
abbrev Kd := Mani × Bool
abbrev noKd : Kd := (([], []), false)
noncomputable def encKd (x : Kd) : List AV := [.str ⟨x.1.1.toArray⟩, .sl 2 (.map T.encR (0, []) x.1.2) .none, .bool x.2]
noncomputable def encXd (l : List Kd) : List AV := [.sl 3 (.map encKd noKd l) .none]
end T
end

section
/- Printed: what the code of functions 94, 62, 74, 33, 11, 10 asks for, by the framework's own reading of it; each line is checked against the code. -/

set_option linter.unusedVariables false
set_option maxRecDepth 100000
set_option maxHeartbeats 4000000
open Go Go.Ab Go.Proofs
namespace Xd
noncomputable section

noncomputable def addP (args : List AV) (H : List AObj) (o : AObj) : List AObj := match args with
  | .ptr id _ :: _ => H.set id o
  | _ => H
noncomputable def retXd : List (Nat × Ret) := [
  (94, ⟨Int, fun _ _ x => .int .i64 x, fun _ H _ => H⟩), (62, ⟨Bool, fun _ _ x => .bool x, fun _ H _ => H⟩), (74, ⟨T.Mani × Bool, fun _ _ x => .tup [.agg (T.encM x.1), .bool x.2], fun _ H _ => H⟩), (9222, ⟨List (List UInt8), fun _ _ x => .sl 1 (.map T.encL [] x) .none, fun _ H _ => H⟩), (9223, ⟨Bool, fun _ _ x => .bool x, fun _ H _ => H⟩), (9062, ⟨Bool, fun _ _ x => .bool x, fun _ H _ => H⟩),
  (33, ⟨Int × List T.Kd, fun _ _ x => .int .i64 x.1, fun a H x => addP a H (.cells (T.encXd x.2))⟩),
  (11, ⟨List T.Kd, fun _ _ x => .agg (T.encXd x), fun _ H _ => H⟩),
  (10, ⟨T.Kn, fun _ H _ => .ptr (H.length + 1) 0, fun _ H x => H ++ [.mp (.typed T.EK x), .cells [.map H.length]]⟩),
  (9220, ⟨T.Kn, fun _ H _ => .map H.length, fun _ H x => H ++ [.mp (.typed T.EK x)]⟩),
  (9115, ⟨T.Kn, fun _ H _ => .ptr (H.length + 1) 0, fun _ H x => H ++ [.mp (.typed T.EK x), .cells [.map H.length]]⟩),
  (9115, ⟨Unit, fun _ _ _ => .nilp, fun _ H _ => H⟩)]
noncomputable def rets : FuncId → List Ret := fun f => match lookupR retXd f with
  | [] => match X.rets f with
    | [] => Dp.rets f
    | l => l
  | l => l

-- 94
noncomputable def l94 : Nat → List Nat
  | 2 => [1, 2, 5]
  | _ => []
noncomputable def u94 : Nat → Bool
  | _ => false
noncomputable def m94 : Nat → Bool
  | _ => false
noncomputable def g94 : Cfg := { N := 23, live := l94, cut := u94, mu := m94, ret := rets }
noncomputable def c94 : Go.Code := Go.Ab.bodyOf Go.Proofs.Tryz.f94
noncomputable def q94_0 : Nat → (AV → List AObj → Prop) → AQ := fun (n : Nat) (Post : AV → List AObj → Prop) => endQ Tryz.prog (resultsOf Tryz.f94) Post
noncomputable def q94_1 : Nat → (AV → List AObj → Prop) → AQ := fun (n : Nat) (Post : AV → List AObj → Prop) => seqQ (fun (s' : Slots) (H' : List AObj) => awp Tryz.prog g94 n (codeSnd (codeSnd c94)) s' H' (q94_0 n Post)) (q94_0 n Post)
noncomputable def q94_2 : Nat → (AV → List AObj → Prop) → AQ := fun (n : Nat) (Post : AV → List AObj → Prop) => blockQ 0 (q94_1 n Post)
noncomputable def c94_2 : Go.Code := codeFst (codeSnd (codeFst (codeSnd c94)))
theorem s94 : ∀ (l : List T.Kd) (s : List UInt8) (Post : AV → List AObj → Prop),
  AWP Tryz.prog 23 0 c94_2 [(1, .str { data := List.toArray s }), (2, .ptr 0 0), (5, .int .i64 (0 : Int))]
      [AObj.cells [AV.sl 3 (.map T.encKd T.noKd l) .none]] (q94_2 0 Post) →
    ASpec Tryz.prog 94 [.agg (T.encXd l), .str { data := List.toArray s }] [] Post := fun l s Post h => Go.Ab.ASpec.of_vc g94 Go.Proofs.Tryz.func94 (by kernel_rfl) (by kernel_rfl) (by kernel_rfl) (Go.Ab.kc (by kernel_rfl) h)
theorem v94_2 : ∀ (l : List T.Kd) (s : List UInt8) (i : Int) (n : Nat) (Post : AV → List AObj → Prop),
  condP (decide (i < (↑(List.length l) : Int)))
      (needP ((0 : Int) ≤ i ∧ i < (↑(List.length l) : Int))
        (condP (ByteArray.toList { data := List.toArray (Prod.fst (Prod.fst (List.getD l (Int.toNat i) T.noKd))) } == ByteArray.toList { data := List.toArray s })
         (Post (.int .i64 i) [AObj.cells [AV.sl 3 (.map T.encKd T.noKd l) .none]])
         (AWP Tryz.prog 23 n c94_2
         [(1, .str { data := List.toArray s }), (2, .ptr 0 0), (5, .int .i64 (IntKind.wrap .i64 (i + (1 : Int))))]
         [AObj.cells [.sl 3 (.map T.encKd T.noKd l) .none]] (q94_2 n Post))))
      (Post (.int .i64 (-1 : Int)) [AObj.cells [.sl 3 (.map T.encKd T.noKd l) .none]]) →
    AWP Tryz.prog 23 n c94_2 [(1, .str { data := List.toArray s }), (2, .ptr 0 0), (5, .int .i64 i)] [AObj.cells (T.encXd l)]
      (q94_2 n Post) := fun l s i n Post h => Go.Ab.AWP.loop' g94 (Cfg.live g94) c94_2 (by kernel_rfl) (by kernel_rfl) (Go.Ab.kc (by kernel_rfl) h)

-- 62
noncomputable def l62 : Nat → List Nat
  | _ => []
noncomputable def u62 : Nat → Bool
  | _ => false
noncomputable def m62 : Nat → Bool
  | _ => false
noncomputable def g62 : Cfg := { N := 9, live := l62, cut := u62, mu := m62, ret := rets }
theorem s62 : ∀ (l : List T.Kd) (s : List UInt8) (Post : AV → List AObj → Prop),
  (ASpec Tryz.prog 94 [.agg [.sl 3 (.map T.encKd T.noKd l) .none], .str { data := List.toArray s }] [AObj.cells [AV.sl 3 (.map T.encKd T.noKd l) .none]]
      fun (r : AV) (H' : List AObj) =>
      ∃ (x : Int),
        r = AV.int .i64 x ∧
         H' = [AObj.cells [.sl 3 (.map T.encKd T.noKd l) .none]] ∧ Post (.bool (decide (x ≥ (0 : Int)))) [AObj.cells [.sl 3 (.map T.encKd T.noKd l) .none]]) →
    ASpec Tryz.prog 62 [.agg (T.encXd l), .str { data := List.toArray s }] [] Post := fun l s Post h => Go.Ab.ASpec.of_vc g62 Go.Proofs.Tryz.func62 (by kernel_rfl) (by kernel_rfl) (by kernel_rfl) (Go.Ab.kc (by kernel_rfl) h)

-- 74
noncomputable def l74 : Nat → List Nat
  | _ => []
noncomputable def u74 : Nat → Bool
  | _ => false
noncomputable def m74 : Nat → Bool
  | _ => false
noncomputable def g74 : Cfg := { N := 26, live := l74, cut := u74, mu := m74, ret := rets }
theorem s74 : ∀ (l : List T.Kd) (s : List UInt8) (Post : AV → List AObj → Prop),
  (ASpec Tryz.prog 94 [.agg [.sl 3 (.map T.encKd T.noKd l) .none], .str { data := List.toArray s }]
      [AObj.cells [AV.sl 3 (.map T.encKd T.noKd l) .none], AObj.cells [.str { data := #[] }, AV.sl 0 (.raw []) .nil]] fun (r : AV) (H' : List AObj) =>
      ∃ (x : Int),
        r = AV.int .i64 x ∧
         H' = [AObj.cells [.sl 3 (.map T.encKd T.noKd l) .none], AObj.cells [.str { data := #[] }, AV.sl 0 (.raw []) .nil]] ∧
         condP (decide (x < (0 : Int)))
         (Post (.tup [.agg [.str { data := List.toArray s }, AV.sl 0 (.raw []) .nil], .bool false])
         [AObj.cells [.sl 3 (.map T.encKd T.noKd l) .none], AObj.cells [.str { data := List.toArray s }, AV.sl 0 (.raw []) .nil]])
         (needP ((0 : Int) ≤ x ∧ x < (↑(List.length l) : Int))
         (needP ((0 : Int) ≤ x ∧ x < (↑(List.length l) : Int))
         ((AV.bool (Prod.snd (List.getD l (Int.toNat x) T.noKd)) = AV.bool (Prod.snd (List.getD l (Int.toNat x) T.noKd)) ∧
         [AObj.cells [AV.sl 3 (.map T.encKd T.noKd l) .none],
         AObj.cells
         [.str { data := List.toArray (Prod.fst (Prod.fst (List.getD l (Int.toNat x) T.noKd))) },
         AV.sl 2 (.map T.encR ((0 : Int), []) (Prod.snd (Prod.fst (List.getD l (Int.toNat x) T.noKd)))) .none]] =
         [AObj.cells [AV.sl 3 (.map T.encKd T.noKd l) .none],
         AObj.cells
         [.str { data := List.toArray (Prod.fst (Prod.fst (List.getD l (Int.toNat x) T.noKd))) },
         AV.sl 2 (.map T.encR ((0 : Int), []) (Prod.snd (Prod.fst (List.getD l (Int.toNat x) T.noKd)))) .none]]) ∧
         (AV.sl 3 (.map T.encKd T.noKd l) .none = AV.sl 3 (.map T.encKd T.noKd l) .none ∧
         [AObj.cells [.sl 3 (.map T.encKd T.noKd l) .none],
         AObj.cells
         [.str { data := List.toArray (Prod.fst (Prod.fst (List.getD l (Int.toNat x) T.noKd))) },
         AV.sl 2 (.map T.encR ((0 : Int), []) (Prod.snd (Prod.fst (List.getD l (Int.toNat x) T.noKd)))) .none]] =
         [AObj.cells [AV.sl 3 (.map T.encKd T.noKd l) .none],
         AObj.cells
         [.str { data := List.toArray (Prod.fst (Prod.fst (List.getD l (Int.toNat x) T.noKd))) },
         AV.sl 2 (.map T.encR ((0 : Int), []) (Prod.snd (Prod.fst (List.getD l (Int.toNat x) T.noKd)))) .none]]) ∧
         Post
         (AV.tup
         [.agg
         [.str { data := List.toArray (Prod.fst (Prod.fst (List.getD l (Int.toNat x) T.noKd))) },
         AV.sl 2 (.map T.encR ((0 : Int), []) (Prod.snd (Prod.fst (List.getD l (Int.toNat x) T.noKd)))) .none],
         AV.bool (Prod.snd (List.getD l (Int.toNat x) T.noKd))])
         [AObj.cells [AV.sl 3 (.map T.encKd T.noKd l) .none],
         AObj.cells
         [.str { data := List.toArray (Prod.fst (Prod.fst (List.getD l (Int.toNat x) T.noKd))) },
         AV.sl 2 (.map T.encR ((0 : Int), []) (Prod.snd (Prod.fst (List.getD l (Int.toNat x) T.noKd)))) .none]])))) →
    ASpec Tryz.prog 74 [AV.agg (T.encXd l), .str { data := List.toArray s }] [] Post := fun l s Post h => Go.Ab.ASpec.of_vc g74 Go.Proofs.Tryz.func74 (by kernel_rfl) (by kernel_rfl) (by kernel_rfl) (Go.Ab.kc (by kernel_rfl) h)

-- 33
noncomputable def l33 : Nat → List Nat
  | 9 => [0, 1, 7, 8, 9, 10, 11]
  | 15 => [0, 7, 8, 9, 10]
  | _ => []
noncomputable def u33 : Nat → Bool
  | 15 => true
  | _ => false
noncomputable def m33 : Nat → Bool
  | _ => false
noncomputable def g33 : Cfg := { N := 83, live := l33, cut := u33, mu := m33, ret := rets }
noncomputable def c33 : Go.Code := Go.Ab.bodyOf Go.Proofs.Tryz.f33
noncomputable def q33_0 : Nat → (AV → List AObj → Prop) → AQ := fun (n : Nat) (Post : AV → List AObj → Prop) => endQ Tryz.prog (resultsOf Tryz.f33) Post
noncomputable def c33_15 : Go.Code := codeSnd (codeSnd (codeSnd (codeSnd (codeSnd (codeSnd (codeSnd c33))))))
noncomputable def q33_1 : Nat → (AV → List AObj → Prop) → AQ := fun (n : Nat) (Post : AV → List AObj → Prop) => seqQ (fun (s' : Slots) (H' : List AObj) => AWP Tryz.prog (Cfg.N g33) n c33_15 (restrict s' (Cfg.live g33 15)) H' (q33_0 n Post)) (q33_0 n Post)
noncomputable def q33_2 : Nat → (AV → List AObj → Prop) → AQ := fun (n : Nat) (Post : AV → List AObj → Prop) => blockQ 0 (q33_1 n Post)
noncomputable def c33_9 : Go.Code := codeFst (codeSnd (codeFst (codeSnd (codeSnd (codeSnd (codeSnd (codeSnd (codeSnd c33))))))))
theorem s33 : ∀ (l : List T.Kd) (s b : List UInt8) (Post : AV → List AObj → Prop),
  (ASpec Tryz.prog 29 [.str { data := List.toArray s }] [AObj.cells [AV.sl 3 (.map T.encKd T.noKd l) .none]] fun (r : AV) (H' : List AObj) =>
      ∃ (x : Bool),
        r = AV.bool x ∧
         H' = [AObj.cells [.sl 3 (.map T.encKd T.noKd l) .none]] ∧
         condP (!x) (Post (.int .i64 (1 : Int)) [AObj.cells [.sl 3 (.map T.encKd T.noKd l) .none]])
         (condP (decide ((↑(ByteArray.size { data := List.toArray b }) : Int) > (8192 : Int)))
         (Post (.int .i64 (1 : Int)) [AObj.cells [.sl 3 (.map T.encKd T.noKd l) .none]])
         (ASpec Tryz.prog 62 [.agg [.sl 3 (.map T.encKd T.noKd l) .none], .str { data := List.toArray s }]
         [AObj.cells [AV.sl 3 (.map T.encKd T.noKd l) .none]] fun (r : AV) (H' : List AObj) =>
         ∃ (x : Bool),
         r = AV.bool x ∧
         H' = [AObj.cells [.sl 3 (.map T.encKd T.noKd l) .none]] ∧
         condP x (Post (.int .i64 (6 : Int)) [AObj.cells [.sl 3 (.map T.encKd T.noKd l) .none]])
         (ASpec Tryz.prog 63 [.str { data := List.toArray s }, AV.str { data := List.toArray b }] [AObj.cells [AV.sl 3 (.map T.encKd T.noKd l) .none]]
         fun (r : AV) (H' : List AObj) =>
         ∃ (x : T.Mani × Bool),
         r =
         AV.tup
         [.agg [.str { data := List.toArray (Prod.fst (Prod.fst x)) }, AV.sl 2 (.map T.encR ((0 : Int), []) (Prod.snd (Prod.fst x))) .none],
         AV.bool (Prod.snd x)] ∧
         H' = [AObj.cells [.sl 3 (.map T.encKd T.noKd l) .none]] ∧
         AWP Tryz.prog 83 1 c33_9
         [(0, .ptr 0 0), (1, .str { data := List.toArray s }), (7, .ptr 1 0),
         (8, .bool (Prod.snd x)), (9, .sl 0 (.raw []) .nil), (10, .bool false), (11, .int .i64 (0 : Int))]
         [AObj.cells [.sl 3 (.map T.encKd T.noKd l) .none],
         AObj.cells [.str { data := List.toArray (Prod.fst (Prod.fst x)) }, AV.sl 2 (.map T.encR ((0 : Int), []) (Prod.snd (Prod.fst x))) .none]]
         (q33_2 1 Post))))) →
    ASpec Tryz.prog 33 [.ptr 0 0, .str { data := List.toArray s }, AV.str { data := List.toArray b }] [AObj.cells (T.encXd l)] Post := fun l s b Post h => Go.Ab.ASpec.of_vc g33 Go.Proofs.Tryz.func33 (by kernel_rfl) (by kernel_rfl) (by kernel_rfl) (Go.Ab.kc (by kernel_rfl) h)
theorem v33_9 : ∀ (l o : List T.Kd) (s : List UInt8) (m : T.Mani) (g b : Bool) (i : Int) (n : Nat) (Post : AV → List AObj → Prop),
  condP (decide (i < (↑(List.length l) : Int)))
      (condP (!b)
        (needP ((0 : Int) ≤ i ∧ i < (↑(List.length l) : Int))
         (condP (Op.bytesLess (ByteArray.toList { data := List.toArray s }) (ByteArray.toList { data := List.toArray (Prod.fst (Prod.fst (List.getD l (Int.toNat i) T.noKd))) }))
         (needP ((List.length o + 1) * 48 ≤ 140737488351232)
         (needP ((0 : Int) ≤ i ∧ i < (↑(List.length l) : Int))
         (needP ((List.length o + 1 + 1) * 48 ≤ 140737488351232)
         (AWP Tryz.prog 83 n c33_9
         [(0, .ptr 0 0), (1, .str { data := List.toArray s }), (7, .ptr 1 0), (8, .bool g),
         (9,
         AV.sl 3
         (.app
         (.app (.map T.encKd T.noKd o)
         (.raw [[.str { data := List.toArray (Prod.fst m) }, AV.sl 2 (.map T.encR ((0 : Int), []) (Prod.snd m)) .none, .bool g]]))
         (.raw
         [[.str { data := List.toArray (Prod.fst (Prod.fst (List.getD l (Int.toNat i) T.noKd))) },
         AV.sl 2 (.map T.encR ((0 : Int), []) (Prod.snd (Prod.fst (List.getD l (Int.toNat i) T.noKd)))) .none,
         AV.bool (Prod.snd (List.getD l (Int.toNat i) T.noKd))]]))
         (.tok 4)),
         (10, .bool true), (11, .int .i64 (IntKind.wrap .i64 (i + (1 : Int))))]
         [AObj.cells [.sl 3 (.map T.encKd T.noKd l) .none],
         AObj.cells [.str { data := List.toArray (Prod.fst m) }, AV.sl 2 (.map T.encR ((0 : Int), []) (Prod.snd m)) .none], AObj.gone, AObj.gone, AObj.tok]
         (q33_2 n Post)))))
         (needP ((0 : Int) ≤ i ∧ i < (↑(List.length l) : Int))
         (needP ((List.length o + 1) * 48 ≤ 140737488351232)
         (AWP Tryz.prog 83 n c33_9
         [(0, .ptr 0 0), (1, .str { data := List.toArray s }), (7, .ptr 1 0), (8, .bool g),
         (9,
         AV.sl 3
         (.app (.map T.encKd T.noKd o)
         (.raw
         [[.str { data := List.toArray (Prod.fst (Prod.fst (List.getD l (Int.toNat i) T.noKd))) },
         AV.sl 2 (.map T.encR ((0 : Int), []) (Prod.snd (Prod.fst (List.getD l (Int.toNat i) T.noKd)))) .none,
         AV.bool (Prod.snd (List.getD l (Int.toNat i) T.noKd))]]))
         (.tok 3)),
         (10, .bool b), (11, .int .i64 (IntKind.wrap .i64 (i + (1 : Int))))]
         [AObj.cells [.sl 3 (.map T.encKd T.noKd l) .none],
         AObj.cells [.str { data := List.toArray (Prod.fst m) }, AV.sl 2 (.map T.encR ((0 : Int), []) (Prod.snd m)) .none], AObj.gone, AObj.tok]
         (q33_2 n Post))))))
        (needP ((0 : Int) ≤ i ∧ i < (↑(List.length l) : Int))
         (needP ((List.length o + 1) * 48 ≤ 140737488351232)
         (AWP Tryz.prog 83 n c33_9
         [(0, .ptr 0 0), (1, .str { data := List.toArray s }), (7, .ptr 1 0), (8, .bool g),
         (9,
         AV.sl 3
         (.app (.map T.encKd T.noKd o)
         (.raw
         [[.str { data := List.toArray (Prod.fst (Prod.fst (List.getD l (Int.toNat i) T.noKd))) },
         AV.sl 2 (.map T.encR ((0 : Int), []) (Prod.snd (Prod.fst (List.getD l (Int.toNat i) T.noKd)))) .none,
         AV.bool (Prod.snd (List.getD l (Int.toNat i) T.noKd))]]))
         (.tok 3)),
         (10, .bool b), (11, .int .i64 (IntKind.wrap .i64 (i + (1 : Int))))]
         [AObj.cells [.sl 3 (.map T.encKd T.noKd l) .none],
         AObj.cells [.str { data := List.toArray (Prod.fst m) }, AV.sl 2 (.map T.encR ((0 : Int), []) (Prod.snd m)) .none], AObj.gone, AObj.tok]
         (q33_2 n Post)))))
      (AWP Tryz.prog 83 n c33_15
        [(0, .ptr 0 0), (7, .ptr 1 0), (8, .bool g), (9, .sl 3 (.map T.encKd T.noKd o) (.tok 2)),
         (10, .bool b)]
        [AObj.cells [.sl 3 (.map T.encKd T.noKd l) .none],
         AObj.cells [.str { data := List.toArray (Prod.fst m) }, AV.sl 2 (.map T.encR ((0 : Int), []) (Prod.snd m)) .none], AObj.tok]
        (q33_0 n Post)) →
    AWP Tryz.prog 83 n c33_9
      [(0, .ptr 0 0), (1, .str { data := List.toArray s }), (7, .ptr 1 0), (8, .bool g),
        (9, .sl 3 (.map T.encKd T.noKd o) (.tok 2)), (10, .bool b), (11, .int .i64 i)]
      [AObj.cells (T.encXd l), AObj.cells (T.encM m), AObj.tok] (q33_2 n Post) := fun l o s m g b i n Post h => Go.Ab.AWP.loop' g33 (Cfg.live g33) c33_9 (by kernel_rfl) (by kernel_rfl) (Go.Ab.kc (by kernel_rfl) h)
theorem v33_15 : ∀ (l o : List T.Kd) (m : T.Mani) (g b : Bool) (n : Nat) (Post : AV → List AObj → Prop),
  condP (!b)
      (needP ((List.length o + 1) * 48 ≤ 140737488351232)
        (Post (.int .i64 (0 : Int))
         [AObj.cells
         [.sl 3
         (.app (.map T.encKd T.noKd o) (.raw [[.str { data := List.toArray (Prod.fst m) }, AV.sl 2 (.map T.encR ((0 : Int), []) (Prod.snd m)) .none, .bool g]]))
         (.tok 3)],
         AObj.cells [.str { data := List.toArray (Prod.fst m) }, AV.sl 2 (.map T.encR ((0 : Int), []) (Prod.snd m)) .none], AObj.gone, AObj.tok]))
      (Post (.int .i64 (0 : Int))
        [AObj.cells [.sl 3 (.map T.encKd T.noKd o) (.tok 2)],
         AObj.cells [.str { data := List.toArray (Prod.fst m) }, AV.sl 2 (.map T.encR ((0 : Int), []) (Prod.snd m)) .none], AObj.tok]) →
    AWP Tryz.prog 83 n c33_15
      [(0, .ptr 0 0), (7, .ptr 1 0), (8, .bool g), (9, .sl 3 (.map T.encKd T.noKd o) (.tok 2)),
        (10, .bool b)]
      [AObj.cells (T.encXd l), AObj.cells (T.encM m), AObj.tok] (q33_0 n Post) := fun l o m g b n Post h => Go.Ab.awp_sound g33 n _ _ _ _ (Go.Ab.kc (by kernel_rfl) h)

-- 11
noncomputable def l11 : Nat → List Nat
  | 3 => [0, 2, 3, 4]
  | _ => []
noncomputable def u11 : Nat → Bool
  | _ => false
noncomputable def m11 : Nat → Bool
  | _ => false
noncomputable def g11 : Cfg := { N := 25, live := l11, cut := u11, mu := m11, ret := rets }
noncomputable def c11 : Go.Code := Go.Ab.bodyOf Go.Proofs.Tryz.f11
noncomputable def q11_0 : Nat → (AV → List AObj → Prop) → AQ := fun (n : Nat) (Post : AV → List AObj → Prop) => endQ Tryz.prog (resultsOf Tryz.f11) Post
noncomputable def q11_1 : Nat → (AV → List AObj → Prop) → AQ := fun (n : Nat) (Post : AV → List AObj → Prop) => seqQ (fun (s' : Slots) (H' : List AObj) => awp Tryz.prog g11 n (codeSnd (codeSnd (codeSnd c11))) s' H' (q11_0 n Post)) (q11_0 n Post)
noncomputable def q11_2 : Nat → (AV → List AObj → Prop) → AQ := fun (n : Nat) (Post : AV → List AObj → Prop) => blockQ 0 (q11_1 n Post)
noncomputable def c11_3 : Go.Code := codeFst (codeSnd (codeFst (codeSnd (codeSnd c11))))
theorem s11 : ∀ (e : List T.Ent) (Post : AV → List AObj → Prop),
  AWP Tryz.prog 25 0 c11_3
      [(0, .sl 2 (.map T.encEn ([], []) e) .none), (2, .ptr 0 0), (3, .ptr 1 0), (4, .int .i64 (0 : Int))]
      [AObj.cells [.sl 0 (.raw []) .nil], AObj.cells [.sl 0 (.raw []) .nil]] (q11_2 0 Post) →
    ASpec Tryz.prog 11 [.sl 2 (.map T.encEn ([], []) e) .none] [] Post := fun e Post h => Go.Ab.ASpec.of_vc g11 Go.Proofs.Tryz.func11 (by kernel_rfl) (by kernel_rfl) (by kernel_rfl) (Go.Ab.kc (by kernel_rfl) h)
theorem v11_3 : ∀ (e : List T.Ent) (l : List T.Kd) (i : Int) (n : Nat) (Post : AV → List AObj → Prop),
  condP (decide (i < (↑(List.length e) : Int)))
      (needP ((0 : Int) ≤ i ∧ i < (↑(List.length e) : Int))
        (needP ((0 : Int) ≤ i ∧ i < (↑(List.length e) : Int))
         (needP (allBytes (.map encB (0 : UInt8) (Prod.snd (List.getD e (Int.toNat i) ([], [])))))
         (ASpec Tryz.prog 33
         [AV.ptr 1 0, .str { data := List.toArray (Prod.fst (List.getD e (Int.toNat i) ([], []))) },
         AV.str (bytesOf (.map encB (0 : UInt8) (Prod.snd (List.getD e (Int.toNat i) ([], [])))))]
         [AObj.cells [AV.sl 0 (.raw []) .nil], AObj.cells [.sl 3 (.map T.encKd T.noKd l) .none]] fun (r : AV) (H' : List AObj) =>
         ∃ (x : Int × List T.Kd),
         r = AV.int .i64 (Prod.fst x) ∧
         H' = [AObj.cells [.sl 0 (.raw []) .nil], AObj.cells [.sl 3 (.map T.encKd T.noKd (Prod.snd x)) .none]] ∧
         AWP Tryz.prog 25 n c11_3
         [(0, .sl 2 (.map T.encEn ([], []) e) .none), (2, .ptr 0 0), (3, .ptr 1 0),
         (4, .int .i64 (IntKind.wrap .i64 (i + (1 : Int))))]
         [AObj.cells [.sl 0 (.raw []) .nil], AObj.cells [.sl 3 (.map T.encKd T.noKd (Prod.snd x)) .none]] (q11_2 n Post)))))
      (Post (.agg [.sl 3 (.map T.encKd T.noKd l) .none])
        [AObj.cells [.sl 3 (.map T.encKd T.noKd l) .none], AObj.cells [.sl 3 (.map T.encKd T.noKd l) .none]]) →
    AWP Tryz.prog 25 n c11_3
      [(0, .sl 2 (.map T.encEn ([], []) e) .none), (2, .ptr 0 0), (3, .ptr 1 0), (4, .int .i64 i)]
      [AObj.cells [.sl 0 (.raw []) .nil], AObj.cells (T.encXd l)] (q11_2 n Post) := fun e l i n Post h => Go.Ab.AWP.loop' g11 (Cfg.live g11) c11_3 (by kernel_rfl) (by kernel_rfl) (Go.Ab.kc (by kernel_rfl) h)

-- 10
noncomputable def l10 : Nat → List Nat
  | 3 => [3, 7, 8, 9]
  | _ => []
noncomputable def u10 : Nat → Bool
  | _ => false
noncomputable def m10 : Nat → Bool
  | _ => false
noncomputable def g10 : Cfg := { N := 21, live := l10, cut := u10, mu := m10, ret := rets }
noncomputable def c10 : Go.Code := Go.Ab.bodyOf Go.Proofs.Tryz.f10
noncomputable def q10_0 : Nat → (AV → List AObj → Prop) → AQ := fun (n : Nat) (Post : AV → List AObj → Prop) => endQ Tryz.prog (resultsOf Tryz.f10) Post
noncomputable def q10_1 : Nat → (AV → List AObj → Prop) → AQ := fun (n : Nat) (Post : AV → List AObj → Prop) => seqQ (fun (s' : Slots) (H' : List AObj) => awp Tryz.prog g10 n (codeSnd (codeSnd (codeSnd c10))) s' H' (q10_0 n Post)) (q10_0 n Post)
noncomputable def q10_2 : Nat → (AV → List AObj → Prop) → AQ := fun (n : Nat) (Post : AV → List AObj → Prop) => blockQ 0 (q10_1 n Post)
noncomputable def c10_3 : Go.Code := codeFst (codeSnd (codeFst (codeSnd (codeSnd c10))))
theorem s10 : ∀ (e : List T.Ent) (Post : AV → List AObj → Prop),
  (ASpec Tryz.prog 31 [] [] fun (r : AV) (H' : List AObj) =>
      ∃ (x : Unit),
        r = AV.ptr 1 0 ∧
         H' = [AObj.mp (MM.typed T.EK []), AObj.cells [.map 0]] ∧
         AWP Tryz.prog 21 0 c10_3
         [(3, .ptr 1 0), (7, .sl 2 (.map T.encEn ([], []) e) .none), (8, .int .i64 (↑(List.length e) : Int)),
         (9, .int .i64 (0 : Int))]
         [AObj.mp (MM.typed T.EK []), AObj.cells [.map 0]] (q10_2 0 Post)) →
    ASpec Tryz.prog 10 [.sl 2 (.map T.encEn ([], []) e) .none] [] Post := fun e Post h => Go.Ab.ASpec.of_vc g10 Go.Proofs.Tryz.func10 (by kernel_rfl) (by kernel_rfl) (by kernel_rfl) (Go.Ab.kc (by kernel_rfl) h)
theorem v10_3 : ∀ (e : List T.Ent) (es : T.Kn) (n i : Int) (n_1 : Nat) (Post : AV → List AObj → Prop),
  condP (decide (i < n))
      (needP ((0 : Int) ≤ i ∧ i < (↑(List.length e) : Int))
        (ASpec Tryz.prog 32
         [AV.ptr 1 0, .str { data := List.toArray (Prod.fst (List.getD e (Int.toNat i) ([], []))) },
         AV.sl 1 (.map encB (0 : UInt8) (Prod.snd (List.getD e (Int.toNat i) ([], [])))) .none]
         [AObj.mp (MM.typed T.EK es), AObj.cells [.map 0],
         AObj.cells
         [.str { data := List.toArray (Prod.fst (List.getD e (Int.toNat i) ([], []))) }, AV.sl 1 (.map encB (0 : UInt8) (Prod.snd (List.getD e (Int.toNat i) ([], [])))) .none]]
         fun (r : AV) (H' : List AObj) =>
         ∃ (x : Int × T.Kn),
         r = AV.int .i64 (Prod.fst x) ∧
         H' =
         [AObj.mp (MM.typed T.EK (Prod.snd x)), AObj.cells [.map 0],
         AObj.cells
         [.str { data := List.toArray (Prod.fst (List.getD e (Int.toNat i) ([], []))) },
         AV.sl 1 (.map encB (0 : UInt8) (Prod.snd (List.getD e (Int.toNat i) ([], [])))) .none]] ∧
         AWP Tryz.prog 21 n_1 c10_3
         [(3, .ptr 1 0), (7, .sl 2 (.map T.encEn ([], []) e) .none), (8, .int .i64 n),
         (9, .int .i64 (IntKind.wrap .i64 (i + (1 : Int))))]
         [AObj.mp (MM.typed T.EK (Prod.snd x)), AObj.cells [.map 0],
         AObj.cells
         [.str { data := List.toArray (Prod.fst (List.getD e (Int.toNat i) ([], []))) },
         AV.sl 1 (.map encB (0 : UInt8) (Prod.snd (List.getD e (Int.toNat i) ([], [])))) .none]]
         (q10_2 n_1 Post)))
      (Post (.ptr 1 0) [AObj.mp (MM.typed T.EK es), AObj.cells [.map 0]]) →
    AWP Tryz.prog 21 n_1 c10_3
      [(3, .ptr 1 0), (7, .sl 2 (.map T.encEn ([], []) e) .none), (8, .int .i64 n), (9, .int .i64 i)] (T.HX es)
      (q10_2 n_1 Post) := fun e es n i n Post h => Go.Ab.AWP.loop' g10 (Cfg.live g10) c10_3 (by kernel_rfl) (by kernel_rfl) (Go.Ab.kc (by kernel_rfl) h)

end
end Xd
end

section
/- Printed: what the code of functions 46 asks for, by the framework's own reading of it; each line is checked against the code. -/

set_option linter.unusedVariables false
set_option maxRecDepth 100000
set_option maxHeartbeats 4000000
open Go Go.Ab Go.Proofs
namespace Rr
noncomputable section

noncomputable def retRr : List (Nat × Ret) := [
  (9016, ⟨List (List UInt8), fun _ _ x => .sl 1 (.map T.encL [] x) .none, fun _ H _ => H⟩),
  (9018, ⟨List (List UInt8), fun _ _ x => .sl 1 (.map T.encL [] x) .none, fun _ H _ => H⟩),
  (9014, ⟨List (List UInt8), fun _ _ x => .sl 1 (.map T.encL [] x) .none, fun _ H _ => H⟩),
  (9017, ⟨List (List UInt8), fun _ _ x => .sl 1 (.map T.encL [] x) .none, fun _ H _ => H⟩),
  (46, ⟨List (List UInt8), fun _ _ x => .sl 1 (.map T.encL [] x) .none, fun _ H _ => H⟩),
  (9045, ⟨List (List UInt8), fun _ _ x => .sl 1 (.map T.encL [] x) .none, fun _ H _ => H⟩),
  (9019, ⟨Bool, fun _ _ x => .bool x, fun _ H _ => H⟩),
  (9022, ⟨Bool, fun _ _ x => .bool x, fun _ H _ => H⟩),
  (9011, ⟨Unit, fun _ _ _ => .bool true, fun _ H _ => H⟩)]
noncomputable def rets : FuncId → List Ret := fun f => match lookupR retRr f with
  | [] => Xd.rets f
  | l => l

-- 46
noncomputable def l46 : Nat → List Nat
  | 4 => [0, 1, 5, 6, 7]
  | _ => []
noncomputable def u46 : Nat → Bool
  | _ => false
noncomputable def m46 : Nat → Bool
  | _ => false
noncomputable def g46 : Cfg := { N := 48, live := l46, cut := u46, mu := m46, ret := rets }
noncomputable def c46 : Go.Code := Go.Ab.bodyOf Go.Proofs.Tryz.f46
noncomputable def q46_0 : Nat → (AV → List AObj → Prop) → AQ := fun (n : Nat) (Post : AV → List AObj → Prop) => endQ Tryz.prog (resultsOf Tryz.f46) Post
noncomputable def q46_1 : Nat → (AV → List AObj → Prop) → AQ := fun (n : Nat) (Post : AV → List AObj → Prop) => seqQ (fun (s' : Slots) (H' : List AObj) => awp Tryz.prog g46 n (codeSnd (codeSnd (codeSnd (codeSnd c46)))) s' H' (q46_0 n Post)) (q46_0 n Post)
noncomputable def q46_2 : Nat → (AV → List AObj → Prop) → AQ := fun (n : Nat) (Post : AV → List AObj → Prop) => blockQ 0 (q46_1 n Post)
noncomputable def c46_4 : Go.Code := codeFst (codeSnd (codeFst (codeSnd (codeSnd (codeSnd c46)))))
theorem s46 : ∀ (o : List (List UInt8)) (x : List UInt8) (Post : AV → List AObj → Prop),
  AWP Tryz.prog 48 0 c46_4
      [(0, .sl 1 (.map T.encL [] o) .none), (1, .str { data := List.toArray x }), (5, .sl 0 (.raw []) .nil), (6, .bool false),
        (7, .int .i64 (0 : Int))]
      [] (q46_2 0 Post) →
    ASpec Tryz.prog 46 [.sl 1 (.map T.encL [] o) .none, .str { data := List.toArray x }] [] Post := fun o x Post h => Go.Ab.ASpec.of_vc g46 Go.Proofs.Tryz.func46 (by kernel_rfl) (by kernel_rfl) (by kernel_rfl) (Go.Ab.kc (by kernel_rfl) h)
theorem v46_4 : ∀ (o r : List (List UInt8)) (x : List UInt8) (b : Bool) (i : Int) (n : Nat) (Post : AV → List AObj → Prop),
  condP (decide (i < (↑(List.length o) : Int)))
      (condP (!b)
        (needP ((0 : Int) ≤ i ∧ i < (↑(List.length o) : Int))
         (condP
         (Op.bytesLess (ByteArray.toList { data := List.toArray x }) (ByteArray.toList { data := List.toArray (List.getD o (Int.toNat i) []) }) ||
         ByteArray.toList { data := List.toArray x } == ByteArray.toList { data := List.toArray (List.getD o (Int.toNat i) []) })
         (needP ((List.length r + 1) * 16 ≤ 140737488351232)
         (needP ((0 : Int) ≤ i ∧ i < (↑(List.length o) : Int))
         (condP (ByteArray.toList { data := List.toArray x } == ByteArray.toList { data := List.toArray (List.getD o (Int.toNat i) []) })
         (AWP Tryz.prog 48 n c46_4
         [(0, .sl 1 (.map T.encL [] o) .none), (1, .str { data := List.toArray x }),
         (5, .sl 1 (.app (.map T.encL [] r) (.raw [[AV.str { data := List.toArray x }]])) (.tok 1)), (6, .bool true),
         (7, .int .i64 (IntKind.wrap .i64 (i + (1 : Int))))]
         [AObj.gone, AObj.tok] (q46_2 n Post))
         (needP ((0 : Int) ≤ i ∧ i < (↑(List.length o) : Int))
         (needP ((List.length r + 1 + 1) * 16 ≤ 140737488351232)
         (AWP Tryz.prog 48 n c46_4
         [(0, .sl 1 (.map T.encL [] o) .none), (1, .str { data := List.toArray x }),
         (5,
         AV.sl 1
         (.app (.app (.map T.encL [] r) (.raw [[.str { data := List.toArray x }]])) (.raw [[AV.str { data := List.toArray (List.getD o (Int.toNat i) []) }]]))
         (.tok 2)),
         (6, .bool true), (7, .int .i64 (IntKind.wrap .i64 (i + (1 : Int))))]
         [AObj.gone, AObj.gone, AObj.tok] (q46_2 n Post)))))))
         (needP ((0 : Int) ≤ i ∧ i < (↑(List.length o) : Int))
         (needP ((List.length r + 1) * 16 ≤ 140737488351232)
         (AWP Tryz.prog 48 n c46_4
         [(0, .sl 1 (.map T.encL [] o) .none), (1, .str { data := List.toArray x }),
         (5, .sl 1 (.app (.map T.encL [] r) (.raw [[AV.str { data := List.toArray (List.getD o (Int.toNat i) []) }]])) (.tok 1)),
         (6, .bool b), (7, .int .i64 (IntKind.wrap .i64 (i + (1 : Int))))]
         [AObj.gone, AObj.tok] (q46_2 n Post))))))
        (needP ((0 : Int) ≤ i ∧ i < (↑(List.length o) : Int))
         (needP ((List.length r + 1) * 16 ≤ 140737488351232)
         (AWP Tryz.prog 48 n c46_4
         [(0, .sl 1 (.map T.encL [] o) .none), (1, .str { data := List.toArray x }),
         (5, .sl 1 (.app (.map T.encL [] r) (.raw [[AV.str { data := List.toArray (List.getD o (Int.toNat i) []) }]])) (.tok 1)), (6, .bool b),
         (7, .int .i64 (IntKind.wrap .i64 (i + (1 : Int))))]
         [AObj.gone, AObj.tok] (q46_2 n Post)))))
      (condP (!b)
        (needP ((List.length r + 1) * 16 ≤ 140737488351232)
         (Post (.sl 1 (.app (.map T.encL [] r) (.raw [[.str { data := List.toArray x }]])) (.tok 1)) [AObj.gone, AObj.tok]))
        (Post (.sl 1 (.map T.encL [] r) (.tok 0)) [AObj.tok])) →
    AWP Tryz.prog 48 n c46_4
      [(0, .sl 1 (.map T.encL [] o) .none), (1, .str { data := List.toArray x }), (5, .sl 1 (.map T.encL [] r) (.tok 0)),
        (6, .bool b), (7, .int .i64 i)]
      [AObj.tok] (q46_2 n Post) := fun o r x b i n Post h => Go.Ab.AWP.loop' g46 (Cfg.live g46) c46_4 (by kernel_rfl) (by kernel_rfl) (Go.Ab.kc (by kernel_rfl) h)

end
end Rr
end

section
/- Lists of names, and what is asked of want, as cells. -/

open Go Go.Ab Go.Proofs
namespace T
end T
end

section
/- Printed: what the code of functions 72, 100 asks for, by the framework's own reading of it; each line is checked against the code. -/

set_option linter.unusedVariables false
set_option maxRecDepth 100000
set_option maxHeartbeats 4000000
open Go Go.Ab Go.Proofs
namespace Wn
noncomputable section

noncomputable def retWn : List (Nat × Ret) := [
  (9025, ⟨List (List UInt8), fun _ _ x => .sl 1 (.map T.encL [] x) .none, fun _ H _ => H⟩),
  (9026, ⟨List (List UInt8), fun _ _ x => .sl 1 (.map T.encL [] x) .none, fun _ H _ => H⟩),
  (9027, ⟨List (List UInt8), fun _ _ x => .sl 1 (.map T.encL [] x) .none, fun _ H _ => H⟩),
  (9028, ⟨List (List UInt8), fun _ _ x => .sl 1 (.map T.encL [] x) .none, fun _ H _ => H⟩),
  (72, ⟨Bool, fun _ _ x => .bool x, fun _ H _ => H⟩),
  (9023, ⟨Bool, fun _ _ x => .bool x, fun _ H _ => H⟩),
  (100, ⟨Int, fun _ _ x => .int .i64 x, fun _ H _ => H⟩),
  (59, ⟨Bool, fun _ _ x => .bool x, fun _ H _ => H⟩),
  (29, ⟨Bool, fun _ _ x => .bool x, fun _ H _ => H⟩),
  (9049, ⟨Unit, fun _ H _ => .fn 9065 [.ptr H.length 0], fun a H _ => H ++ [.cells [a.getD 0 .bad]]⟩),
  (yieldKey, ⟨Unit, fun _ _ _ => .bool true, fun _ H _ => H⟩),
  (yieldKey, ⟨List (List UInt8), fun _ _ _ => .bool true, fun _ H x => ((H.set 3 .gone).set 0 (.cells [.sl 1 (.map T.encL [] x) (.tok H.length)])) ++ [.tok]⟩),
  (9024, ⟨Unit, fun _ _ _ => .bool true, fun _ H _ => H⟩)]
noncomputable def rets : FuncId → List Ret := fun f => match lookupR retWn f with
  | [] => Rr.rets f
  | l => l

-- 72
noncomputable def l72 : Nat → List Nat
  | _ => []
noncomputable def u72 : Nat → Bool
  | _ => false
noncomputable def m72 : Nat → Bool
  | _ => false
noncomputable def g72 : Cfg := { N := 9, live := l72, cut := u72, mu := m72, ret := rets }
theorem s72 : ∀ (o : List (List UInt8)) (s : List UInt8) (Post : AV → List AObj → Prop),
  (ASpec Tryz.prog 100 [.sl 1 (.map T.encL [] o) .none, .str { data := List.toArray s }] [] fun (r : AV) (H' : List AObj) =>
      ∃ (x : Int), r = AV.int .i64 x ∧ H' = [] ∧ Post (.bool (decide (x ≥ (0 : Int)))) []) →
    ASpec Tryz.prog 72 [.sl 1 (.map T.encL [] o) .none, .str { data := List.toArray s }] [] Post := fun o s Post h => Go.Ab.ASpec.of_vc g72 Go.Proofs.Tryz.func72 (by kernel_rfl) (by kernel_rfl) (by kernel_rfl) (Go.Ab.kc (by kernel_rfl) h)

-- 100
noncomputable def l100 : Nat → List Nat
  | 2 => [0, 1, 7, 8]
  | _ => []
noncomputable def u100 : Nat → Bool
  | _ => false
noncomputable def m100 : Nat → Bool
  | _ => false
noncomputable def g100 : Cfg := { N := 19, live := l100, cut := u100, mu := m100, ret := rets }
noncomputable def c100 : Go.Code := Go.Ab.bodyOf Go.Proofs.Tryz.f100
noncomputable def q100_0 : Nat → (AV → List AObj → Prop) → AQ := fun (n : Nat) (Post : AV → List AObj → Prop) => endQ Tryz.prog (resultsOf Tryz.f100) Post
noncomputable def q100_1 : Nat → (AV → List AObj → Prop) → AQ := fun (n : Nat) (Post : AV → List AObj → Prop) => seqQ (fun (s' : Slots) (H' : List AObj) => awp Tryz.prog g100 n (codeSnd (codeSnd c100)) s' H' (q100_0 n Post)) (q100_0 n Post)
noncomputable def q100_2 : Nat → (AV → List AObj → Prop) → AQ := fun (n : Nat) (Post : AV → List AObj → Prop) => blockQ 0 (q100_1 n Post)
noncomputable def c100_2 : Go.Code := codeFst (codeSnd (codeFst (codeSnd c100)))
theorem s100 : ∀ (o : List (List UInt8)) (s : List UInt8) (Post : AV → List AObj → Prop),
  AWP Tryz.prog 19 0 c100_2
      [(0, .sl 1 (.map T.encL [] o) .none), (1, .str { data := List.toArray s }), (7, .int .i64 (↑(List.length o) : Int)),
        (8, .int .i64 (0 : Int))]
      [] (q100_2 0 Post) →
    ASpec Tryz.prog 100 [.sl 1 (.map T.encL [] o) .none, .str { data := List.toArray s }] [] Post := fun o s Post h => Go.Ab.ASpec.of_vc g100 Go.Proofs.Tryz.func100 (by kernel_rfl) (by kernel_rfl) (by kernel_rfl) (Go.Ab.kc (by kernel_rfl) h)
theorem v100_2 : ∀ (o : List (List UInt8)) (s : List UInt8) (n i : Int) (n_1 : Nat) (Post : AV → List AObj → Prop),
  condP (decide (i < n))
      (needP ((0 : Int) ≤ i ∧ i < (↑(List.length o) : Int))
        (condP (ByteArray.toList { data := List.toArray s } == ByteArray.toList { data := List.toArray (List.getD o (Int.toNat i) []) }) (Post (.int .i64 i) [])
         (AWP Tryz.prog 19 n_1 c100_2
         [(0, .sl 1 (.map T.encL [] o) .none), (1, .str { data := List.toArray s }), (7, .int .i64 n),
         (8, .int .i64 (IntKind.wrap .i64 (i + (1 : Int))))]
         [] (q100_2 n_1 Post))))
      (Post (.int .i64 (-1 : Int)) []) →
    AWP Tryz.prog 19 n_1 c100_2
      [(0, .sl 1 (.map T.encL [] o) .none), (1, .str { data := List.toArray s }), (7, .int .i64 n), (8, .int .i64 i)] []
      (q100_2 n_1 Post) := fun o s n i n Post h => Go.Ab.AWP.loop' g100 (Cfg.live g100) c100_2 (by kernel_rfl) (by kernel_rfl) (Go.Ab.kc (by kernel_rfl) h)

end
end Wn
end

section
/- Names seen, as a map's values. -/

open Go Go.Ab Go.Proofs
namespace T
noncomputable def EB : Enc Bool := Enc.one (fun b => .bool b)
/-- the names that were seen -/
def seenM (o : List (List UInt8)) : List (ByteArray × Bool) := o.map fun x => (⟨x.toArray⟩, true)
end T
end

section
/- Printed: what the code of functions 77, 60 asks for, by the framework's own reading of it; each line is checked against the code. -/

set_option linter.unusedVariables false
set_option maxRecDepth 100000
set_option maxHeartbeats 4000000
open Go Go.Ab Go.Proofs
namespace Rc
noncomputable section

noncomputable def goneC (H : List AObj) (c : Nat) : List AObj := match H[c]? with
  | some (.cells [.sl _ _ (.tok k)]) => H.set k .gone
  | some (.cells [.msl _ k _ _]) => H.set k .gone
  | _ => H
noncomputable def noteH (args : List AV) (H : List AObj) (x : List (List UInt8) × List (List UInt8)) : List AObj := match args with
  | [_, .ptr c1 _, .ptr c2 _, .ptr c3 _] => match H[c1]? with
    | some (.cells [.map q]) => ((((goneC (goneC H c2) c3).set q (.mp (.typed T.EB (T.seenM x.2)))).set c2 (.cells [.sl 1 (.map T.encL [] x.1) (.tok H.length)])).set c3 (.cells [.msl 1 (H.length + 1) 0 x.2.length])) ++ [.tok, .arr 1 (.map T.encL [] x.2)]
    | _ => H
  | _ => H
noncomputable def addH (args : List AV) (H : List AObj) (o : AObj) : List AObj := match args with
  | .msl _ id _ _ :: _ => H.set id o
  | _ => H
noncomputable def goneA (args : List AV) (H : List AObj) : List AObj := addH args H .gone
noncomputable def retRc : List (Nat × Ret) := [
  (9040, ⟨Unit, fun _ _ _ => .tup [], fun _ H _ => H⟩), (9040, ⟨List (List UInt8) × List (List UInt8), fun _ _ _ => .tup [], noteH⟩),
  (9042, ⟨List (List UInt8), fun _ _ x => .sl 1 (.map T.encL [] x) .none, fun _ H _ => H⟩),
  (45, ⟨Unit, fun _ _ _ => .tup [], fun _ H _ => H⟩), (45, ⟨List (List UInt8), fun _ _ _ => .tup [], fun a H x => addH a H (.arr 1 (.map T.encL [] x))⟩),
  (9016, ⟨Unit, fun _ _ _ => .sl 0 (.raw []) .nil, fun _ H _ => H⟩),
  (9016, ⟨List (List UInt8), fun _ H x => .msl 1 H.length 0 x.length, fun _ H x => H ++ [.arr 1 (.map T.encL [] x)]⟩),
  (9062, ⟨Int, fun _ _ x => .int .i64 x, fun _ H _ => H⟩),
  (9046, ⟨List (List UInt8), fun _ _ x => .sl 1 (.map T.encL [] x) .none, fun a H _ => goneA a H⟩),
  (9018, ⟨List (List UInt8), fun _ _ x => .sl 1 (.map T.encL [] x) .none, fun _ H _ => H⟩),
  (9019, ⟨Bool, fun _ _ x => .bool x, fun _ H _ => H⟩)]
noncomputable def rets : FuncId → List Ret := fun f => match lookupR retRc f with
  | [] => X.rets f
  | l => l

-- 77
end
end Rc
end

section
/- Terms, and a trail's entries, as cells. -/

open Go Go.Ab Go.Proofs
namespace T
/-- name, places, none -/
abbrev Term := List UInt8 × List Span × Bool
noncomputable def encT (x : Term) : List AV := [.str ⟨x.1.toArray⟩, .sl 2 (.map encS (0, 0) x.2.1) .none, .bool x.2.2]
end T
end

section
/- A trail as an object; what is done to it. -/

open Go Go.Ab Go.Proofs V
namespace T
end T
end

section
/- Picks as cells. -/

open Go Go.Ab Go.Proofs
namespace T
/-- a name and a version -/
abbrev Pk := List UInt8 × Int
abbrev noPk : Pk := ([], 0)
noncomputable def encPk (x : Pk) : List AV := [.str ⟨x.1.toArray⟩, .int .i64 x.2]
end T
end

section
/- Printed: what the code of functions 76 asks for, by the framework's own reading of it; each line is checked against the code. -/

set_option linter.unusedVariables false
set_option maxRecDepth 100000
set_option maxHeartbeats 4000000
open Go Go.Ab Go.Proofs
namespace In
noncomputable section

noncomputable def rowId : List AV → Nat
  | .msl _ id _ _ :: _ => id
  | _ => 0
noncomputable def retI : List (Nat × Ret) := [
  (9290, ⟨List T.Pk, fun _ H x => .msl 2 H.length 0 x.length, fun _ H x => H ++ [.arr 2 (.map T.encPk T.noPk x)]⟩),
  (76, ⟨Int, fun _ _ x => .int .i64 x, fun _ H _ => H⟩),
  (9292, ⟨List T.Pk, fun _ _ x => .sl 2 (.map T.encPk T.noPk x) .none, fun a H _ => H.set (rowId a) .gone⟩)]
noncomputable def rets : FuncId → List Ret := lookupR (retI ++ C.retC ++ V.retL)

-- 76
noncomputable def l76 : Nat → List Nat
  | 2 => [0, 1, 5, 6]
  | _ => []
noncomputable def u76 : Nat → Bool
  | 2 => true
  | _ => false
noncomputable def m76 : Nat → Bool
  | _ => false
noncomputable def g76 : Cfg := { N := 28, live := l76, cut := u76, mu := m76, ret := rets }
noncomputable def c76 : Go.Code := Go.Ab.bodyOf Go.Proofs.Tryz.f76
noncomputable def q76_0 : Nat → (AV → List AObj → Prop) → AQ := fun (n : Nat) (Post : AV → List AObj → Prop) => endQ Tryz.prog (resultsOf Tryz.f76) Post
noncomputable def q76_1 : Nat → (AV → List AObj → Prop) → AQ := fun (n : Nat) (Post : AV → List AObj → Prop) => scopeQ Tryz.prog g76 n (codeFst (codeSnd c76)) (q76_0 n Post)
noncomputable def c76_2 : Go.Code := codeSnd (codeSnd (codeFst (codeSnd c76)))
theorem s76v : ∀ (s : List T.Pk) (x : List UInt8) (Post : AV → List AObj → Prop),
  AWP Tryz.prog 28 0 c76_2
      [(0, .sl 2 (.map T.encPk T.noPk s) .none), (1, .str { data := List.toArray x }), (5, .int .i64 (0 : Int)),
        (6, .int .i64 (↑(List.length s) : Int))]
      [] (q76_1 0 Post) →
    ASpec Tryz.prog 76 [AV.sl 2 (.map T.encPk T.noPk s) .none, .str { data := List.toArray x }] [] Post := fun s x Post h => Go.Ab.ASpec.of_vc g76 Go.Proofs.Tryz.func76 (by kernel_rfl) (by kernel_rfl) (by kernel_rfl) (Go.Ab.kc (by kernel_rfl) h)
theorem v76_2v : ∀ (s : List T.Pk) (x : List UInt8) (lo hi : Int) (n : Nat) (Post : AV → List AObj → Prop),
  condP (lo == hi) (Post (.int .i64 lo) [])
      (needP ((2 : Int) ≠ (0 : Int))
        (needP
         ((0 : Int) ≤ IntKind.wrap .i64 (Int.tdiv (IntKind.wrap .i64 (lo + hi)) (2 : Int)) ∧
         IntKind.wrap .i64 (Int.tdiv (IntKind.wrap .i64 (lo + hi)) (2 : Int)) < (↑(List.length s) : Int))
         (condP
         (Op.bytesLess (ByteArray.toList { data := List.toArray (Prod.fst (List.getD s (Int.toNat (IntKind.wrap .i64 (Int.tdiv (IntKind.wrap .i64 (lo + hi)) (2 : Int)))) T.noPk)) })
         (ByteArray.toList { data := List.toArray x }))
         (AWPS Tryz.prog 28 n (codeFst (codeSnd c76)) (Code.seq Code.skip c76_2)
         [(0, .sl 2 (.map T.encPk T.noPk s) .none), (1, .str { data := List.toArray x }),
         (5, .int .i64 (IntKind.wrap .i64 (IntKind.wrap .i64 (Int.tdiv (IntKind.wrap .i64 (lo + hi)) (2 : Int)) + (1 : Int)))),
         (6, .int .i64 hi)]
         [] (q76_0 n Post))
         (AWPS Tryz.prog 28 n (codeFst (codeSnd c76)) (Code.seq Code.skip c76_2)
         [(0, .sl 2 (.map T.encPk T.noPk s) .none), (1, .str { data := List.toArray x }), (5, .int .i64 lo),
         (6, .int .i64 (IntKind.wrap .i64 (Int.tdiv (IntKind.wrap .i64 (lo + hi)) (2 : Int))))]
         [] (q76_0 n Post))))) →
    AWP Tryz.prog 28 n c76_2
      [(0, .sl 2 (.map T.encPk T.noPk s) .none), (1, .str { data := List.toArray x }), (5, .int .i64 lo), (6, .int .i64 hi)] []
      (q76_1 n Post) := fun s x lo hi n Post h => Go.Ab.awp_sound g76 n _ _ _ _ (Go.Ab.kc (by kernel_rfl) h)

end
end In
end

section
/- Printed: what the code of functions 117, 85, 89, 88, 92, 58, 59, 122, 91, 57, 29 asks for, by the framework's own reading of it; each line is checked against the code. -/

set_option linter.unusedVariables false
set_option maxRecDepth 100000
set_option maxHeartbeats 4000000
open Go Go.Ab Go.Proofs
namespace S
noncomputable section

noncomputable def retS : List (Nat × Ret) := [
  (18032, ⟨Unit, fun _ _ _ => .bool true, fun _ H _ => H⟩),
  (18033, ⟨ByteArray × List UInt8 × Int, fun _ _ x => .tup [.str x.1, .sl 1 (.map encB 0 x.2.1) .none, .int .i64 x.2.2], fun _ H _ => H⟩),
  (9045, ⟨ByteArray × ByteArray × Int, fun _ _ x => .tup [.str x.1, .str x.2.1, .int .i64 x.2.2], fun _ H _ => H⟩),
  (9262, ⟨List UInt8, fun _ _ x => .sl 1 (.map encB 0 x) .none, fun _ H _ => H⟩),
  (9325, ⟨ByteArray, fun _ _ x => .str x, fun _ H _ => H⟩),
  (29, ⟨Bool, fun _ _ x => .bool x, fun _ H _ => H⟩),
  (18090, ⟨List UInt8 × Bool, fun _ _ x => .tup [.sl 1 (.map encB 0 x.1) .none, .bool x.2], fun _ H _ => H⟩),
  (59, ⟨Bool, fun _ _ x => .bool x, fun _ H _ => H⟩),
  (9170, ⟨ByteArray × Bool, fun _ _ x => .tup [.str x.1, .bool x.2], fun _ H _ => H⟩),
  (9323, ⟨List UInt8, fun _ _ x => .sl 1 (.map encB 0 x) .none, fun _ H _ => H⟩),
  (9263, ⟨ByteArray, fun _ _ x => .str x, fun _ H _ => H⟩),
  (57, ⟨List Int, fun _ _ x => .sl 1 (.map encI 0 x) .none, fun _ H _ => H⟩),
  (58, ⟨Int, fun _ _ x => .int .i64 x, fun _ H _ => H⟩),
  (88, ⟨Int, fun _ _ x => .int .u32 x, fun _ H _ => H⟩),
  (92, ⟨Int, fun _ _ x => .int .i64 x, fun _ H _ => H⟩),
  (85, ⟨Int, fun _ _ x => .int .i64 x, fun _ H _ => H⟩),
  (91, ⟨Int × Int, fun _ _ x => .tup [.int .i64 x.1, .int .i64 x.2], fun _ H _ => H⟩),
  (89, ⟨Int, fun _ _ x => .int .u32 x, fun _ H _ => H⟩),
  (117, ⟨Int, fun _ _ x => .int .i64 x, fun _ H _ => H⟩),
  (122, ⟨Int, fun _ _ x => .int .i64 x, fun _ H _ => H⟩)]
noncomputable def rets : FuncId → List Ret := lookupR (retS ++ V.retL)

-- 117
noncomputable def m117 : Nat → Bool
  | _ => false
noncomputable def l85 : Nat → List Nat
  | 3 => [0, 3, 4]
  | _ => []
noncomputable def l92 : Nat → List Nat
  | _ => []
noncomputable def u92 : Nat → Bool
  | _ => false
noncomputable def m92 : Nat → Bool
  | _ => false
noncomputable def g92 : Cfg := { N := 27, live := l92, cut := u92, mu := m92, ret := rets }
theorem s92 : ∀ (c : Int) (Post : AV → List AObj → Prop),
  condP (decide (c ≥ (97 : Int)))
      (condP (decide (c ≤ (122 : Int))) (Post (.int .i64 (0 : Int)) [])
        (condP (decide (c ≥ (945 : Int)))
         (condP (decide (c ≤ (969 : Int))) (Post (.int .i64 (1 : Int)) [])
         (condP (decide (c ≥ (48 : Int)))
         (condP (decide (c ≤ (57 : Int))) (Post (.int .i64 (2 : Int)) []) (condP (c == (45 : Int)) (Post (.int .i64 (3 : Int)) []) (Post (.int .i64 (4 : Int)) [])))
         (condP (c == (45 : Int)) (Post (.int .i64 (3 : Int)) []) (Post (.int .i64 (4 : Int)) []))))
         (condP (decide (c ≥ (48 : Int)))
         (condP (decide (c ≤ (57 : Int))) (Post (.int .i64 (2 : Int)) []) (condP (c == (45 : Int)) (Post (.int .i64 (3 : Int)) []) (Post (.int .i64 (4 : Int)) [])))
         (condP (c == (45 : Int)) (Post (.int .i64 (3 : Int)) []) (Post (.int .i64 (4 : Int)) [])))))
      (condP (decide (c ≥ (945 : Int)))
        (condP (decide (c ≤ (969 : Int))) (Post (.int .i64 (1 : Int)) [])
         (condP (decide (c ≥ (48 : Int)))
         (condP (decide (c ≤ (57 : Int))) (Post (.int .i64 (2 : Int)) []) (condP (c == (45 : Int)) (Post (.int .i64 (3 : Int)) []) (Post (.int .i64 (4 : Int)) [])))
         (condP (c == (45 : Int)) (Post (.int .i64 (3 : Int)) []) (Post (.int .i64 (4 : Int)) []))))
        (condP (decide (c ≥ (48 : Int)))
         (condP (decide (c ≤ (57 : Int))) (Post (.int .i64 (2 : Int)) []) (condP (c == (45 : Int)) (Post (.int .i64 (3 : Int)) []) (Post (.int .i64 (4 : Int)) [])))
         (condP (c == (45 : Int)) (Post (.int .i64 (3 : Int)) []) (Post (.int .i64 (4 : Int)) [])))) →
    ASpec Tryz.prog 92 [.int .i32 c] [] Post := fun c Post h => Go.Ab.ASpec.of_vc g92 Go.Proofs.Tryz.func92 (by kernel_rfl) (by kernel_rfl) (by kernel_rfl) (Go.Ab.kc (by kernel_rfl) h)

-- 58
noncomputable def l58 : Nat → List Nat
  | _ => []
noncomputable def u58 : Nat → Bool
  | _ => false
noncomputable def m58 : Nat → Bool
  | _ => false
noncomputable def g58 : Cfg := { N := 23, live := l58, cut := u58, mu := m58, ret := rets }
theorem s58 : ∀ (c : Int) (Post : AV → List AObj → Prop),
  condP (decide (c ≥ (97 : Int)))
      (condP (decide (c ≤ (122 : Int))) (Post (.int .i64 (0 : Int)) [])
        (condP (decide (c ≥ (945 : Int)))
         (condP (decide (c ≤ (969 : Int))) (Post (.int .i64 (1 : Int)) [])
         (condP (decide (c ≥ (48 : Int)))
         (condP (decide (c ≤ (57 : Int))) (Post (.int .i64 (2 : Int)) []) (condP (c == (45 : Int)) (Post (.int .i64 (3 : Int)) []) (Post (.int .i64 (4 : Int)) [])))
         (condP (c == (45 : Int)) (Post (.int .i64 (3 : Int)) []) (Post (.int .i64 (4 : Int)) []))))
         (condP (decide (c ≥ (48 : Int)))
         (condP (decide (c ≤ (57 : Int))) (Post (.int .i64 (2 : Int)) []) (condP (c == (45 : Int)) (Post (.int .i64 (3 : Int)) []) (Post (.int .i64 (4 : Int)) [])))
         (condP (c == (45 : Int)) (Post (.int .i64 (3 : Int)) []) (Post (.int .i64 (4 : Int)) [])))))
      (condP (decide (c ≥ (945 : Int)))
        (condP (decide (c ≤ (969 : Int))) (Post (.int .i64 (1 : Int)) [])
         (condP (decide (c ≥ (48 : Int)))
         (condP (decide (c ≤ (57 : Int))) (Post (.int .i64 (2 : Int)) []) (condP (c == (45 : Int)) (Post (.int .i64 (3 : Int)) []) (Post (.int .i64 (4 : Int)) [])))
         (condP (c == (45 : Int)) (Post (.int .i64 (3 : Int)) []) (Post (.int .i64 (4 : Int)) []))))
        (condP (decide (c ≥ (48 : Int)))
         (condP (decide (c ≤ (57 : Int))) (Post (.int .i64 (2 : Int)) []) (condP (c == (45 : Int)) (Post (.int .i64 (3 : Int)) []) (Post (.int .i64 (4 : Int)) [])))
         (condP (c == (45 : Int)) (Post (.int .i64 (3 : Int)) []) (Post (.int .i64 (4 : Int)) [])))) →
    ASpec Tryz.prog 58 [.int .i64 c] [] Post := fun c Post h => Go.Ab.ASpec.of_vc g58 Go.Proofs.Tryz.func58 (by kernel_rfl) (by kernel_rfl) (by kernel_rfl) (Go.Ab.kc (by kernel_rfl) h)

-- 59
noncomputable def l59 : Nat → List Nat
  | 3 => [3, 8]
  | _ => []
noncomputable def u59 : Nat → Bool
  | _ => false
noncomputable def m59 : Nat → Bool
  | _ => false
noncomputable def g59 : Cfg := { N := 32, live := l59, cut := u59, mu := m59, ret := rets }
noncomputable def c59 : Go.Code := Go.Ab.bodyOf Go.Proofs.Tryz.f59
noncomputable def q59_0 : Nat → (AV → List AObj → Prop) → AQ := fun (n : Nat) (Post : AV → List AObj → Prop) => endQ Tryz.prog (resultsOf Tryz.f59) Post
noncomputable def q59_1 : Nat → (AV → List AObj → Prop) → AQ := fun (n : Nat) (Post : AV → List AObj → Prop) => seqQ (fun (s' : Slots) (H' : List AObj) => awp Tryz.prog g59 n (codeSnd (codeSnd (codeSnd c59))) s' H' (q59_0 n Post)) (q59_0 n Post)
noncomputable def q59_2 : Nat → (AV → List AObj → Prop) → AQ := fun (n : Nat) (Post : AV → List AObj → Prop) => blockQ 0 (q59_1 n Post)
noncomputable def c59_3 : Go.Code := codeFst (codeSnd (codeFst (codeSnd (codeSnd c59))))
theorem s59 : ∀ (s : ByteArray) (Post : AV → List AObj → Prop),
  AWP Tryz.prog 32 0 c59_3 [(3, .int .i64 (0 : Int)), (8, .ptr 0 0)] [AObj.siter s 0] (q59_2 0 Post) →
    ASpec Tryz.prog 59 [.str s] [] Post := fun s Post h => Go.Ab.ASpec.of_vc g59 Go.Proofs.Tryz.func59 (by kernel_rfl) (by kernel_rfl) (by kernel_rfl) (Go.Ab.kc (by kernel_rfl) h)
theorem v59_3 : ∀ (s : ByteArray) (pos : Nat) (n : Int) (n_1 : Nat) (Post : AV → List AObj → Prop),
  condP (decide (pos < ByteArray.size s))
      (ASpec Tryz.prog 92 [.int .i32 (↑(Prod.fst (Utf8.decode s pos)) : Int)] [AObj.siter s (pos + Prod.snd (Utf8.decode s pos))] fun (r : AV) (H' : List AObj) =>
        ∃ (x : Int),
         r = AV.int .i64 x ∧
         H' = [AObj.siter s (pos + Prod.snd (Utf8.decode s pos))] ∧
         condP (decide (x > (3 : Int))) (Post (.bool false) [AObj.siter s (pos + Prod.snd (Utf8.decode s pos))])
         (condP (n == (0 : Int))
         (condP (decide (x > (1 : Int))) (Post (.bool false) [AObj.siter s (pos + Prod.snd (Utf8.decode s pos))])
         (condP (n == (12 : Int)) (Post (.bool false) [AObj.siter s (pos + Prod.snd (Utf8.decode s pos))])
         (AWP Tryz.prog 32 n_1 c59_3 [(3, .int .i64 (IntKind.wrap .i64 (n + (1 : Int)))), (8, .ptr 0 0)]
         [AObj.siter s (pos + Prod.snd (Utf8.decode s pos))] (q59_2 n_1 Post))))
         (condP (n == (12 : Int)) (Post (.bool false) [AObj.siter s (pos + Prod.snd (Utf8.decode s pos))])
         (AWP Tryz.prog 32 n_1 c59_3 [(3, .int .i64 (IntKind.wrap .i64 (n + (1 : Int)))), (8, .ptr 0 0)]
         [AObj.siter s (pos + Prod.snd (Utf8.decode s pos))] (q59_2 n_1 Post)))))
      (Post (.bool (decide (n > (0 : Int)))) [AObj.siter s pos]) →
    AWP Tryz.prog 32 n_1 c59_3 [(3, .int .i64 n), (8, .ptr 0 0)] [AObj.siter s pos] (q59_2 n_1 Post) := fun s pos n n Post h => Go.Ab.AWP.loop' g59 (Cfg.live g59) c59_3 (by kernel_rfl) (by kernel_rfl) (Go.Ab.kc (by kernel_rfl) h)

-- 122
noncomputable def l122 : Nat → List Nat
  | 5 => [0, 1, 5, 6]
  | 7 => [0, 1, 5, 6]
  | 9 => [0, 1, 5, 6]
  | 11 => [0, 1, 5, 6]
  | 12 => [0, 1, 5, 6, 7]
  | 16 => [0, 1, 5, 6]
  | _ => []
noncomputable def u122 : Nat → Bool
  | 5 => true
  | 7 => true
  | 9 => true
  | 11 => true
  | 16 => true
  | _ => false
noncomputable def m122 : Nat → Bool
  | _ => false
noncomputable def g122 : Cfg := { N := 96, live := l122, cut := u122, mu := m122, ret := rets }
noncomputable def c122 : Go.Code := Go.Ab.bodyOf Go.Proofs.Tryz.f122
noncomputable def q122_0 : Nat → (AV → List AObj → Prop) → AQ := fun (n : Nat) (Post : AV → List AObj → Prop) => endQ Tryz.prog (resultsOf Tryz.f122) Post
noncomputable def c122_5 : Go.Code := codeSnd (codeSnd (codeSnd (codeSnd c122)))
theorem s122 : ∀ (s : ByteArray) (p : Int) (Post : AV → List AObj → Prop),
  needP ((0 : Int) ≤ p ∧ p < (↑(ByteArray.size s) : Int))
      (condP (decide (IntKind.wrap .i64 (↑(UInt8.toNat (List.getD (Array.toList (ByteArray.data s)) (Int.toNat p) (0 : UInt8))) : Int) ≥ (194 : Int)))
        (condP (decide (IntKind.wrap .i64 (↑(UInt8.toNat (List.getD (Array.toList (ByteArray.data s)) (Int.toNat p) (0 : UInt8))) : Int) ≤ (223 : Int)))
         (AWP Tryz.prog 96 0 c122_5
         [(0, .str s), (1, .int .i64 p), (5, .int .i64 (2 : Int)),
         (6, .int .i64 (IntKind.wrap .i64 (↑(UInt8.toNat (List.getD (Array.toList (ByteArray.data s)) (Int.toNat p) (0 : UInt8))) : Int)))]
         [] (q122_0 0 Post))
         (AWP Tryz.prog 96 0 c122_5
         [(0, .str s), (1, .int .i64 p), (5, .int .i64 (0 : Int)),
         (6, .int .i64 (IntKind.wrap .i64 (↑(UInt8.toNat (List.getD (Array.toList (ByteArray.data s)) (Int.toNat p) (0 : UInt8))) : Int)))]
         [] (q122_0 0 Post)))
        (AWP Tryz.prog 96 0 c122_5
         [(0, .str s), (1, .int .i64 p), (5, .int .i64 (0 : Int)),
         (6, .int .i64 (IntKind.wrap .i64 (↑(UInt8.toNat (List.getD (Array.toList (ByteArray.data s)) (Int.toNat p) (0 : UInt8))) : Int)))]
         [] (q122_0 0 Post))) →
    ASpec Tryz.prog 122 [.str s, AV.int .i64 p] [] Post := fun s p Post h => Go.Ab.ASpec.of_vc g122 Go.Proofs.Tryz.func122 (by kernel_rfl) (by kernel_rfl) (by kernel_rfl) (Go.Ab.kc (by kernel_rfl) h)
noncomputable def c122_7 : Go.Code := codeSnd c122_5
theorem v122_5 : ∀ (s : ByteArray) (p n c : Int) (n_1 : Nat) (Post : AV → List AObj → Prop),
  condP (decide (c ≥ (224 : Int)))
      (condP (decide (c ≤ (239 : Int)))
        (AWP Tryz.prog 96 n_1 c122_7 [(0, .str s), (1, .int .i64 p), (5, .int .i64 (3 : Int)), (6, .int .i64 c)] []
         (q122_0 n_1 Post))
        (AWP Tryz.prog 96 n_1 c122_7 [(0, .str s), (1, .int .i64 p), (5, .int .i64 n), (6, .int .i64 c)] [] (q122_0 n_1 Post)))
      (AWP Tryz.prog 96 n_1 c122_7 [(0, .str s), (1, .int .i64 p), (5, .int .i64 n), (6, .int .i64 c)] [] (q122_0 n_1 Post)) →
    AWP Tryz.prog 96 n_1 c122_5 [(0, .str s), (1, .int .i64 p), (5, .int .i64 n), (6, .int .i64 c)] [] (q122_0 n_1 Post) := fun s p n c n Post h => Go.Ab.awp_sound g122 n _ _ _ _ (Go.Ab.kc (by kernel_rfl) h)
noncomputable def c122_9 : Go.Code := codeSnd c122_7
theorem v122_7 : ∀ (s : ByteArray) (p n c : Int) (n_1 : Nat) (Post : AV → List AObj → Prop),
  condP (decide (c ≥ (240 : Int)))
      (condP (decide (c ≤ (244 : Int)))
        (AWP Tryz.prog 96 n_1 c122_9 [(0, .str s), (1, .int .i64 p), (5, .int .i64 (4 : Int)), (6, .int .i64 c)] []
         (q122_0 n_1 Post))
        (AWP Tryz.prog 96 n_1 c122_9 [(0, .str s), (1, .int .i64 p), (5, .int .i64 n), (6, .int .i64 c)] [] (q122_0 n_1 Post)))
      (AWP Tryz.prog 96 n_1 c122_9 [(0, .str s), (1, .int .i64 p), (5, .int .i64 n), (6, .int .i64 c)] [] (q122_0 n_1 Post)) →
    AWP Tryz.prog 96 n_1 c122_7 [(0, .str s), (1, .int .i64 p), (5, .int .i64 n), (6, .int .i64 c)] [] (q122_0 n_1 Post) := fun s p n c n Post h => Go.Ab.awp_sound g122 n _ _ _ _ (Go.Ab.kc (by kernel_rfl) h)
noncomputable def c122_11 : Go.Code := codeSnd c122_9
theorem v122_9 : ∀ (s : ByteArray) (p n c : Int) (n_1 : Nat) (Post : AV → List AObj → Prop),
  condP (n == (0 : Int)) (Post (.int .i64 (0 : Int)) [])
      (condP (decide (IntKind.wrap .i64 ((↑(ByteArray.size s) : Int) - p) < n)) (Post (.int .i64 (0 : Int)) [])
        (AWP Tryz.prog 96 n_1 c122_11 [(0, .str s), (1, .int .i64 p), (5, .int .i64 n), (6, .int .i64 c)] [] (q122_0 n_1 Post))) →
    AWP Tryz.prog 96 n_1 c122_9 [(0, .str s), (1, .int .i64 p), (5, .int .i64 n), (6, .int .i64 c)] [] (q122_0 n_1 Post) := fun s p n c n Post h => Go.Ab.awp_sound g122 n _ _ _ _ (Go.Ab.kc (by kernel_rfl) h)
noncomputable def c122_16 : Go.Code := codeSnd c122_11
noncomputable def q122_1 : Nat → (AV → List AObj → Prop) → AQ := fun (n : Nat) (Post : AV → List AObj → Prop) => seqQ (fun (s' : Slots) (H' : List AObj) => AWP Tryz.prog (Cfg.N g122) n c122_16 (restrict s' (Cfg.live g122 16)) H' (q122_0 n Post)) (q122_0 n Post)
noncomputable def q122_2 : Nat → (AV → List AObj → Prop) → AQ := fun (n : Nat) (Post : AV → List AObj → Prop) => blockQ 0 (q122_1 n Post)
noncomputable def c122_12 : Go.Code := codeFst (codeSnd (codeFst c122_11))
theorem v122_11 : ∀ (s : ByteArray) (p n c : Int) (n_1 : Nat) (Post : AV → List AObj → Prop),
  AWP Tryz.prog 96 n_1 c122_12
      [(0, .str s), (1, .int .i64 p), (5, .int .i64 n), (6, .int .i64 c), (7, .int .i64 (1 : Int))] [] (q122_2 n_1 Post) →
    AWP Tryz.prog 96 n_1 c122_11 [(0, .str s), (1, .int .i64 p), (5, .int .i64 n), (6, .int .i64 c)] [] (q122_0 n_1 Post) := fun s p n c n Post h => Go.Ab.awp_sound g122 n _ _ _ _ (Go.Ab.kc (by kernel_rfl) h)
theorem v122_16 : ∀ (s : ByteArray) (p n c : Int) (n_1 : Nat) (Post : AV → List AObj → Prop),
  needP ((0 : Int) ≤ IntKind.wrap .i64 (p + (1 : Int)) ∧ IntKind.wrap .i64 (p + (1 : Int)) < (↑(ByteArray.size s) : Int))
      (condP (c == (224 : Int))
        (condP (decide (IntKind.wrap .i64 (↑(UInt8.toNat (List.getD (Array.toList (ByteArray.data s)) (Int.toNat (IntKind.wrap .i64 (p + (1 : Int)))) (0 : UInt8))) : Int) < (160 : Int)))
         (Post (.int .i64 (0 : Int)) [])
         (condP (c == (237 : Int))
         (condP
         (decide (IntKind.wrap .i64 (↑(UInt8.toNat (List.getD (Array.toList (ByteArray.data s)) (Int.toNat (IntKind.wrap .i64 (p + (1 : Int)))) (0 : UInt8))) : Int) > (159 : Int)))
         (Post (.int .i64 (0 : Int)) [])
         (condP (c == (240 : Int))
         (condP
         (decide
         (IntKind.wrap .i64 (↑(UInt8.toNat (List.getD (Array.toList (ByteArray.data s)) (Int.toNat (IntKind.wrap .i64 (p + (1 : Int)))) (0 : UInt8))) : Int) < (144 : Int)))
         (Post (.int .i64 (0 : Int)) [])
         (condP (c == (244 : Int))
         (condP
         (decide
         (IntKind.wrap .i64 (↑(UInt8.toNat (List.getD (Array.toList (ByteArray.data s)) (Int.toNat (IntKind.wrap .i64 (p + (1 : Int)))) (0 : UInt8))) : Int) >
         (143 : Int)))
         (Post (.int .i64 (0 : Int)) []) (Post (.int .i64 n) []))
         (Post (.int .i64 n) [])))
         (condP (c == (244 : Int))
         (condP
         (decide
         (IntKind.wrap .i64 (↑(UInt8.toNat (List.getD (Array.toList (ByteArray.data s)) (Int.toNat (IntKind.wrap .i64 (p + (1 : Int)))) (0 : UInt8))) : Int) > (143 : Int)))
         (Post (.int .i64 (0 : Int)) []) (Post (.int .i64 n) []))
         (Post (.int .i64 n) []))))
         (condP (c == (240 : Int))
         (condP
         (decide
         (IntKind.wrap .i64 (↑(UInt8.toNat (List.getD (Array.toList (ByteArray.data s)) (Int.toNat (IntKind.wrap .i64 (p + (1 : Int)))) (0 : UInt8))) : Int) < (144 : Int)))
         (Post (.int .i64 (0 : Int)) [])
         (condP (c == (244 : Int))
         (condP
         (decide
         (IntKind.wrap .i64 (↑(UInt8.toNat (List.getD (Array.toList (ByteArray.data s)) (Int.toNat (IntKind.wrap .i64 (p + (1 : Int)))) (0 : UInt8))) : Int) > (143 : Int)))
         (Post (.int .i64 (0 : Int)) []) (Post (.int .i64 n) []))
         (Post (.int .i64 n) [])))
         (condP (c == (244 : Int))
         (condP
         (decide
         (IntKind.wrap .i64 (↑(UInt8.toNat (List.getD (Array.toList (ByteArray.data s)) (Int.toNat (IntKind.wrap .i64 (p + (1 : Int)))) (0 : UInt8))) : Int) > (143 : Int)))
         (Post (.int .i64 (0 : Int)) []) (Post (.int .i64 n) []))
         (Post (.int .i64 n) [])))))
        (condP (c == (237 : Int))
         (condP
         (decide (IntKind.wrap .i64 (↑(UInt8.toNat (List.getD (Array.toList (ByteArray.data s)) (Int.toNat (IntKind.wrap .i64 (p + (1 : Int)))) (0 : UInt8))) : Int) > (159 : Int)))
         (Post (.int .i64 (0 : Int)) [])
         (condP (c == (240 : Int))
         (condP
         (decide
         (IntKind.wrap .i64 (↑(UInt8.toNat (List.getD (Array.toList (ByteArray.data s)) (Int.toNat (IntKind.wrap .i64 (p + (1 : Int)))) (0 : UInt8))) : Int) < (144 : Int)))
         (Post (.int .i64 (0 : Int)) [])
         (condP (c == (244 : Int))
         (condP
         (decide
         (IntKind.wrap .i64 (↑(UInt8.toNat (List.getD (Array.toList (ByteArray.data s)) (Int.toNat (IntKind.wrap .i64 (p + (1 : Int)))) (0 : UInt8))) : Int) > (143 : Int)))
         (Post (.int .i64 (0 : Int)) []) (Post (.int .i64 n) []))
         (Post (.int .i64 n) [])))
         (condP (c == (244 : Int))
         (condP
         (decide
         (IntKind.wrap .i64 (↑(UInt8.toNat (List.getD (Array.toList (ByteArray.data s)) (Int.toNat (IntKind.wrap .i64 (p + (1 : Int)))) (0 : UInt8))) : Int) > (143 : Int)))
         (Post (.int .i64 (0 : Int)) []) (Post (.int .i64 n) []))
         (Post (.int .i64 n) []))))
         (condP (c == (240 : Int))
         (condP
         (decide (IntKind.wrap .i64 (↑(UInt8.toNat (List.getD (Array.toList (ByteArray.data s)) (Int.toNat (IntKind.wrap .i64 (p + (1 : Int)))) (0 : UInt8))) : Int) < (144 : Int)))
         (Post (.int .i64 (0 : Int)) [])
         (condP (c == (244 : Int))
         (condP
         (decide
         (IntKind.wrap .i64 (↑(UInt8.toNat (List.getD (Array.toList (ByteArray.data s)) (Int.toNat (IntKind.wrap .i64 (p + (1 : Int)))) (0 : UInt8))) : Int) > (143 : Int)))
         (Post (.int .i64 (0 : Int)) []) (Post (.int .i64 n) []))
         (Post (.int .i64 n) [])))
         (condP (c == (244 : Int))
         (condP
         (decide
         (IntKind.wrap .i64 (↑(UInt8.toNat (List.getD (Array.toList (ByteArray.data s)) (Int.toNat (IntKind.wrap .i64 (p + (1 : Int)))) (0 : UInt8))) : Int) > (143 : Int)))
         (Post (.int .i64 (0 : Int)) []) (Post (.int .i64 n) []))
         (Post (.int .i64 n) []))))) →
    AWP Tryz.prog 96 n_1 c122_16 [(0, .str s), (1, .int .i64 p), (5, .int .i64 n), (6, .int .i64 c)] [] (q122_0 n_1 Post) := fun s p n c n Post h => Go.Ab.awp_sound g122 n _ _ _ _ (Go.Ab.kc (by kernel_rfl) h)
theorem v122_12 : ∀ (s : ByteArray) (p n c i : Int) (n_1 : Nat) (Post : AV → List AObj → Prop),
  condP (decide (i < n))
      (needP ((0 : Int) ≤ IntKind.wrap .i64 (p + i) ∧ IntKind.wrap .i64 (p + i) < (↑(ByteArray.size s) : Int))
        (condP (decide ((↑(UInt8.toNat (List.getD (Array.toList (ByteArray.data s)) (Int.toNat (IntKind.wrap .i64 (p + i))) (0 : UInt8))) : Int) < (128 : Int)))
         (Post (.int .i64 (0 : Int)) [])
         (needP ((0 : Int) ≤ IntKind.wrap .i64 (p + i) ∧ IntKind.wrap .i64 (p + i) < (↑(ByteArray.size s) : Int))
         (condP (decide ((↑(UInt8.toNat (List.getD (Array.toList (ByteArray.data s)) (Int.toNat (IntKind.wrap .i64 (p + i))) (0 : UInt8))) : Int) > (191 : Int)))
         (Post (.int .i64 (0 : Int)) [])
         (AWP Tryz.prog 96 n_1 c122_12
         [(0, .str s), (1, .int .i64 p), (5, .int .i64 n), (6, .int .i64 c),
         (7, .int .i64 (IntKind.wrap .i64 (i + (1 : Int))))]
         [] (q122_2 n_1 Post))))))
      (AWP Tryz.prog 96 n_1 c122_16 [(0, .str s), (1, .int .i64 p), (5, .int .i64 n), (6, .int .i64 c)] [] (q122_0 n_1 Post)) →
    AWP Tryz.prog 96 n_1 c122_12
      [(0, .str s), (1, .int .i64 p), (5, .int .i64 n), (6, .int .i64 c), (7, .int .i64 i)] [] (q122_2 n_1 Post) := fun s p n c i n Post h => Go.Ab.AWP.loop' g122 (Cfg.live g122) c122_12 (by kernel_rfl) (by kernel_rfl) (Go.Ab.kc (by kernel_rfl) h)

-- 91
noncomputable def l91 : Nat → List Nat
  | 9 => [0, 1, 6, 7]
  | 11 => [0, 1, 6, 7]
  | 12 => [0, 1, 6, 7, 8]
  | _ => []
noncomputable def u91 : Nat → Bool
  | 9 => true
  | 11 => true
  | _ => false
noncomputable def m91 : Nat → Bool
  | _ => false
noncomputable def g91 : Cfg := { N := 58, live := l91, cut := u91, mu := m91, ret := rets }
noncomputable def c91 : Go.Code := Go.Ab.bodyOf Go.Proofs.Tryz.f91
noncomputable def q91_0 : Nat → (AV → List AObj → Prop) → AQ := fun (n : Nat) (Post : AV → List AObj → Prop) => endQ Tryz.prog (resultsOf Tryz.f91) Post
noncomputable def c91_9 : Go.Code := codeSnd (codeSnd (codeSnd (codeSnd (codeSnd (codeSnd c91)))))
theorem s91 : ∀ (s : ByteArray) (p : Int) (Post : AV → List AObj → Prop),
  needP ((0 : Int) ≤ p ∧ p < (↑(ByteArray.size s) : Int))
      (condP (decide ((↑(UInt8.toNat (List.getD (Array.toList (ByteArray.data s)) (Int.toNat p) (0 : UInt8))) : Int) < (128 : Int)))
        (needP ((0 : Int) ≤ p ∧ p < (↑(ByteArray.size s) : Int))
         (Post (.tup [.int .i64 (IntKind.wrap .i64 (↑(UInt8.toNat (List.getD (Array.toList (ByteArray.data s)) (Int.toNat p) (0 : UInt8))) : Int)), .int .i64 (1 : Int)])
         []))
        (ASpec Tryz.prog 122 [.str s, AV.int .i64 p] [] fun (r : AV) (H' : List AObj) =>
         ∃ (x : Int),
         r = AV.int .i64 x ∧
         H' = [] ∧
         condP (x == (0 : Int)) (Post (.tup [.int .i64 (65533 : Int), .int .i64 (1 : Int)]) [])
         (needP ((0 : Int) ≤ p ∧ p < (↑(ByteArray.size s) : Int))
         (needP ((32 : Int) ≠ (0 : Int))
         (condP (x == (3 : Int))
         (needP ((0 : Int) ≤ p ∧ p < (↑(ByteArray.size s) : Int))
         (needP ((16 : Int) ≠ (0 : Int))
         (AWP Tryz.prog 58 0 c91_9
         [(0, .str s), (1, .int .i64 p), (6, .int .i64 x),
         (7,
         AV.int .i64 (Int.tmod (IntKind.wrap .i64 (↑(UInt8.toNat (List.getD (Array.toList (ByteArray.data s)) (Int.toNat p) (0 : UInt8))) : Int)) (16 : Int)))]
         [] (q91_0 0 Post))))
         (AWP Tryz.prog 58 0 c91_9
         [(0, .str s), (1, .int .i64 p), (6, .int .i64 x),
         (7,
         AV.int .i64 (Int.tmod (IntKind.wrap .i64 (↑(UInt8.toNat (List.getD (Array.toList (ByteArray.data s)) (Int.toNat p) (0 : UInt8))) : Int)) (32 : Int)))]
         [] (q91_0 0 Post))))))) →
    ASpec Tryz.prog 91 [.str s, AV.int .i64 p] [] Post := fun s p Post h => Go.Ab.ASpec.of_vc g91 Go.Proofs.Tryz.func91 (by kernel_rfl) (by kernel_rfl) (by kernel_rfl) (Go.Ab.kc (by kernel_rfl) h)
noncomputable def c91_11 : Go.Code := codeSnd c91_9
theorem v91_9 : ∀ (s : ByteArray) (p n x : Int) (n_1 : Nat) (Post : AV → List AObj → Prop),
  condP (n == (4 : Int))
      (needP ((0 : Int) ≤ p ∧ p < (↑(ByteArray.size s) : Int))
        (needP ((8 : Int) ≠ (0 : Int))
         (AWP Tryz.prog 58 n_1 c91_11
         [(0, .str s), (1, .int .i64 p), (6, .int .i64 n),
         (7, .int .i64 (Int.tmod (IntKind.wrap .i64 (↑(UInt8.toNat (List.getD (Array.toList (ByteArray.data s)) (Int.toNat p) (0 : UInt8))) : Int)) (8 : Int)))]
         [] (q91_0 n_1 Post))))
      (AWP Tryz.prog 58 n_1 c91_11 [(0, .str s), (1, .int .i64 p), (6, .int .i64 n), (7, .int .i64 x)] [] (q91_0 n_1 Post)) →
    AWP Tryz.prog 58 n_1 c91_9 [(0, .str s), (1, .int .i64 p), (6, .int .i64 n), (7, .int .i64 x)] [] (q91_0 n_1 Post) := fun s p n x n Post h => Go.Ab.awp_sound g91 n _ _ _ _ (Go.Ab.kc (by kernel_rfl) h)
noncomputable def q91_1 : Nat → (AV → List AObj → Prop) → AQ := fun (n : Nat) (Post : AV → List AObj → Prop) => seqQ (fun (s' : Slots) (H' : List AObj) => awp Tryz.prog g91 n (codeSnd c91_11) s' H' (q91_0 n Post)) (q91_0 n Post)
noncomputable def q91_2 : Nat → (AV → List AObj → Prop) → AQ := fun (n : Nat) (Post : AV → List AObj → Prop) => blockQ 0 (q91_1 n Post)
noncomputable def c91_12 : Go.Code := codeFst (codeSnd (codeFst c91_11))
theorem v91_11 : ∀ (s : ByteArray) (p n x : Int) (n_1 : Nat) (Post : AV → List AObj → Prop),
  AWP Tryz.prog 58 n_1 c91_12
      [(0, .str s), (1, .int .i64 p), (6, .int .i64 n), (7, .int .i64 x), (8, .int .i64 (1 : Int))] [] (q91_2 n_1 Post) →
    AWP Tryz.prog 58 n_1 c91_11 [(0, .str s), (1, .int .i64 p), (6, .int .i64 n), (7, .int .i64 x)] [] (q91_0 n_1 Post) := fun s p n x n Post h => Go.Ab.awp_sound g91 n _ _ _ _ (Go.Ab.kc (by kernel_rfl) h)
theorem v91_12 : ∀ (s : ByteArray) (p n x i : Int) (n_1 : Nat) (Post : AV → List AObj → Prop),
  condP (decide (i < n))
      (needP ((0 : Int) ≤ IntKind.wrap .i64 (p + i) ∧ IntKind.wrap .i64 (p + i) < (↑(ByteArray.size s) : Int))
        (needP ((64 : Int) ≠ (0 : Int))
         (AWP Tryz.prog 58 n_1 c91_12
         [(0, .str s), (1, .int .i64 p), (6, .int .i64 n),
         (7,
         AV.int .i64
         (IntKind.wrap .i64
         (IntKind.wrap .i64 (x * (64 : Int)) +
         Int.tmod (IntKind.wrap .i64 (↑(UInt8.toNat (List.getD (Array.toList (ByteArray.data s)) (Int.toNat (IntKind.wrap .i64 (p + i))) (0 : UInt8))) : Int)) (64 : Int)))),
         (8, .int .i64 (IntKind.wrap .i64 (i + (1 : Int))))]
         [] (q91_2 n_1 Post))))
      (Post (.tup [.int .i64 x, AV.int .i64 n]) []) →
    AWP Tryz.prog 58 n_1 c91_12
      [(0, .str s), (1, .int .i64 p), (6, .int .i64 n), (7, .int .i64 x), (8, .int .i64 i)] [] (q91_2 n_1 Post) := fun s p n x i n Post h => Go.Ab.AWP.loop' g91 (Cfg.live g91) c91_12 (by kernel_rfl) (by kernel_rfl) (Go.Ab.kc (by kernel_rfl) h)

-- 57
noncomputable def l57 : Nat → List Nat
  | 3 => [0, 3, 4]
  | _ => []
noncomputable def u57 : Nat → Bool
  | _ => false
noncomputable def m57 : Nat → Bool
  | _ => false
noncomputable def g57 : Cfg := { N := 25, live := l57, cut := u57, mu := m57, ret := rets }
noncomputable def c57 : Go.Code := Go.Ab.bodyOf Go.Proofs.Tryz.f57
noncomputable def q57_0 : Nat → (AV → List AObj → Prop) → AQ := fun (n : Nat) (Post : AV → List AObj → Prop) => endQ Tryz.prog (resultsOf Tryz.f57) Post
noncomputable def q57_1 : Nat → (AV → List AObj → Prop) → AQ := fun (n : Nat) (Post : AV → List AObj → Prop) => seqQ (fun (s' : Slots) (H' : List AObj) => awp Tryz.prog g57 n (codeSnd (codeSnd (codeSnd (codeSnd c57)))) s' H' (q57_0 n Post)) (q57_0 n Post)
noncomputable def q57_2 : Nat → (AV → List AObj → Prop) → AQ := fun (n : Nat) (Post : AV → List AObj → Prop) => blockQ 0 (q57_1 n Post)
noncomputable def c57_3 : Go.Code := codeFst (codeFst (codeSnd (codeSnd (codeSnd c57))))
theorem s57 : ∀ (s : ByteArray) (Post : AV → List AObj → Prop),
  AWP Tryz.prog 25 0 c57_3 [(0, .str s), (3, .sl 0 (.raw []) .nil), (4, .int .i64 (0 : Int))] [] (q57_2 0 Post) →
    ASpec Tryz.prog 57 [.str s] [] Post := fun s Post h => Go.Ab.ASpec.of_vc g57 Go.Proofs.Tryz.func57 (by kernel_rfl) (by kernel_rfl) (by kernel_rfl) (Go.Ab.kc (by kernel_rfl) h)
theorem v57_3 : ∀ (s : ByteArray) (l : List Int) (p : Int) (n : Nat) (Post : AV → List AObj → Prop),
  condP (decide (p < (↑(ByteArray.size s) : Int)))
      (ASpec Tryz.prog 91 [.str s, AV.int .i64 p] [AObj.tok] fun (r : AV) (H' : List AObj) =>
        ∃ (x : Int × Int),
         r = AV.tup [.int .i64 (Prod.fst x), .int .i64 (Prod.snd x)] ∧
         H' = [AObj.tok] ∧
         needP ((List.length l + 1) * 8 ≤ 140737488351232)
         (AWP Tryz.prog 25 n c57_3
         [(0, .str s), (3, .sl 1 (.app (.map encI (0 : Int) l) (.raw [[.int .i64 (Prod.fst x)]])) (.tok 1)),
         (4, .int .i64 (IntKind.wrap .i64 (p + Prod.snd x)))]
         [AObj.gone, AObj.tok] (q57_2 n Post)))
      (Post (.sl 1 (.map encI (0 : Int) l) (.tok 0)) [AObj.tok]) →
    AWP Tryz.prog 25 n c57_3 [(0, .str s), (3, .sl 1 (.map encI (0 : Int) l) (.tok 0)), (4, .int .i64 p)] [AObj.tok] (q57_2 n Post) := fun s l p n Post h => Go.Ab.AWP.loop' g57 (Cfg.live g57) c57_3 (by kernel_rfl) (by kernel_rfl) (Go.Ab.kc (by kernel_rfl) h)

-- 29
noncomputable def l29 : Nat → List Nat
  | 5 => [3, 4]
  | _ => []
noncomputable def u29 : Nat → Bool
  | _ => false
noncomputable def m29 : Nat → Bool
  | _ => false
noncomputable def g29 : Cfg := { N := 42, live := l29, cut := u29, mu := m29, ret := rets }
noncomputable def c29 : Go.Code := Go.Ab.bodyOf Go.Proofs.Tryz.f29
noncomputable def q29_0 : Nat → (AV → List AObj → Prop) → AQ := fun (n : Nat) (Post : AV → List AObj → Prop) => endQ Tryz.prog (resultsOf Tryz.f29) Post
noncomputable def q29_1 : Nat → (AV → List AObj → Prop) → AQ := fun (n : Nat) (Post : AV → List AObj → Prop) => seqQ (fun (s' : Slots) (H' : List AObj) => awp Tryz.prog g29 n (codeSnd (codeSnd (codeSnd (codeSnd c29)))) s' H' (q29_0 n Post)) (q29_0 n Post)
noncomputable def q29_2 : Nat → (AV → List AObj → Prop) → AQ := fun (n : Nat) (Post : AV → List AObj → Prop) => blockQ 0 (q29_1 n Post)
noncomputable def c29_5 : Go.Code := codeFst (codeSnd (codeFst (codeSnd (codeSnd (codeSnd c29)))))
theorem s29 : ∀ (s : ByteArray) (Post : AV → List AObj → Prop),
  condP (decide ((↑(ByteArray.size s) : Int) > (100 : Int))) (Post (.bool false) [])
      (ASpec Tryz.prog 57 [.str s] [] fun (r : AV) (H' : List AObj) =>
        ∃ (x : List Int),
         r = AV.sl 1 (.map encI (0 : Int) x) .none ∧
         H' = [] ∧
         AWP Tryz.prog 42 0 c29_5 [(3, .sl 1 (.map encI (0 : Int) x) .none), (4, .int .i64 (0 : Int))] [] (q29_2 0 Post)) →
    ASpec Tryz.prog 29 [.str s] [] Post := fun s Post h => Go.Ab.ASpec.of_vc g29 Go.Proofs.Tryz.func29 (by kernel_rfl) (by kernel_rfl) (by kernel_rfl) (Go.Ab.kc (by kernel_rfl) h)
theorem v29_5 : ∀ (l : List Int) (i : Int) (n : Nat) (Post : AV → List AObj → Prop),
  condP (decide (i < (↑(List.length l) : Int)))
      (needP ((0 : Int) ≤ i ∧ i < (↑(List.length l) : Int))
        (ASpec Tryz.prog 58 [AV.int .i64 (List.getD l (Int.toNat i) (0 : Int))] [] fun (r : AV) (H' : List AObj) =>
         ∃ (x : Int),
         r = AV.int .i64 x ∧
         H' = [] ∧
         condP (x == (4 : Int)) (Post (.bool false) [])
         (condP (i == (0 : Int))
         (needP ((0 : Int) ≤ i ∧ i < (↑(List.length l) : Int))
         (ASpec Tryz.prog 58 [AV.int .i64 (List.getD l (Int.toNat i) (0 : Int))] [] fun (r : AV) (H' : List AObj) =>
         ∃ (x : Int),
         r = AV.int .i64 x ∧
         H' = [] ∧
         condP (decide (x > (1 : Int))) (Post (.bool false) [])
         (AWP Tryz.prog 42 n c29_5
         [(3, .sl 1 (.map encI (0 : Int) l) .none), (4, .int .i64 (IntKind.wrap .i64 (i + (1 : Int))))] [] (q29_2 n Post))))
         (AWP Tryz.prog 42 n c29_5 [(3, .sl 1 (.map encI (0 : Int) l) .none), (4, .int .i64 (IntKind.wrap .i64 (i + (1 : Int))))] []
         (q29_2 n Post)))))
      (condP (decide ((↑(List.length l) : Int) ≥ (1 : Int))) (Post (.bool (decide ((↑(List.length l) : Int) ≤ (12 : Int)))) []) (Post (.bool false) [])) →
    AWP Tryz.prog 42 n c29_5 [(3, .sl 1 (.map encI (0 : Int) l) .none), (4, .int .i64 i)] [] (q29_2 n Post) := fun l i n Post h => Go.Ab.AWP.loop' g29 (Cfg.live g29) c29_5 (by kernel_rfl) (by kernel_rfl) (Go.Ab.kc (by kernel_rfl) h)

end
end S
end

section
/- Printed: what the code of functions 8, 96, 64, 15, 43, 47, 98 asks for, by the framework's own reading of it; each line is checked against the code. -/

set_option linter.unusedVariables false
set_option maxRecDepth 100000
set_option maxHeartbeats 4000000
open Go Go.Ab Go.Proofs
namespace Dk
noncomputable section

noncomputable def rowD : List AV → Nat
  | .msl _ id _ _ :: _ => id
  | _ => 1000
noncomputable def retD : List (Nat × Ret) := [
  (8, ⟨Bool, fun _ _ x => .bool x, fun _ H _ => H⟩),
  (64, ⟨Bool, fun _ _ x => .bool x, fun _ H _ => H⟩),
  (96, ⟨Bool, fun _ _ x => .bool x, fun _ H _ => H⟩),
  (15, ⟨Bool, fun _ _ x => .bool x, fun _ H _ => H⟩),
  (9020, ⟨Bool, fun _ _ x => .bool x, fun _ H _ => H⟩),
  (9043, ⟨Bool, fun _ _ x => .bool x, fun _ H _ => H⟩),
  (9021, ⟨Bool, fun _ _ x => .bool x, fun _ H _ => H⟩),
  (59, ⟨Bool, fun _ _ x => .bool x, fun _ H _ => H⟩),
  (29, ⟨Bool, fun _ _ x => .bool x, fun _ H _ => H⟩),
  (41, ⟨Bool, fun _ _ x => .bool x, fun _ H _ => H⟩),
  (9047, ⟨Bool, fun _ _ x => .bool x, fun _ H _ => H⟩),
  (43, ⟨Int × Bool, fun _ _ x => .tup [.int .i64 x.1, .bool x.2], fun _ H _ => H⟩),
  (47, ⟨Int × Bool, fun _ _ x => .tup [.int .i64 x.1, .bool x.2], fun _ H _ => H⟩),
  (76, ⟨Int, fun _ _ x => .int .i64 x, fun _ H _ => H⟩),
  (98, ⟨Int, fun _ _ x => .int .i64 x, fun _ H _ => H⟩),
  (9024, ⟨List T.Pk, fun _ _ x => .sl 2 (.map T.encPk T.noPk x) .none, fun _ H _ => H⟩),
  (9025, ⟨List T.Pk, fun _ _ x => .sl 2 (.map T.encPk T.noPk x) .none, fun _ H _ => H⟩),
  (9028, ⟨List T.Pk, fun _ _ x => .sl 2 (.map T.encPk T.noPk x) .none, fun _ H _ => H⟩),
  (9029, ⟨List T.Pk, fun _ _ x => .sl 2 (.map T.encPk T.noPk x) .none, fun _ H _ => H⟩),
  (9054, ⟨ByteArray, fun _ _ x => .str x, fun _ H _ => H⟩),
  (9031, ⟨ByteArray, fun _ _ x => .str x, fun _ H _ => H⟩),
  (9055, ⟨ByteArray, fun _ _ x => .str x, fun _ H _ => H⟩),
  (9017, ⟨Unit, fun _ _ _ => .bool true, fun _ H _ => H⟩),
  (9030, ⟨List T.Pk × Bool, fun _ _ x => .tup [.sl 2 (.map T.encPk T.noPk x.1) .none, .bool x.2], fun _ H _ => H⟩),
  (9046, ⟨List T.Pk, fun _ H x => .msl 2 H.length 0 x.length, fun _ H x => H ++ [.arr 2 (.map T.encPk T.noPk x)]⟩),
  (9046, ⟨Unit, fun _ _ _ => .sl 2 (.map T.encPk T.noPk []) .none, fun _ H _ => H⟩),
  (9045, ⟨List T.Pk, fun _ _ x => .sl 2 (.map T.encPk T.noPk x) .none, fun a H _ => H.set (rowD a) .gone⟩)]
noncomputable def rets : FuncId → List Ret := lookupR retD

-- 8
noncomputable def l8 : Nat → List Nat
  | 4 => [0, 3]
  | _ => []
noncomputable def u8 : Nat → Bool
  | _ => false
noncomputable def m8 : Nat → Bool
  | _ => false
noncomputable def g8 : Cfg := { N := 20, live := l8, cut := u8, mu := m8, ret := rets }
noncomputable def c8 : Go.Code := Go.Ab.bodyOf Go.Proofs.Tryz.f8
noncomputable def q8_0 : Nat → (AV → List AObj → Prop) → AQ := fun (n : Nat) (Post : AV → List AObj → Prop) => endQ Tryz.prog (resultsOf Tryz.f8) Post
noncomputable def q8_1 : Nat → (AV → List AObj → Prop) → AQ := fun (n : Nat) (Post : AV → List AObj → Prop) => seqQ (fun (s' : Slots) (H' : List AObj) => awp Tryz.prog g8 n (codeSnd (codeSnd (codeSnd c8))) s' H' (q8_0 n Post)) (q8_0 n Post)
noncomputable def q8_2 : Nat → (AV → List AObj → Prop) → AQ := fun (n : Nat) (Post : AV → List AObj → Prop) => blockQ 0 (q8_1 n Post)
noncomputable def c8_4 : Go.Code := codeFst (codeSnd (codeFst (codeSnd (codeSnd c8))))
theorem s8 : ∀ (s : List T.Pk) (Post : AV → List AObj → Prop),
  condP (decide ((↑(List.length s) : Int) > (60 : Int))) (Post (.bool true) [])
      (AWP Tryz.prog 20 0 c8_4 [(0, .sl 2 (.map T.encPk T.noPk s) .none), (3, .int .i64 (0 : Int))] [] (q8_2 0 Post)) →
    ASpec Tryz.prog 8 [.sl 2 (.map T.encPk T.noPk s) .none] [] Post := fun s Post h => Go.Ab.ASpec.of_vc g8 Go.Proofs.Tryz.func8 (by kernel_rfl) (by kernel_rfl) (by kernel_rfl) (Go.Ab.kc (by kernel_rfl) h)
theorem v8_4 : ∀ (s : List T.Pk) (i : Int) (n : Nat) (Post : AV → List AObj → Prop),
  condP (decide (i < (↑(List.length s) : Int)))
      (needP ((0 : Int) ≤ i ∧ i < (↑(List.length s) : Int))
        (condP (decide ((↑(ByteArray.size { data := List.toArray (Prod.fst (List.getD s (Int.toNat i) T.noPk)) }) : Int) > (200 : Int))) (Post (.bool true) [])
         (AWP Tryz.prog 20 n c8_4 [(0, .sl 2 (.map T.encPk T.noPk s) .none), (3, .int .i64 (IntKind.wrap .i64 (i + (1 : Int))))] []
         (q8_2 n Post))))
      (Post (.bool false) []) →
    AWP Tryz.prog 20 n c8_4 [(0, .sl 2 (.map T.encPk T.noPk s) .none), (3, .int .i64 i)] [] (q8_2 n Post) := fun s i n Post h => Go.Ab.AWP.loop' g8 (Cfg.live g8) c8_4 (by kernel_rfl) (by kernel_rfl) (Go.Ab.kc (by kernel_rfl) h)

-- 96
noncomputable def l96 : Nat → List Nat
  | _ => []
noncomputable def u96 : Nat → Bool
  | _ => false
noncomputable def m96 : Nat → Bool
  | _ => false
noncomputable def g96 : Cfg := { N := 16, live := l96, cut := u96, mu := m96, ret := rets }
theorem s96 : ∀ (p : T.Pk) (Post : AV → List AObj → Prop),
  (ASpec Tryz.prog 59 [.str { data := List.toArray (Prod.fst p) }] [AObj.cells [AV.str { data := List.toArray (Prod.fst p) }, AV.int .i64 (Prod.snd p)]]
      fun (r : AV) (H' : List AObj) =>
      ∃ (x : Bool),
        r = AV.bool x ∧
         H' = [AObj.cells [.str { data := List.toArray (Prod.fst p) }, AV.int .i64 (Prod.snd p)]] ∧
         condP x
         (condP (decide (Prod.snd p ≥ (0 : Int)))
         (Post (.bool (decide (Prod.snd p < (1000000000 : Int)))) [AObj.cells [.str { data := List.toArray (Prod.fst p) }, AV.int .i64 (Prod.snd p)]])
         (Post (.bool false) [AObj.cells [.str { data := List.toArray (Prod.fst p) }, AV.int .i64 (Prod.snd p)]]))
         (Post (.bool false) [AObj.cells [.str { data := List.toArray (Prod.fst p) }, AV.int .i64 (Prod.snd p)]])) →
    ASpec Tryz.prog 96 [.agg (T.encPk p)] [] Post := fun p Post h => Go.Ab.ASpec.of_vc g96 Go.Proofs.Tryz.func96 (by kernel_rfl) (by kernel_rfl) (by kernel_rfl) (Go.Ab.kc (by kernel_rfl) h)

-- 64
noncomputable def l64 : Nat → List Nat
  | 2 => [0, 5, 6, 7]
  | _ => []
noncomputable def u64 : Nat → Bool
  | _ => false
noncomputable def m64 : Nat → Bool
  | _ => false
noncomputable def g64 : Cfg := { N := 31, live := l64, cut := u64, mu := m64, ret := rets }
noncomputable def c64 : Go.Code := Go.Ab.bodyOf Go.Proofs.Tryz.f64
noncomputable def q64_0 : Nat → (AV → List AObj → Prop) → AQ := fun (n : Nat) (Post : AV → List AObj → Prop) => endQ Tryz.prog (resultsOf Tryz.f64) Post
noncomputable def q64_1 : Nat → (AV → List AObj → Prop) → AQ := fun (n : Nat) (Post : AV → List AObj → Prop) => seqQ (fun (s' : Slots) (H' : List AObj) => awp Tryz.prog g64 n (codeSnd (codeSnd c64)) s' H' (q64_0 n Post)) (q64_0 n Post)
noncomputable def q64_2 : Nat → (AV → List AObj → Prop) → AQ := fun (n : Nat) (Post : AV → List AObj → Prop) => blockQ 0 (q64_1 n Post)
noncomputable def c64_2 : Go.Code := codeFst (codeSnd (codeFst (codeSnd c64)))
theorem s64 : ∀ (s : List T.Pk) (Post : AV → List AObj → Prop),
  AWP Tryz.prog 31 0 c64_2
      [(0, .sl 2 (.map T.encPk T.noPk s) .none), (5, .sl 2 (.map T.encPk T.noPk s) .none), (6, .int .i64 (↑(List.length s) : Int)),
        (7, .int .i64 (0 : Int))]
      [] (q64_2 0 Post) →
    ASpec Tryz.prog 64 [.sl 2 (.map T.encPk T.noPk s) .none] [] Post := fun s Post h => Go.Ab.ASpec.of_vc g64 Go.Proofs.Tryz.func64 (by kernel_rfl) (by kernel_rfl) (by kernel_rfl) (Go.Ab.kc (by kernel_rfl) h)
theorem v64_2 : ∀ (s t : List T.Pk) (n i : Int) (n_1 : Nat) (Post : AV → List AObj → Prop),
  condP (decide (i < n))
      (needP ((0 : Int) ≤ i ∧ i < (↑(List.length t) : Int))
        (ASpec Tryz.prog 96 [AV.agg [AV.str { data := List.toArray (Prod.fst (List.getD t (Int.toNat i) T.noPk)) }, AV.int .i64 (Prod.snd (List.getD t (Int.toNat i) T.noPk))]]
         [AObj.cells [AV.str { data := List.toArray (Prod.fst (List.getD t (Int.toNat i) T.noPk)) }, AV.int .i64 (Prod.snd (List.getD t (Int.toNat i) T.noPk))]]
         fun (r : AV) (H' : List AObj) =>
         ∃ (x : Bool),
         r = AV.bool x ∧
         H' = [AObj.cells [.str { data := List.toArray (Prod.fst (List.getD t (Int.toNat i) T.noPk)) }, AV.int .i64 (Prod.snd (List.getD t (Int.toNat i) T.noPk))]] ∧
         condP (!x)
         (Post (.bool false) [AObj.cells [.str { data := List.toArray (Prod.fst (List.getD t (Int.toNat i) T.noPk)) }, AV.int .i64 (Prod.snd (List.getD t (Int.toNat i) T.noPk))]])
         (condP (decide (i > (0 : Int)))
         (needP ((0 : Int) ≤ IntKind.wrap .i64 (i - (1 : Int)) ∧ IntKind.wrap .i64 (i - (1 : Int)) < (↑(List.length s) : Int))
         (condP
         (Op.bytesLess (ByteArray.toList { data := List.toArray (Prod.fst (List.getD t (Int.toNat i) T.noPk)) })
         (ByteArray.toList { data := List.toArray (Prod.fst (List.getD s (Int.toNat (IntKind.wrap .i64 (i - (1 : Int)))) T.noPk)) }) ||
         ByteArray.toList { data := List.toArray (Prod.fst (List.getD t (Int.toNat i) T.noPk)) } ==
         ByteArray.toList { data := List.toArray (Prod.fst (List.getD s (Int.toNat (IntKind.wrap .i64 (i - (1 : Int)))) T.noPk)) })
         (Post (.bool false)
         [AObj.cells [.str { data := List.toArray (Prod.fst (List.getD t (Int.toNat i) T.noPk)) }, AV.int .i64 (Prod.snd (List.getD t (Int.toNat i) T.noPk))]])
         (AWP Tryz.prog 31 n_1 c64_2
         [(0, .sl 2 (.map T.encPk T.noPk s) .none), (5, .sl 2 (.map T.encPk T.noPk t) .none), (6, .int .i64 n),
         (7, .int .i64 (IntKind.wrap .i64 (i + (1 : Int))))]
         [AObj.cells [.str { data := List.toArray (Prod.fst (List.getD t (Int.toNat i) T.noPk)) }, AV.int .i64 (Prod.snd (List.getD t (Int.toNat i) T.noPk))]]
         (q64_2 n_1 Post))))
         (AWP Tryz.prog 31 n_1 c64_2
         [(0, .sl 2 (.map T.encPk T.noPk s) .none), (5, .sl 2 (.map T.encPk T.noPk t) .none), (6, .int .i64 n),
         (7, .int .i64 (IntKind.wrap .i64 (i + (1 : Int))))]
         [AObj.cells [.str { data := List.toArray (Prod.fst (List.getD t (Int.toNat i) T.noPk)) }, AV.int .i64 (Prod.snd (List.getD t (Int.toNat i) T.noPk))]]
         (q64_2 n_1 Post)))))
      (Post (.bool true) []) →
    AWP Tryz.prog 31 n_1 c64_2
      [(0, .sl 2 (.map T.encPk T.noPk s) .none), (5, .sl 2 (.map T.encPk T.noPk t) .none), (6, .int .i64 n),
        (7, .int .i64 i)]
      [] (q64_2 n_1 Post) := fun s t n i n Post h => Go.Ab.AWP.loop' g64 (Cfg.live g64) c64_2 (by kernel_rfl) (by kernel_rfl) (Go.Ab.kc (by kernel_rfl) h)

-- 15
noncomputable def l15 : Nat → List Nat
  | 2 => [0, 3]
  | _ => []
noncomputable def u15 : Nat → Bool
  | _ => false
noncomputable def m15 : Nat → Bool
  | _ => false
noncomputable def g15 : Cfg := { N := 44, live := l15, cut := u15, mu := m15, ret := rets }
noncomputable def c15 : Go.Code := Go.Ab.bodyOf Go.Proofs.Tryz.f15
noncomputable def q15_0 : Nat → (AV → List AObj → Prop) → AQ := fun (n : Nat) (Post : AV → List AObj → Prop) => endQ Tryz.prog (resultsOf Tryz.f15) Post
noncomputable def q15_1 : Nat → (AV → List AObj → Prop) → AQ := fun (n : Nat) (Post : AV → List AObj → Prop) => seqQ (fun (s' : Slots) (H' : List AObj) => awp Tryz.prog g15 n (codeSnd (codeSnd c15)) s' H' (q15_0 n Post)) (q15_0 n Post)
noncomputable def q15_2 : Nat → (AV → List AObj → Prop) → AQ := fun (n : Nat) (Post : AV → List AObj → Prop) => blockQ 0 (q15_1 n Post)
noncomputable def c15_2 : Go.Code := codeFst (codeSnd (codeFst (codeSnd c15)))
theorem s15 : ∀ (s : List T.Pk) (Post : AV → List AObj → Prop),
  AWP Tryz.prog 44 0 c15_2 [(0, .sl 2 (.map T.encPk T.noPk s) .none), (3, .int .i64 (0 : Int))] [] (q15_2 0 Post) →
    ASpec Tryz.prog 15 [.sl 2 (.map T.encPk T.noPk s) .none] [] Post := fun s Post h => Go.Ab.ASpec.of_vc g15 Go.Proofs.Tryz.func15 (by kernel_rfl) (by kernel_rfl) (by kernel_rfl) (Go.Ab.kc (by kernel_rfl) h)
theorem v15_2 : ∀ (s : List T.Pk) (i : Int) (n : Nat) (Post : AV → List AObj → Prop),
  condP (decide (i < (↑(List.length s) : Int)))
      (needP ((0 : Int) ≤ i ∧ i < (↑(List.length s) : Int))
        (ASpec Tryz.prog 29 [AV.str { data := List.toArray (Prod.fst (List.getD s (Int.toNat i) T.noPk)) }] [] fun (r : AV) (H' : List AObj) =>
         ∃ (x : Bool),
         r = AV.bool x ∧
         H' = [] ∧
         condP (!x) (Post (.bool false) [])
         (needP ((0 : Int) ≤ i ∧ i < (↑(List.length s) : Int))
         (ASpec Tryz.prog 41 [AV.int .i64 (Prod.snd (List.getD s (Int.toNat i) T.noPk))] [] fun (r : AV) (H' : List AObj) =>
         ∃ (x : Bool),
         r = AV.bool x ∧
         H' = [] ∧
         condP (!x) (Post (.bool false) [])
         (condP (decide (i > (0 : Int)))
         (needP ((0 : Int) ≤ i ∧ i < (↑(List.length s) : Int))
         (needP ((0 : Int) ≤ IntKind.wrap .i64 (i - (1 : Int)) ∧ IntKind.wrap .i64 (i - (1 : Int)) < (↑(List.length s) : Int))
         (condP
         (Op.bytesLess (ByteArray.toList { data := List.toArray (Prod.fst (List.getD s (Int.toNat i) T.noPk)) })
         (ByteArray.toList { data := List.toArray (Prod.fst (List.getD s (Int.toNat (IntKind.wrap .i64 (i - (1 : Int)))) T.noPk)) }) ||
         ByteArray.toList { data := List.toArray (Prod.fst (List.getD s (Int.toNat i) T.noPk)) } ==
         ByteArray.toList { data := List.toArray (Prod.fst (List.getD s (Int.toNat (IntKind.wrap .i64 (i - (1 : Int)))) T.noPk)) })
         (Post (.bool false) [])
         (AWP Tryz.prog 44 n c15_2
         [(0, .sl 2 (.map T.encPk T.noPk s) .none), (3, .int .i64 (IntKind.wrap .i64 (i + (1 : Int))))] []
         (q15_2 n Post)))))
         (AWP Tryz.prog 44 n c15_2
         [(0, .sl 2 (.map T.encPk T.noPk s) .none), (3, .int .i64 (IntKind.wrap .i64 (i + (1 : Int))))] [] (q15_2 n Post)))))))
      (Post (.bool true) []) →
    AWP Tryz.prog 44 n c15_2 [(0, .sl 2 (.map T.encPk T.noPk s) .none), (3, .int .i64 i)] [] (q15_2 n Post) := fun s i n Post h => Go.Ab.AWP.loop' g15 (Cfg.live g15) c15_2 (by kernel_rfl) (by kernel_rfl) (Go.Ab.kc (by kernel_rfl) h)

-- 43
noncomputable def l43 : Nat → List Nat
  | _ => []
noncomputable def u43 : Nat → Bool
  | _ => false
noncomputable def m43 : Nat → Bool
  | _ => false
noncomputable def g43 : Cfg := { N := 28, live := l43, cut := u43, mu := m43, ret := rets }
theorem s43 : ∀ (s : List T.Pk) (x : List UInt8) (Post : AV → List AObj → Prop),
  (ASpec Tryz.prog 76 [.sl 2 (.map T.encPk T.noPk s) .none, .str { data := List.toArray x }] [] fun (r : AV) (H' : List AObj) =>
      ∃ (x_1 : Int),
        r = AV.int .i64 x_1 ∧
         H' = [] ∧
         condP (x_1 == (↑(List.length s) : Int)) (Post (.tup [AV.int .i64 (0 : Int), .bool false]) [])
         (needP ((0 : Int) ≤ x_1 ∧ x_1 < (↑(List.length s) : Int))
         (condP (!ByteArray.toList { data := List.toArray (Prod.fst (List.getD s (Int.toNat x_1) T.noPk)) } == ByteArray.toList { data := List.toArray x })
         (Post (.tup [AV.int .i64 (0 : Int), .bool false]) [])
         (needP ((0 : Int) ≤ x_1 ∧ x_1 < (↑(List.length s) : Int)) (Post (.tup [AV.int .i64 (Prod.snd (List.getD s (Int.toNat x_1) T.noPk)), .bool true]) []))))) →
    ASpec Tryz.prog 43 [.sl 2 (.map T.encPk T.noPk s) .none, .str { data := List.toArray x }] [] Post := fun s x Post h => Go.Ab.ASpec.of_vc g43 Go.Proofs.Tryz.func43 (by kernel_rfl) (by kernel_rfl) (by kernel_rfl) (Go.Ab.kc (by kernel_rfl) h)

-- 47
noncomputable def l47 : Nat → List Nat
  | 2 => [0, 1, 6]
  | _ => []
noncomputable def u47 : Nat → Bool
  | _ => false
noncomputable def m47 : Nat → Bool
  | _ => false
noncomputable def g47 : Cfg := { N := 25, live := l47, cut := u47, mu := m47, ret := rets }
noncomputable def c47 : Go.Code := Go.Ab.bodyOf Go.Proofs.Tryz.f47
noncomputable def q47_0 : Nat → (AV → List AObj → Prop) → AQ := fun (n : Nat) (Post : AV → List AObj → Prop) => endQ Tryz.prog (resultsOf Tryz.f47) Post
noncomputable def q47_1 : Nat → (AV → List AObj → Prop) → AQ := fun (n : Nat) (Post : AV → List AObj → Prop) => seqQ (fun (s' : Slots) (H' : List AObj) => awp Tryz.prog g47 n (codeSnd (codeSnd c47)) s' H' (q47_0 n Post)) (q47_0 n Post)
noncomputable def q47_2 : Nat → (AV → List AObj → Prop) → AQ := fun (n : Nat) (Post : AV → List AObj → Prop) => blockQ 0 (q47_1 n Post)
noncomputable def c47_2 : Go.Code := codeFst (codeSnd (codeFst (codeSnd c47)))
theorem s47 : ∀ (s : List T.Pk) (x : List UInt8) (Post : AV → List AObj → Prop),
  AWP Tryz.prog 25 0 c47_2 [(0, .sl 2 (.map T.encPk T.noPk s) .none), (1, .str { data := List.toArray x }), (6, .int .i64 (0 : Int))]
      [] (q47_2 0 Post) →
    ASpec Tryz.prog 47 [.sl 2 (.map T.encPk T.noPk s) .none, .str { data := List.toArray x }] [] Post := fun s x Post h => Go.Ab.ASpec.of_vc g47 Go.Proofs.Tryz.func47 (by kernel_rfl) (by kernel_rfl) (by kernel_rfl) (Go.Ab.kc (by kernel_rfl) h)
theorem v47_2 : ∀ (s : List T.Pk) (x : List UInt8) (i : Int) (n : Nat) (Post : AV → List AObj → Prop),
  condP (decide (i < (↑(List.length s) : Int)))
      (needP ((0 : Int) ≤ i ∧ i < (↑(List.length s) : Int))
        (condP (ByteArray.toList { data := List.toArray (Prod.fst (List.getD s (Int.toNat i) T.noPk)) } == ByteArray.toList { data := List.toArray x })
         (needP ((0 : Int) ≤ i ∧ i < (↑(List.length s) : Int)) (Post (.tup [AV.int .i64 (Prod.snd (List.getD s (Int.toNat i) T.noPk)), .bool true]) []))
         (AWP Tryz.prog 25 n c47_2
         [(0, .sl 2 (.map T.encPk T.noPk s) .none), (1, .str { data := List.toArray x }),
         (6, .int .i64 (IntKind.wrap .i64 (i + (1 : Int))))]
         [] (q47_2 n Post))))
      (Post (.tup [.int .i64 (0 : Int), .bool false]) []) →
    AWP Tryz.prog 25 n c47_2 [(0, .sl 2 (.map T.encPk T.noPk s) .none), (1, .str { data := List.toArray x }), (6, .int .i64 i)] []
      (q47_2 n Post) := fun s x i n Post h => Go.Ab.AWP.loop' g47 (Cfg.live g47) c47_2 (by kernel_rfl) (by kernel_rfl) (Go.Ab.kc (by kernel_rfl) h)

-- 98
end
end Dk
end

section
/- Printed: what the code of functions 164, 165, 140, 97, 143, 73 asks for, by the framework's own reading of it; each line is checked against the code. -/

set_option linter.unusedVariables false
set_option maxRecDepth 100000
set_option maxHeartbeats 4000000
open Go Go.Ab Go.Proofs
namespace Sg
noncomputable section

noncomputable def addH (args : List AV) (H : List AObj) (o : AObj) : List AObj := match args with
  | .msl _ id _ _ :: _ => H.set id o
  | _ => H
noncomputable def addG (args : List AV) (H : List AObj) (o : AObj) : List AObj := match args with
  | .msl _ id _ _ :: _ => H.set id .gone ++ [o]
  | _ => H
noncomputable def headV : List AV → AV
  | v :: _ => v
  | [] => .bad
noncomputable def retG : List (Nat × Ret) := [
  (164, ⟨Int × Bool, fun _ _ x => .tup [.int .i64 x.1, .bool x.2], fun _ H _ => H⟩), (165, ⟨Int, fun _ _ x => .int .i64 x, fun _ H _ => H⟩), (140, ⟨Int, fun _ _ x => .int .i64 x, fun _ H _ => H⟩), (97, ⟨Bool, fun _ _ x => .bool x, fun _ H _ => H⟩), (9368, ⟨Int, fun _ _ x => .int .i64 x, fun _ H _ => H⟩),
  (9369, ⟨T.Span, fun _ H x => .msl 2 H.length 0 1, fun _ H x => H ++ [.arr 2 (.map T.encS (0, 0) [x])]⟩),
  (9369, ⟨List T.Span, fun a _ x => headV a, fun a H x => addH a H (.arr 2 (.map T.encS (0, 0) x))⟩),
  (9369, ⟨List T.Span, fun a H x => .msl 2 H.length 0 x.length, fun a H x => addG a H (.arr 2 (.map T.encS (0, 0) x))⟩),
  (9319, ⟨List T.Span, fun _ _ x => .sl 2 (.map T.encS (0, 0) x) .none, fun _ H _ => H⟩), (9258, ⟨List T.Span, fun _ _ x => .sl 2 (.map T.encS (0, 0) x) .none, fun _ H _ => H⟩), (9320, ⟨Bool, fun _ _ x => .bool x, fun _ H _ => H⟩), (9259, ⟨Bool, fun _ _ x => .bool x, fun _ H _ => H⟩), (9289, ⟨List T.Span, fun _ _ x => .sl 2 (.map T.encS (0, 0) x) .none, fun _ H _ => H⟩), (9157, ⟨List T.Span, fun _ _ x => .sl 2 (.map T.encS (0, 0) x) .none, fun _ H _ => H⟩), (143, ⟨List T.Span, fun _ _ x => .sl 2 (.map T.encS (0, 0) x) .none, fun _ H _ => H⟩),
  (9321, ⟨List T.Span, fun _ _ x => .sl 2 (.map T.encS (0, 0) x) .none, fun _ H _ => H⟩), (9260, ⟨List T.Span, fun _ _ x => .sl 2 (.map T.encS (0, 0) x) .none, fun _ H _ => H⟩), (9162, ⟨Bool, fun _ _ x => .bool x, fun _ H _ => H⟩), (73, ⟨Bool, fun _ _ x => .bool x, fun _ H _ => H⟩), (9371, ⟨Bool, fun _ _ x => .bool x, fun _ H _ => H⟩), (9370, ⟨List Int, fun _ _ x => .sl 1 (.map encI 0 x) .none, fun _ H _ => H⟩), (9392, ⟨List Int, fun _ _ x => .sl 1 (.map encI 0 x) .none, fun _ H _ => H⟩),
  (9257, ⟨T.Term, fun _ _ x => .agg (T.encT x), fun _ H _ => H⟩), (9160, ⟨T.Term, fun _ _ x => .agg (T.encT x), fun _ H _ => H⟩), (9161, ⟨Bool, fun _ _ x => .bool x, fun _ H _ => H⟩), (9155, ⟨Bool, fun _ _ x => .bool x, fun _ H _ => H⟩), (9159, ⟨Bool, fun _ _ x => .bool x, fun _ H _ => H⟩), (9158, ⟨Bool, fun _ _ x => .bool x, fun _ H _ => H⟩), (9200, ⟨T.Term, fun _ _ x => .agg (T.encT x), fun _ H _ => H⟩), (9033, ⟨Bool, fun _ _ x => .bool x, fun _ H _ => H⟩), (9034, ⟨Bool, fun _ _ x => .bool x, fun _ H _ => H⟩), (9036, ⟨Bool, fun _ _ x => .bool x, fun _ H _ => H⟩), (9153, ⟨Bool, fun _ _ x => .bool x, fun _ H _ => H⟩)]
noncomputable def rets : FuncId → List Ret := lookupR (retG ++ C.retC ++ V.retL)

-- 164
noncomputable def l164 : Nat → List Nat
  | 3 => [0, 1, 2, 8, 9, 10]
  | _ => []
noncomputable def u164 : Nat → Bool
  | _ => false
noncomputable def m164 : Nat → Bool
  | _ => false
noncomputable def g164 : Cfg := { N := 49, live := l164, cut := u164, mu := m164, ret := rets }
noncomputable def c164 : Go.Code := Go.Ab.bodyOf Go.Proofs.Tryz.f164
noncomputable def q164_0 : Nat → (AV → List AObj → Prop) → AQ := fun (n : Nat) (Post : AV → List AObj → Prop) => endQ Tryz.prog (resultsOf Tryz.f164) Post
noncomputable def q164_1 : Nat → (AV → List AObj → Prop) → AQ := fun (n : Nat) (Post : AV → List AObj → Prop) => seqQ (fun (s' : Slots) (H' : List AObj) => awp Tryz.prog g164 n (codeSnd (codeSnd (codeSnd (codeSnd c164)))) s' H' (q164_0 n Post)) (q164_0 n Post)
noncomputable def q164_2 : Nat → (AV → List AObj → Prop) → AQ := fun (n : Nat) (Post : AV → List AObj → Prop) => blockQ 0 (q164_1 n Post)
noncomputable def c164_3 : Go.Code := codeFst (codeFst (codeSnd (codeSnd (codeSnd c164))))
theorem s164 : ∀ (l : List T.Span) (p : Int) (Post : AV → List AObj → Prop),
  AWP Tryz.prog 49 0 c164_3
      [(0, .sl 2 (.map T.encS ((0 : Int), (0 : Int)) l) .none), (1, .int .i64 p), (2, .fn (165 : FuncId) []),
        (8, .int .i64 (↑(List.length l) : Int)), (9, .int .i64 (0 : Int)), (10, .int .i64 (↑(List.length l) : Int))]
      [] (q164_2 0 Post) →
    ASpec Tryz.prog 164 [AV.sl 2 (.map T.encS ((0 : Int), (0 : Int)) l) .none, .int .i64 p, AV.fn (165 : FuncId) []] [] Post := fun l p Post h => Go.Ab.ASpec.of_vc g164 Go.Proofs.Tryz.func164 (by kernel_rfl) (by kernel_rfl) (by kernel_rfl) (Go.Ab.kc (by kernel_rfl) h)
theorem v164_3 : ∀ (l : List T.Span) (p n i j : Int) (n_1 : Nat) (Post : AV → List AObj → Prop),
  condP (decide (i < j))
      (needP ((0 : Int) ≤ (1 : Int))
        (needP
         ((0 : Int) ≤ IntKind.wrap .i64 (Int.fdiv (IntKind.wrap .u64 (IntKind.wrap .i64 (i + j))) (2 : Int)) ∧
         IntKind.wrap .i64 (Int.fdiv (IntKind.wrap .u64 (IntKind.wrap .i64 (i + j))) (2 : Int)) < (↑(List.length l) : Int))
         (ASpec Tryz.prog 165
         [AV.agg
         [AV.int .i64
         (Prod.fst (List.getD l (Int.toNat (IntKind.wrap .i64 (Int.fdiv (IntKind.wrap .u64 (IntKind.wrap .i64 (i + j))) (2 : Int)))) ((0 : Int), (0 : Int)))),
         AV.int .i64
         (Prod.snd (List.getD l (Int.toNat (IntKind.wrap .i64 (Int.fdiv (IntKind.wrap .u64 (IntKind.wrap .i64 (i + j))) (2 : Int)))) ((0 : Int), (0 : Int))))],
         AV.int .i64 p]
         [] fun (r : AV) (H' : List AObj) =>
         ∃ (x : Int),
         r = AV.int .i64 x ∧
         H' = [] ∧
         condP (decide (x < (0 : Int)))
         (AWP Tryz.prog 49 n_1 c164_3
         [(0, .sl 2 (.map T.encS ((0 : Int), (0 : Int)) l) .none), (1, .int .i64 p), (2, .fn (165 : FuncId) []),
         (8, .int .i64 n),
         (9,
         AV.int .i64 (IntKind.wrap .i64 (IntKind.wrap .i64 (Int.fdiv (IntKind.wrap .u64 (IntKind.wrap .i64 (i + j))) (2 : Int)) + (1 : Int)))),
         (10, .int .i64 j)]
         [] (q164_2 n_1 Post))
         (AWP Tryz.prog 49 n_1 c164_3
         [(0, .sl 2 (.map T.encS ((0 : Int), (0 : Int)) l) .none), (1, .int .i64 p), (2, .fn (165 : FuncId) []),
         (8, .int .i64 n), (9, .int .i64 i),
         (10, .int .i64 (IntKind.wrap .i64 (Int.fdiv (IntKind.wrap .u64 (IntKind.wrap .i64 (i + j))) (2 : Int))))]
         [] (q164_2 n_1 Post)))))
      (condP (decide (i < n))
        (needP ((0 : Int) ≤ i ∧ i < (↑(List.length l) : Int))
         (ASpec Tryz.prog 165
         [AV.agg [AV.int .i64 (Prod.fst (List.getD l (Int.toNat i) ((0 : Int), (0 : Int)))), .int .i64 (Prod.snd (List.getD l (Int.toNat i) ((0 : Int), (0 : Int))))],
         AV.int .i64 p]
         [] fun (r : AV) (H' : List AObj) => ∃ (x : Int), r = AV.int .i64 x ∧ H' = [] ∧ Post (.tup [.int .i64 i, AV.bool (x == (0 : Int))]) []))
        (Post (.tup [.int .i64 i, AV.bool false]) [])) →
    AWP Tryz.prog 49 n_1 c164_3
      [(0, .sl 2 (.map T.encS ((0 : Int), (0 : Int)) l) .none), (1, .int .i64 p), (2, .fn (165 : FuncId) []), (8, .int .i64 n),
        (9, .int .i64 i), (10, .int .i64 j)]
      [] (q164_2 n_1 Post) := fun l p n i j n Post h => Go.Ab.AWP.loop' g164 (Cfg.live g164) c164_3 (by kernel_rfl) (by kernel_rfl) (Go.Ab.kc (by kernel_rfl) h)

-- 165
noncomputable def l165 : Nat → List Nat
  | _ => []
noncomputable def u165 : Nat → Bool
  | _ => false
noncomputable def m165 : Nat → Bool
  | _ => false
noncomputable def g165 : Cfg := { N := 9, live := l165, cut := u165, mu := m165, ret := rets }
theorem s165 : ∀ (x : T.Span) (p : Int) (Post : AV → List AObj → Prop),
  condP (decide (Prod.snd x ≤ p)) (Post (.int .i64 (-1 : Int)) [AObj.cells [.int .i64 (Prod.fst x), .int .i64 (Prod.snd x)]])
      (Post (.int .i64 (1 : Int)) [AObj.cells [.int .i64 (Prod.fst x), .int .i64 (Prod.snd x)]]) →
    ASpec Tryz.prog 165 [.agg (T.encS x), .int .i64 p] [] Post := fun x p Post h => Go.Ab.ASpec.of_vc g165 Go.Proofs.Tryz.func165 (by kernel_rfl) (by kernel_rfl) (by kernel_rfl) (Go.Ab.kc (by kernel_rfl) h)

-- 140
noncomputable def l140 : Nat → List Nat
  | _ => []
noncomputable def u140 : Nat → Bool
  | _ => false
noncomputable def m140 : Nat → Bool
  | _ => false
noncomputable def g140 : Cfg := { N := 14, live := l140, cut := u140, mu := m140, ret := rets }
theorem s140 : ∀ (l : List T.Span) (p : Int) (Post : AV → List AObj → Prop),
  (ASpec Tryz.prog 164 [.sl 2 (.map T.encS ((0 : Int), (0 : Int)) l) .none, .int .i64 p, AV.fn 165 []] [] fun (r : AV) (H' : List AObj) =>
      ∃ (x : Int × Bool), r = AV.tup [.int .i64 (Prod.fst x), .bool (Prod.snd x)] ∧ H' = [] ∧ Post (.int .i64 (Prod.fst x)) []) →
    ASpec Tryz.prog 140 [.sl 2 (.map T.encS ((0 : Int), (0 : Int)) l) .none, .int .i64 p] [] Post := fun l p Post h => Go.Ab.ASpec.of_vc g140 Go.Proofs.Tryz.func140 (by kernel_rfl) (by kernel_rfl) (by kernel_rfl) (Go.Ab.kc (by kernel_rfl) h)

-- 97
noncomputable def l97 : Nat → List Nat
  | _ => []
noncomputable def u97 : Nat → Bool
  | _ => false
noncomputable def m97 : Nat → Bool
  | _ => false
noncomputable def g97 : Cfg := { N := 22, live := l97, cut := u97, mu := m97, ret := rets }
theorem s97 : ∀ (l : List T.Span) (p : Int) (Post : AV → List AObj → Prop),
  (ASpec Tryz.prog 140 [.sl 2 (.map T.encS ((0 : Int), (0 : Int)) l) .none, .int .i64 p] [] fun (r : AV) (H' : List AObj) =>
      ∃ (x : Int),
        r = AV.int .i64 x ∧
         H' = [] ∧
         condP (decide (x < (↑(List.length l) : Int)))
         (needP ((0 : Int) ≤ x ∧ x < (↑(List.length l) : Int)) (Post (.bool (decide (Prod.fst (List.getD l (Int.toNat x) ((0 : Int), (0 : Int))) ≤ p))) [])) (Post (.bool false) [])) →
    ASpec Tryz.prog 97 [.sl 2 (.map T.encS ((0 : Int), (0 : Int)) l) .none, .int .i64 p] [] Post := fun l p Post h => Go.Ab.ASpec.of_vc g97 Go.Proofs.Tryz.func97 (by kernel_rfl) (by kernel_rfl) (by kernel_rfl) (Go.Ab.kc (by kernel_rfl) h)

-- 143
noncomputable def l73 : Nat → List Nat
  | 2 => [0, 1, 5]
  | _ => []
noncomputable def u73 : Nat → Bool
  | _ => false
noncomputable def m73 : Nat → Bool
  | _ => false
noncomputable def g73 : Cfg := { N := 34, live := l73, cut := u73, mu := m73, ret := rets }
noncomputable def c73 : Go.Code := Go.Ab.bodyOf Go.Proofs.Tryz.f73
noncomputable def q73_0 : Nat → (AV → List AObj → Prop) → AQ := fun (n : Nat) (Post : AV → List AObj → Prop) => endQ Tryz.prog (resultsOf Tryz.f73) Post
noncomputable def q73_1 : Nat → (AV → List AObj → Prop) → AQ := fun (n : Nat) (Post : AV → List AObj → Prop) => seqQ (fun (s' : Slots) (H' : List AObj) => awp Tryz.prog g73 n (codeSnd (codeSnd c73)) s' H' (q73_0 n Post)) (q73_0 n Post)
noncomputable def q73_2 : Nat → (AV → List AObj → Prop) → AQ := fun (n : Nat) (Post : AV → List AObj → Prop) => blockQ 0 (q73_1 n Post)
noncomputable def c73_2 : Go.Code := codeFst (codeSnd (codeFst (codeSnd c73)))
theorem s73 : ∀ (l : List T.Span) (p : Int) (Post : AV → List AObj → Prop),
  AWP Tryz.prog 34 0 c73_2
      [(0, .sl 2 (.map T.encS ((0 : Int), (0 : Int)) l) .none), (1, .int .i64 p), (5, .int .i64 (0 : Int))] [] (q73_2 0 Post) →
    ASpec Tryz.prog 73 [.sl 2 (.map T.encS ((0 : Int), (0 : Int)) l) .none, .int .i64 p] [] Post := fun l p Post h => Go.Ab.ASpec.of_vc g73 Go.Proofs.Tryz.func73 (by kernel_rfl) (by kernel_rfl) (by kernel_rfl) (Go.Ab.kc (by kernel_rfl) h)
theorem v73_2 : ∀ (l : List T.Span) (p i : Int) (n : Nat) (Post : AV → List AObj → Prop),
  condP (decide (i < (↑(List.length l) : Int)))
      (needP ((0 : Int) ≤ i ∧ i < (↑(List.length l) : Int))
        (condP (decide (Prod.fst (List.getD l (Int.toNat i) ((0 : Int), (0 : Int))) ≤ p))
         (needP ((0 : Int) ≤ i ∧ i < (↑(List.length l) : Int))
         (condP (decide (p < Prod.snd (List.getD l (Int.toNat i) ((0 : Int), (0 : Int)))))
         (condP (decide (p ≥ (0 : Int))) (Post (.bool (decide (p < (1000000000 : Int)))) []) (Post (.bool false) []))
         (AWP Tryz.prog 34 n c73_2
         [(0, .sl 2 (.map T.encS ((0 : Int), (0 : Int)) l) .none), (1, .int .i64 p),
         (5, .int .i64 (IntKind.wrap .i64 (i + (1 : Int))))]
         [] (q73_2 n Post))))
         (AWP Tryz.prog 34 n c73_2
         [(0, .sl 2 (.map T.encS ((0 : Int), (0 : Int)) l) .none), (1, .int .i64 p),
         (5, .int .i64 (IntKind.wrap .i64 (i + (1 : Int))))]
         [] (q73_2 n Post))))
      (Post (.bool false) []) →
    AWP Tryz.prog 34 n c73_2 [(0, .sl 2 (.map T.encS ((0 : Int), (0 : Int)) l) .none), (1, .int .i64 p), (5, .int .i64 i)] []
      (q73_2 n Post) := fun l p i n Post h => Go.Ab.AWP.loop' g73 (Cfg.live g73) c73_2 (by kernel_rfl) (by kernel_rfl) (Go.Ab.kc (by kernel_rfl) h)

end
end Sg
end

section
/- Choices as cells: needs, and picks. -/

open Go Go.Ab Go.Proofs
namespace T
abbrev Ch := List Need × List Pk
/-- what is asked: an index, needs, picks -/
noncomputable def encAk (root : List Need) (l : List Pk) : List AV := [.ptr 1 0, .sl 2 (.map encN ([], []) root) .none, .sl 2 (.map encPk noPk l) .none]
noncomputable def HF (es : Kn) (root : List Need) (l : List Pk) : List AObj := HX es ++ [.cells (encAk root l)]
/-- .. and what is seen -/
noncomputable def HV (es : Kn) (root : List Need) (l : List Pk) (o : List (List UInt8)) : List AObj :=
  HX es ++ [.cells [.sl 2 (.map encPk noPk l) .none], .cells (encAk root l), .cells [.ptr 3 0], .mp (.typed EB (seenM o)), .cells [.map 5], .cells [.fn 42 [.ptr 6 0, .ptr 2 0, .ptr 4 0, .ptr 7 0]]]
end T
end
