/- Q4: several of this proof's own texts, one behind the other: what each proves stands at its head. -/
import Derived.Test.YtkmolhmdikjmpaaGreatProg
import Derived.Test.YtkmolhmdikjmpaaGreatA3
set_option linter.unusedVariables false
set_option linter.unusedSimpArgs false
set_option linter.unusedSectionVars false
set_option maxRecDepth 100000
set_option maxHeartbeats 4000000
noncomputable section
open Go Go.Ab Go.Proofs
open Go.Proofs.Tryz (prog)
namespace V
noncomputable section
def rd (bs : List UInt8) (p e : Int) : AObj := .cells [.sl 1 (.map encB 0 bs) .none, .int .i64 p, .int .i64 e]
def upd3 (args : List AV) (H : List AObj) (p e : Int) : List AObj := match args with
  | .ptr id _ :: _ => match H[id]? with
    | some (.cells [b, _, _]) => H.set id (.cells [b, .int .i64 p, .int .i64 e])
    | _ => H
  | _ => H
def upd2 (args : List AV) (H : List AObj) (s : ByteArray) (e : Int) : List AObj := match args with
  | .ptr id _ :: _ => H.set id (.cells [.str s, .int .i64 e])
  | _ => H
def retL : List (Nat × Ret) := [
  (18016, ⟨Unit, fun _ _ _ => .bool true, fun _ H _ => H⟩),
  (9140, ⟨List UInt8, fun _ H l => .sl 1 (.map encB 0 l) (.tok H.length), fun _ H _ => H ++ [.tok]⟩),
  (9141, ⟨List UInt8, fun _ H l => .sl 1 (.map encB 0 l) (.tok H.length), fun _ H _ => H ++ [.tok]⟩),
  (18019, ⟨ByteArray, fun _ _ s => .str s, fun _ H _ => H⟩),
  (9151, ⟨ByteArray, fun _ _ s => .str s, fun _ H _ => H⟩),
  (170, ⟨List UInt8, fun _ H _ => .ptr H.length 0, fun _ H l => H ++ [rd l 0 0]⟩),
  (174, ⟨Int × Int × Int, fun _ _ x => .int .i64 x.1, fun a H x => upd3 a H x.2.1 x.2.2⟩),
  (172, ⟨ByteArray × Int × Int, fun _ _ x => .str x.1, fun a H x => upd3 a H x.2.1 x.2.2⟩),
  (211, ⟨Int, fun _ _ x => .int .i64 x, fun _ H _ => H⟩),
  (212, ⟨Int, fun _ _ x => .int .i64 x, fun _ H _ => H⟩),
  (188, ⟨Int × ByteArray × Int, fun _ _ x => .int .i64 x.1, fun a H x => upd2 a H x.2.1 x.2.2⟩),
  (187, ⟨ByteArray × ByteArray × Int, fun _ _ x => .str x.1, fun a H x => upd2 a H x.2.1 x.2.2⟩),
  (18028, ⟨Int × Int, fun _ _ x => .tup [], fun a H x => upd3 a H x.1 x.2⟩),
  (18029, ⟨ByteArray × Int, fun _ _ x => .tup [], fun a H x => upd2 a H x.1 x.2⟩),
  (180, ⟨Int, fun _ _ x => .int .i64 x, fun _ H _ => H⟩),
  (190, ⟨Int, fun _ _ x => .int .i64 x, fun _ H _ => H⟩),
  (9150, ⟨ByteArray, fun _ _ s => .str s, fun _ H _ => H⟩),
  (210, ⟨Int × Int × Int × Int, fun _ _ x => .tup [.int .i64 x.1, .int .i64 x.2.1], fun a H x => upd3 a H x.2.2.1 x.2.2.2⟩),
  (215, ⟨Int × Int × Int, fun _ _ x => .tup [.int .i64 x.1, .int .i64 x.2.1, .int .i64 x.2.2], fun _ H _ => H⟩)]
def rets : FuncId → List Ret := lookupR retL
def l170 : Nat → List Nat
  | 3 => [3]
  | _ => []
def u170 : Nat → Bool
  | 3 => true
  | _ => false
def m170 : Nat → Bool
  | _ => true
def g170 : Cfg := { N := 13, live := l170, cut := u170, mu := m170, ret := rets }
def c170 : Code := bodyOf Tryz.f170
def q170_0 (n : Nat) (Post : PT) : AQ := endQ prog (resultsOf Tryz.f170) Post
def c170_3 : Code := codeSnd (codeSnd (codeSnd c170))
theorem s170 : ∀ (bs : List UInt8) (tip : Tip) (Post : PT),
  needP ((0 : Int) ≤ (↑bs.length : Int) ∧ (↑bs.length : Int) ≤ (↑bs.length : Int) ∧ (↑bs.length : Int) ≤ (9223372036854775807 : Int) ∧ (1 : Int) * (↑bs.length : Int) ≤ (281474976710656 : Int)) (needP (∀ (x : UInt8), List.all (encB x) oneAV = true) (needP (0 + List.length bs ≤ List.length (List.replicate bs.length [AV.int .u8 0]) ∧ List.length bs ≤ List.length bs) (AWP prog 13 0 c170_3 [(3, .msl 1 0 0 bs.length)] [AObj.arr 1 (copied (.raw (List.replicate bs.length [AV.int .u8 0])) 0 (.map encB 0 bs))] (q170_0 0 Post)))) → ASpec prog 170 [.sl 1 (.map encB 0 bs) tip] [] Post := fun bs tip Post h => ASpec.of_vc g170 Tryz.func170 (by kernel_rfl) (by kernel_rfl) (by kernel_rfl) (kc (by kernel_rfl) h)
theorem v170_3 : ∀ (bs : List UInt8) (n : Nat) (Post : PT),
  Post (.ptr 0 0) [AObj.cells [.sl 1 (.map encB 0 bs) .none, .int .i64 0, .int .i64 0]] → AWP prog 13 n c170_3 [(3, .sl 1 (.map encB 0 bs) .none)] [] (q170_0 n Post) := fun bs n Post h => Go.Ab.awp_sound g170 n _ _ _ _ (kc (by kernel_rfl) h)
def l174 : Nat → List Nat
  | _ => []
def u174 : Nat → Bool
  | _ => false
def m174 : Nat → Bool
  | _ => false
def g174 : Cfg := { N := 27, live := l174, cut := u174, mu := m174, ret := rets }
theorem s174 : ∀ (bs : List UInt8) (p e most : Int) (Post : PT),
  condP (e != (0 : Int)) (Post (.int .i64 0) [AObj.cells [.sl 1 (.map encB 0 bs) .none, .int .i64 p, AV.int .i64 e]]) (ASpec prog 210 [.ptr 0 0, .int .i64 most] [AObj.cells [.sl 1 (.map encB 0 bs) .none, .int .i64 p, AV.int .i64 e]] fun r H' => ∃ (x : Int × Int × Int × Int), r = AV.tup [.int .i64 x.1, .int .i64 x.2.1] ∧ H' = [AObj.cells [.sl 1 (.map encB 0 bs) .none, .int .i64 x.2.2.1, .int .i64 x.2.2.2]] ∧ Post (.int .i64 x.1) [AObj.cells [.sl 1 (.map encB 0 bs) .none, .int .i64 x.2.1, .int .i64 x.2.2.2]]) → ASpec prog 174 [.ptr 0 0, .int .i64 most] [rd bs p e] Post := fun bs p e most Post h => ASpec.of_vc g174 Tryz.func174 (by kernel_rfl) (by kernel_rfl) (by kernel_rfl) (kc (by kernel_rfl) h)
def l172 : Nat → List Nat
  | _ => []
def u172 : Nat → Bool
  | _ => false
def m172 : Nat → Bool
  | _ => false
def g172 : Cfg := { N := 56, live := l172, cut := u172, mu := m172, ret := rets }
theorem s172 : ∀ (bs : List UInt8) (p e most : Int) (Post : PT),
  condP (e != (0 : Int)) (Post (.str ⟨#[]⟩) [AObj.cells [.sl 1 (.map encB 0 bs) .none, .int .i64 p, AV.int .i64 e]]) (ASpec prog 210 [.ptr 0 0, .int .i64 most] [AObj.cells [.sl 1 (.map encB 0 bs) .none, .int .i64 p, AV.int .i64 e]] fun r H' => ∃ (x : Int × Int × Int × Int), r = AV.tup [.int .i64 x.1, .int .i64 x.2.1] ∧ H' = [AObj.cells [.sl 1 (.map encB 0 bs) .none, .int .i64 x.2.2.1, .int .i64 x.2.2.2]] ∧ condP (Prod.snd x.2.2 != (0 : Int)) (Post (.str ⟨#[]⟩) [AObj.cells [.sl 1 (.map encB 0 bs) .none, .int .i64 x.2.2.1, .int .i64 x.2.2.2]]) (condP (decide (Prod.fst x > IntKind.wrap .i64 ((↑bs.length : Int) - Prod.fst x.2))) (Post (.str ⟨#[]⟩) [AObj.cells [.sl 1 (.map encB 0 bs) .none, .int .i64 x.2.2.1, .int .i64 2]]) (needP ((0 : Int) ≤ Prod.fst x.2 ∧ Prod.fst x.2 ≤ IntKind.wrap .i64 (Prod.fst x.2 + Prod.fst x) ∧ IntKind.wrap .i64 (Prod.fst x.2 + Prod.fst x) ≤ (↑bs.length : Int)) (needP (allBytes (.map encB 0 (List.drop x.2.1.toNat (List.take (Int.toNat (IntKind.wrap .i64 (Prod.fst x.2 + Prod.fst x))) bs)))) (Post (AV.str (bytesOf (.map encB 0 (List.drop x.2.1.toNat (List.take (Int.toNat (IntKind.wrap .i64 (Prod.fst x.2 + Prod.fst x))) bs))))) [AObj.cells [.sl 1 (.map encB 0 bs) .none, .int .i64 (IntKind.wrap .i64 (Prod.fst x.2 + Prod.fst x)), AV.int .i64 x.2.2.2]]))))) → ASpec prog 172 [.ptr 0 0, .int .i64 most] [rd bs p e] Post := fun bs p e most Post h => ASpec.of_vc g172 Tryz.func172 (by kernel_rfl) (by kernel_rfl) (by kernel_rfl) (kc (by kernel_rfl) h)
def l211 : Nat → List Nat
  | _ => []
def u211 : Nat → Bool
  | _ => false
def m211 : Nat → Bool
  | _ => false
def g211 : Cfg := { N := 9, live := l211, cut := u211, mu := m211, ret := rets }
theorem s211 : ∀ (bs : List UInt8) (p e : Int) (Post : PT),
  Post (.int .i64 e) [AObj.cells [.sl 1 (.map encB 0 bs) .none, .int .i64 p, AV.int .i64 e]] → ASpec prog 211 [.ptr 0 0] [rd bs p e] Post := fun bs p e Post h => ASpec.of_vc g211 Tryz.func211 (by kernel_rfl) (by kernel_rfl) (by kernel_rfl) (kc (by kernel_rfl) h)
def l212 : Nat → List Nat
  | _ => []
def u212 : Nat → Bool
  | _ => false
def m212 : Nat → Bool
  | _ => false
def g212 : Cfg := { N := 15, live := l212, cut := u212, mu := m212, ret := rets }
theorem s212 : ∀ (bs : List UInt8) (p e : Int) (Post : PT),
  Post (.int .i64 (IntKind.wrap .i64 ((↑bs.length : Int) - p))) [AObj.cells [AV.sl 1 (.map encB 0 bs) .none, .int .i64 p, AV.int .i64 e]] → ASpec prog 212 [.ptr 0 0] [rd bs p e] Post := fun bs p e Post h => ASpec.of_vc g212 Tryz.func212 (by kernel_rfl) (by kernel_rfl) (by kernel_rfl) (kc (by kernel_rfl) h)
def l180 : Nat → List Nat
  | _ => []
def u180 : Nat → Bool
  | _ => false
def m180 : Nat → Bool
  | _ => false
def g180 : Cfg := { N := 14, live := l180, cut := u180, mu := m180, ret := rets }
theorem s180 : ∀ (bs : List UInt8) (p e : Int) (Post : PT),
  (ASpec prog 211 [.ptr 0 0] [AObj.cells [.sl 1 (.map encB 0 bs) .none, .int .i64 p, AV.int .i64 e]] fun r H' => ∃ (x : Int), r = AV.int .i64 x ∧ H' = [AObj.cells [.sl 1 (.map encB 0 bs) .none, .int .i64 p, AV.int .i64 e]] ∧ condP (x != (0 : Int)) (Post (.int .i64 x) [AObj.cells [.sl 1 (.map encB 0 bs) .none, .int .i64 p, AV.int .i64 e]]) (ASpec prog 212 [.ptr 0 0] [AObj.cells [.sl 1 (.map encB 0 bs) .none, .int .i64 p, AV.int .i64 e]] fun r H' => ∃ (x : Int), r = AV.int .i64 x ∧ H' = [AObj.cells [.sl 1 (.map encB 0 bs) .none, .int .i64 p, AV.int .i64 e]] ∧ condP (decide (x > (0 : Int))) (Post (.int .i64 3) [AObj.cells [.sl 1 (.map encB 0 bs) .none, .int .i64 p, AV.int .i64 e]]) (Post (.int .i64 0) [AObj.cells [.sl 1 (.map encB 0 bs) .none, .int .i64 p, AV.int .i64 e]]))) → ASpec prog 180 [.ptr 0 0] [rd bs p e] Post := fun bs p e Post h => ASpec.of_vc g180 Tryz.func180 (by kernel_rfl) (by kernel_rfl) (by kernel_rfl) (kc (by kernel_rfl) h)
def l188 : Nat → List Nat
  | _ => []
def u188 : Nat → Bool
  | _ => false
def m188 : Nat → Bool
  | _ => false
def g188 : Cfg := { N := 37, live := l188, cut := u188, mu := m188, ret := rets }
theorem s188 : ∀ (s : ByteArray) (e most : Int) (Post : PT),
  condP (e != (0 : Int)) (Post (.int .i64 0) [AObj.cells [.str s, AV.int .i64 e]]) (ASpec prog 215 [.str s, AV.int .i64 most] [AObj.cells [.str s, AV.int .i64 e]] fun r H' => ∃ (x : Int × Int × Int), r = AV.tup [.int .i64 x.1, .int .i64 x.2.1, .int .i64 x.2.2] ∧ H' = [AObj.cells [.str s, AV.int .i64 e]] ∧ needP ((0 : Int) ≤ Prod.fst x.2 ∧ Prod.fst x.2 ≤ (↑(ByteArray.size s) : Int)) (Post (.int .i64 x.1) [AObj.cells [.str (ByteArray.extract s x.2.1.toNat (ByteArray.size s)), .int .i64 x.2.2]])) → ASpec prog 188 [.ptr 0 0, .int .i64 most] [AObj.cells [.str s, AV.int .i64 e]] Post := fun s e most Post h => ASpec.of_vc g188 Tryz.func188 (by kernel_rfl) (by kernel_rfl) (by kernel_rfl) (kc (by kernel_rfl) h)
def l187 : Nat → List Nat
  | _ => []
def u187 : Nat → Bool
  | _ => false
def m187 : Nat → Bool
  | _ => false
def g187 : Cfg := { N := 64, live := l187, cut := u187, mu := m187, ret := rets }
theorem s187 : ∀ (s : ByteArray) (e most : Int) (Post : PT),
  condP (e != (0 : Int)) (Post (.str ⟨#[]⟩) [AObj.cells [.str s, AV.int .i64 e]]) (ASpec prog 215 [.str s, AV.int .i64 most] [AObj.cells [.str s, AV.int .i64 e]] fun r H' => ∃ (x : Int × Int × Int), r = AV.tup [.int .i64 x.1, .int .i64 x.2.1, .int .i64 x.2.2] ∧ H' = [AObj.cells [.str s, AV.int .i64 e]] ∧ condP (Prod.snd x.2 == (0 : Int)) (condP (decide (Prod.fst x > IntKind.wrap .i64 ((↑(ByteArray.size s) : Int) - Prod.fst x.2))) (Post (.str ⟨#[]⟩) [AObj.cells [.str s, AV.int .i64 2]]) (condP (Prod.snd x.2 != (0 : Int)) (Post (.str ⟨#[]⟩) [AObj.cells [.str s, AV.int .i64 x.2.2]]) (needP ((0 : Int) ≤ Prod.fst x.2 ∧ Prod.fst x.2 ≤ IntKind.wrap .i64 (Prod.fst x.2 + Prod.fst x) ∧ IntKind.wrap .i64 (Prod.fst x.2 + Prod.fst x) ≤ (↑(ByteArray.size s) : Int)) (needP ((0 : Int) ≤ IntKind.wrap .i64 (Prod.fst x.2 + Prod.fst x) ∧ IntKind.wrap .i64 (Prod.fst x.2 + Prod.fst x) ≤ (↑(ByteArray.size s) : Int)) (Post (.str (ByteArray.extract s x.2.1.toNat (Int.toNat (IntKind.wrap .i64 (Prod.fst x.2 + Prod.fst x))))) [AObj.cells [.str (ByteArray.extract s (Int.toNat (IntKind.wrap .i64 (Prod.fst x.2 + Prod.fst x))) (ByteArray.size s)), AV.int .i64 x.2.2]]))))) (condP (Prod.snd x.2 != (0 : Int)) (Post (.str ⟨#[]⟩) [AObj.cells [.str s, AV.int .i64 x.2.2]]) (needP ((0 : Int) ≤ Prod.fst x.2 ∧ Prod.fst x.2 ≤ IntKind.wrap .i64 (Prod.fst x.2 + Prod.fst x) ∧ IntKind.wrap .i64 (Prod.fst x.2 + Prod.fst x) ≤ (↑(ByteArray.size s) : Int)) (needP ((0 : Int) ≤ IntKind.wrap .i64 (Prod.fst x.2 + Prod.fst x) ∧ IntKind.wrap .i64 (Prod.fst x.2 + Prod.fst x) ≤ (↑(ByteArray.size s) : Int)) (Post (.str (ByteArray.extract s x.2.1.toNat (Int.toNat (IntKind.wrap .i64 (Prod.fst x.2 + Prod.fst x))))) [AObj.cells [.str (ByteArray.extract s (Int.toNat (IntKind.wrap .i64 (Prod.fst x.2 + Prod.fst x))) (ByteArray.size s)), AV.int .i64 x.2.2]]))))) → ASpec prog 187 [.ptr 0 0, .int .i64 most] [AObj.cells [.str s, AV.int .i64 e]] Post := fun s e most Post h => ASpec.of_vc g187 Tryz.func187 (by kernel_rfl) (by kernel_rfl) (by kernel_rfl) (kc (by kernel_rfl) h)
def l190 : Nat → List Nat
  | _ => []
def u190 : Nat → Bool
  | _ => false
def m190 : Nat → Bool
  | _ => false
def g190 : Cfg := { N := 19, live := l190, cut := u190, mu := m190, ret := rets }
theorem s190 : ∀ (s : ByteArray) (e : Int) (Post : PT),
  condP (e == (0 : Int)) (condP (!ByteArray.toList s == ByteArray.toList ⟨#[]⟩) (Post (.int .i64 3) [AObj.cells [.str s, AV.int .i64 e]]) (Post (.int .i64 e) [AObj.cells [.str s, AV.int .i64 e]])) (Post (.int .i64 e) [AObj.cells [.str s, AV.int .i64 e]]) → ASpec prog 190 [.ptr 0 0] [AObj.cells [.str s, AV.int .i64 e]] Post := fun s e Post h => ASpec.of_vc g190 Tryz.func190 (by kernel_rfl) (by kernel_rfl) (by kernel_rfl) (kc (by kernel_rfl) h)
def l210 : Nat → List Nat
  | 9 => [0, 1, 6, 44]
  | _ => []
def u210 : Nat → Bool
  | _ => false
def m210 : Nat → Bool
  | _ => false
def g210 : Cfg := { N := 113, live := l210, cut := u210, mu := m210, ret := rets }
def c210 : Code := bodyOf Tryz.f210
def q210_0 (n : Nat) (Post : PT) : AQ := endQ prog (resultsOf Tryz.f210) Post
def q210_1 (n : Nat) (Post : PT) : AQ := seqQ (fun s' H' => awp prog g210 n (codeSnd (codeSnd (codeSnd (codeSnd (codeSnd c210))))) s' H' (q210_0 n Post)) (q210_0 n Post)
def q210_2 (n : Nat) (Post : PT) : AQ := blockQ 0 (q210_1 n Post)
def c210_9 : Code := codeFst (codeSnd (codeFst (codeSnd (codeSnd (codeSnd (codeSnd c210))))))
theorem s210 : ∀ (bs : List UInt8) (p e most : Int) (Post : PT),
  condP (p == (↑bs.length : Int)) ((AV.int .i64 p = AV.int .i64 p ∧ [AObj.cells [.sl 1 (.map encB 0 bs) .none, .int .i64 p, AV.int .i64 2]] = [AObj.cells [.sl 1 (.map encB 0 bs) .none, .int .i64 p, AV.int .i64 2]]) ∧ Post (.tup [.int .i64 0, .int .i64 p]) [AObj.cells [.sl 1 (.map encB 0 bs) .none, .int .i64 p, AV.int .i64 2]]) (needP (0 ≤ p ∧ p < (↑bs.length : Int)) (condP ((↑(UInt8.toNat (bs.getD p.toNat (0 : UInt8))) : Int) == (128 : Int)) ((AV.int .i64 p = AV.int .i64 p ∧ [AObj.cells [.sl 1 (.map encB 0 bs) .none, .int .i64 p, AV.int .i64 3]] = [AObj.cells [.sl 1 (.map encB 0 bs) .none, .int .i64 p, AV.int .i64 3]]) ∧ Post (.tup [.int .i64 0, .int .i64 p]) [AObj.cells [.sl 1 (.map encB 0 bs) .none, .int .i64 p, AV.int .i64 3]]) (AWP prog 113 1 c210_9 [(0, .ptr 0 0), (1, .int .i64 most), (6, .int .i64 0), (44, .int .i64 0)] [AObj.cells [.sl 1 (.map encB 0 bs) .none, .int .i64 p, AV.int .i64 e]] (q210_2 1 Post)))) → ASpec prog 210 [.ptr 0 0, .int .i64 most] [rd bs p e] Post := fun bs p e most Post h => ASpec.of_vc g210 Tryz.func210 (by kernel_rfl) (by kernel_rfl) (by kernel_rfl) (kc (by kernel_rfl) h)
theorem v210_9 : ∀ (bs : List UInt8) (p e most x i : Int) (n : Nat) (Post : PT),
  condP (decide (i < (6 : Int))) (condP (IntKind.wrap .i64 (p + i) == (↑bs.length : Int)) ((AV.int .i64 p = AV.int .i64 p ∧ [AObj.cells [.sl 1 (.map encB 0 bs) .none, .int .i64 p, AV.int .i64 2]] = [AObj.cells [.sl 1 (.map encB 0 bs) .none, .int .i64 p, AV.int .i64 2]]) ∧ Post (.tup [.int .i64 0, .int .i64 p]) [AObj.cells [.sl 1 (.map encB 0 bs) .none, .int .i64 p, AV.int .i64 2]]) (needP ((0 : Int) ≤ IntKind.wrap .i64 (p + i) ∧ IntKind.wrap .i64 (p + i) < (↑bs.length : Int)) (needP ((128 : Int) ≠ (0 : Int)) (condP (decide (IntKind.wrap .i64 (↑(UInt8.toNat (bs.getD (Int.toNat (IntKind.wrap .i64 (p + i))) (0 : UInt8))) : Int) ≥ (128 : Int))) (AWP prog 113 n c210_9 [(0, .ptr 0 0), (1, .int .i64 most), (6, AV.int .i64 (IntKind.wrap .i64 (IntKind.wrap .i64 (x * (128 : Int)) + Int.tmod (IntKind.wrap .i64 (↑(UInt8.toNat (bs.getD (Int.toNat (IntKind.wrap .i64 (p + i))) (0 : UInt8))) : Int)) (128 : Int)))), (44, .int .i64 (IntKind.wrap .i64 (i + (1 : Int))))] [AObj.cells [.sl 1 (.map encB 0 bs) .none, .int .i64 p, AV.int .i64 e]] (q210_2 n Post)) (condP (decide (IntKind.wrap .i64 (IntKind.wrap .i64 (x * (128 : Int)) + Int.tmod (IntKind.wrap .i64 (↑(UInt8.toNat (bs.getD (Int.toNat (IntKind.wrap .i64 (p + i))) (0 : UInt8))) : Int)) (128 : Int)) > if (1099511627776 : Int) < most then (1099511627776 : Int) else most)) ((AV.int .i64 p = AV.int .i64 p ∧ [AObj.cells [.sl 1 (.map encB 0 bs) .none, .int .i64 p, AV.int .i64 4]] = [AObj.cells [.sl 1 (.map encB 0 bs) .none, .int .i64 p, AV.int .i64 4]]) ∧ Post (.tup [.int .i64 0, .int .i64 p]) [AObj.cells [.sl 1 (.map encB 0 bs) .none, .int .i64 p, AV.int .i64 4]]) ((AV.int .i64 p = AV.int .i64 p ∧ [AObj.cells [.sl 1 (.map encB 0 bs) .none, .int .i64 p, AV.int .i64 e]] = [AObj.cells [.sl 1 (.map encB 0 bs) .none, .int .i64 p, AV.int .i64 e]]) ∧ Post (AV.tup [.int .i64 (IntKind.wrap .i64 (IntKind.wrap .i64 (x * (128 : Int)) + Int.tmod (IntKind.wrap .i64 (↑(UInt8.toNat (bs.getD (Int.toNat (IntKind.wrap .i64 (p + i))) (0 : UInt8))) : Int)) (128 : Int))), AV.int .i64 (IntKind.wrap .i64 (IntKind.wrap .i64 (p + i) + (1 : Int)))]) [AObj.cells [.sl 1 (.map encB 0 bs) .none, .int .i64 p, AV.int .i64 e]])))))) ((AV.int .i64 p = AV.int .i64 p ∧ [AObj.cells [.sl 1 (.map encB 0 bs) .none, .int .i64 p, AV.int .i64 4]] = [AObj.cells [.sl 1 (.map encB 0 bs) .none, .int .i64 p, AV.int .i64 4]]) ∧ Post (.tup [.int .i64 0, .int .i64 p]) [AObj.cells [.sl 1 (.map encB 0 bs) .none, .int .i64 p, AV.int .i64 4]]) → AWP prog 113 n c210_9 [(0, .ptr 0 0), (1, .int .i64 most), (6, .int .i64 x), (44, .int .i64 i)] [rd bs p e] (q210_2 n Post) := fun bs p e most x i n Post h => AWP.loop' g210 (Cfg.live g210) c210_9 (by kernel_rfl) (by kernel_rfl) (kc (by kernel_rfl) h)
def l215 : Nat → List Nat
  | 6 => [0, 1, 7]
  | 14 => [0, 1, 7, 8, 9]
  | _ => []
def u215 : Nat → Bool
  | _ => false
def m215 : Nat → Bool
  | _ => false
def g215 : Cfg := { N := 60, live := l215, cut := u215, mu := m215, ret := rets }
def c215 : Code := bodyOf Tryz.f215
def q215_0 (n : Nat) (Post : PT) : AQ := endQ prog (resultsOf Tryz.f215) Post
def q215_1 (n : Nat) (Post : PT) : AQ := seqQ (fun s' H' => awp prog g215 n (codeSnd (codeSnd (codeSnd (codeSnd (codeSnd c215))))) s' H' (q215_0 n Post)) (q215_0 n Post)
def q215_2 (n : Nat) (Post : PT) : AQ := blockQ 0 (q215_1 n Post)
def c215_6 : Code := codeFst (codeFst (codeSnd (codeSnd (codeSnd (codeSnd c215)))))
theorem s215 : ∀ (s : ByteArray) (most : Int) (Post : PT),
  condP (ByteArray.toList s == ByteArray.toList ⟨#[]⟩) (Post (.tup [.int .i64 0, .int .i64 0, .int .i64 2]) []) (needP ((0 : Int) ≤ (0 : Int) ∧ (0 : Int) < (↑(ByteArray.size s) : Int)) (condP ((↑(UInt8.toNat (List.getD (Array.toList (ByteArray.data s)) 0 (0 : UInt8))) : Int) == (128 : Int)) (Post (.tup [.int .i64 0, .int .i64 0, .int .i64 3]) []) (AWP prog 60 0 c215_6 [(0, .str s), (1, .int .i64 most), (7, .int .i64 0)] [] (q215_2 0 Post)))) → ASpec prog 215 [.str s, AV.int .i64 most] [] Post := fun s most Post h => ASpec.of_vc g215 Tryz.func215 (by kernel_rfl) (by kernel_rfl) (by kernel_rfl) (kc (by kernel_rfl) h)
def q215_3 (n : Nat) (Post : PT) : AQ := seqQ (fun s' H' => awp prog g215 n (codeSnd (codeSnd (codeSnd (codeSnd (codeSnd (codeSnd (codeSnd (codeSnd (codeSnd c215))))))))) s' H' (q215_0 n Post)) (q215_0 n Post)
def q215_4 (n : Nat) (Post : PT) : AQ := blockQ 2 (q215_3 n Post)
def c215_14 : Code := codeFst (codeSnd (codeFst (codeSnd (codeSnd (codeSnd (codeSnd (codeSnd (codeSnd (codeSnd (codeSnd c215))))))))))
theorem v215_6 : ∀ (s : ByteArray) (most k : Int) (n : Nat) (Post : PT),
  condP (decide (k < (↑(ByteArray.size s) : Int))) (condP (decide (k < (6 : Int))) (needP (0 ≤ k ∧ k < (↑(ByteArray.size s) : Int)) (condP (decide ((↑(UInt8.toNat (List.getD (Array.toList (ByteArray.data s)) k.toNat (0 : UInt8))) : Int) ≥ (128 : Int))) (AWP prog 60 n c215_6 [(0, .str s), (1, .int .i64 most), (7, .int .i64 (IntKind.wrap .i64 (k + (1 : Int))))] [] (q215_2 n Post)) (condP (k == (6 : Int)) (Post (.tup [.int .i64 0, .int .i64 0, .int .i64 4]) []) (condP (k == (↑(ByteArray.size s) : Int)) (Post (.tup [.int .i64 0, .int .i64 0, .int .i64 2]) []) (AWP prog 60 n c215_14 [(0, .str s), (1, .int .i64 most), (7, .int .i64 k), (8, .int .i64 0), (9, .int .i64 0)] [] (q215_4 n Post)))))) (condP (k == (6 : Int)) (Post (.tup [.int .i64 0, .int .i64 0, .int .i64 4]) []) (condP (k == (↑(ByteArray.size s) : Int)) (Post (.tup [.int .i64 0, .int .i64 0, .int .i64 2]) []) (AWP prog 60 n c215_14 [(0, .str s), (1, .int .i64 most), (7, .int .i64 k), (8, .int .i64 0), (9, .int .i64 0)] [] (q215_4 n Post))))) (condP (k == (6 : Int)) (Post (.tup [.int .i64 0, .int .i64 0, .int .i64 4]) []) (condP (k == (↑(ByteArray.size s) : Int)) (Post (.tup [.int .i64 0, .int .i64 0, .int .i64 2]) []) (AWP prog 60 n c215_14 [(0, .str s), (1, .int .i64 most), (7, .int .i64 k), (8, .int .i64 0), (9, .int .i64 0)] [] (q215_4 n Post)))) → AWP prog 60 n c215_6 [(0, .str s), (1, .int .i64 most), (7, .int .i64 k)] [] (q215_2 n Post) := fun s most k n Post h => AWP.loop' g215 (Cfg.live g215) c215_6 (by kernel_rfl) (by kernel_rfl) (kc (by kernel_rfl) h)
theorem v215_14 : ∀ (s : ByteArray) (most k x i : Int) (n : Nat) (Post : PT),
  condP (decide (i ≤ k)) (needP (0 ≤ i ∧ i < (↑(ByteArray.size s) : Int)) (needP ((128 : Int) ≠ (0 : Int)) (AWP prog 60 n c215_14 [(0, .str s), (1, .int .i64 most), (7, .int .i64 k), (8, AV.int .i64 (IntKind.wrap .i64 (IntKind.wrap .i64 (x * (128 : Int)) + IntKind.wrap .i64 (Int.tmod (↑(UInt8.toNat (List.getD (Array.toList (ByteArray.data s)) i.toNat (0 : UInt8))) : Int) (128 : Int))))), (9, .int .i64 (IntKind.wrap .i64 (i + (1 : Int))))] [] (q215_4 n Post)))) (condP (decide (x > (1099511627776 : Int))) (Post (.tup [.int .i64 0, .int .i64 0, .int .i64 4]) []) (condP (decide (x > most)) (Post (.tup [.int .i64 0, .int .i64 0, .int .i64 4]) []) (Post (.tup [.int .i64 x, AV.int .i64 (IntKind.wrap .i64 (k + (1 : Int))), .int .i64 0]) []))) → AWP prog 60 n c215_14 [(0, .str s), (1, .int .i64 most), (7, .int .i64 k), (8, .int .i64 x), (9, .int .i64 i)] [] (q215_4 n Post) := fun s most k x i n Post h => AWP.loop' g215 (Cfg.live g215) c215_14 (by kernel_rfl) (by kernel_rfl) (kc (by kernel_rfl) h)
end
end V
end

noncomputable section
open Go Go.Ab Go.Proofs
namespace T
abbrev Span := Int × Int
abbrev Need := List UInt8 × List Span
abbrev Rel := Int × List Need
abbrev Mani := List UInt8 × List Rel
def encS (x : Span) : List AV := [.int .i64 x.1, .int .i64 x.2]
def encN (x : Need) : List AV := [.str ⟨x.1.toArray⟩, .sl 2 (.map encS (0, 0) x.2) .none]
def encR (x : Rel) : List AV := [.int .i64 x.1, .sl 2 (.map encN ([], []) x.2) .none]
def encM (x : Mani) : List AV := [.str ⟨x.1.toArray⟩, .sl 2 (.map encR (0, []) x.2) .none]
end T
end

noncomputable section
open Go Go.Ab Go.Proofs
open Go.Proofs.Tryz (prog)
namespace C
noncomputable section
def retC : List (Nat × Ret) := [
  (41, ⟨Bool, fun _ _ x => .bool x, fun _ H _ => H⟩), (9066, ⟨Bool, fun _ _ x => .bool x, fun _ H _ => H⟩), (9062, ⟨Bool, fun _ _ x => .bool x, fun _ H _ => H⟩), (191, ⟨Bool, fun _ _ x => .bool x, fun _ H _ => H⟩),
  (51, ⟨Bool, fun _ _ x => .bool x, fun _ H _ => H⟩), (9, ⟨Bool, fun _ _ x => .bool x, fun _ H _ => H⟩), (181, ⟨Bool, fun _ _ x => .bool x, fun _ H _ => H⟩), (9173, ⟨Bool, fun _ _ x => .bool x, fun _ H _ => H⟩),
  (74, ⟨Bool, fun _ _ x => .bool x, fun _ H _ => H⟩), (10, ⟨Bool, fun _ _ x => .bool x, fun _ H _ => H⟩), (34, ⟨Bool, fun _ _ x => .bool x, fun _ H _ => H⟩), (213, ⟨Bool, fun _ _ x => .bool x, fun _ H _ => H⟩),
  (42, ⟨Bool, fun _ _ x => .bool x, fun _ H _ => H⟩), (139, ⟨Bool, fun _ _ x => .bool x, fun _ H _ => H⟩)]
def rets : FuncId → List Ret := lookupR (retC ++ V.retL)
def l139 : Nat → List Nat
  | 3 => [3, 6, 7, 8]
  | _ => []
def u139 : Nat → Bool
  | _ => false
def m139 : Nat → Bool
  | _ => false
def g139 : Cfg := { N := 31, live := l139, cut := u139, mu := m139, ret := rets }
def c139 : Code := bodyOf Tryz.f139
def q139_0 (n : Nat) (Post : PT) : AQ := endQ prog (resultsOf Tryz.f139) Post
def q139_1 (n : Nat) (Post : PT) : AQ := seqQ (fun s' H' => awp prog g139 n (codeSnd (codeSnd (codeSnd c139))) s' H' (q139_0 n Post)) (q139_0 n Post)
def q139_2 (n : Nat) (Post : PT) : AQ := blockQ 0 (q139_1 n Post)
def c139_3 : Code := codeFst (codeSnd (codeFst (codeSnd (codeSnd c139))))
theorem s139 : ∀ (l : List T.Span) (Post : PT),
  AWP prog 31 0 c139_3 [(3, .int .i64 (-1)), (6, .sl 2 (.map T.encS (0, 0) l) .none), (7, .int .i64 l.length), (8, .int .i64 0)] [] (q139_2 0 Post) → ASpec prog 139 [.sl 2 (.map T.encS (0, 0) l) .none] [] Post := fun l Post h => ASpec.of_vc g139 Tryz.func139 (by kernel_rfl) (by kernel_rfl) (by kernel_rfl) (kc (by kernel_rfl) h)
theorem v139_3 : ∀ (l : List T.Span) (e n i : Int) (n_1 : Nat) (Post : PT),
  condP (decide (i < n)) (needP (0 ≤ i ∧ i < (↑l.length : Int)) (condP (decide ((l.getD i.toNat ((0 : Int), (0 : Int))).1 ≤ e)) (Post (.bool false) [AObj.cells [.int .i64 (l.getD i.toNat ((0 : Int), (0 : Int))).1, .int .i64 (l.getD i.toNat ((0 : Int), (0 : Int))).2]]) (condP (decide ((l.getD i.toNat ((0 : Int), (0 : Int))).1 ≥ (l.getD i.toNat ((0 : Int), (0 : Int))).2)) (Post (.bool false) [AObj.cells [.int .i64 (l.getD i.toNat ((0 : Int), (0 : Int))).1, .int .i64 (l.getD i.toNat ((0 : Int), (0 : Int))).2]]) (condP (decide ((l.getD i.toNat ((0 : Int), (0 : Int))).2 > (1000000000 : Int))) (Post (.bool false) [AObj.cells [.int .i64 (l.getD i.toNat ((0 : Int), (0 : Int))).1, .int .i64 (l.getD i.toNat ((0 : Int), (0 : Int))).2]]) (AWP prog 31 n_1 c139_3 [(3, .int .i64 (l.getD i.toNat ((0 : Int), (0 : Int))).2), (6, .sl 2 (.map T.encS (0, 0) l) .none), (7, .int .i64 n), (8, .int .i64 (IntKind.wrap .i64 (i + (1 : Int))))] [AObj.cells [.int .i64 (l.getD i.toNat ((0 : Int), (0 : Int))).1, .int .i64 (l.getD i.toNat ((0 : Int), (0 : Int))).2]] (q139_2 n_1 Post)))))) (Post (.bool true) []) → AWP prog 31 n_1 c139_3 [(3, .int .i64 e), (6, .sl 2 (.map T.encS (0, 0) l) .none), (7, .int .i64 n), (8, .int .i64 i)] [] (q139_2 n_1 Post) := fun l e n i n Post h => AWP.loop' g139 (Cfg.live g139) c139_3 (by kernel_rfl) (by kernel_rfl) (kc (by kernel_rfl) h)
def l42 : Nat → List Nat
  | 2 => [0, 3]
  | _ => []
def u42 : Nat → Bool
  | _ => false
def m42 : Nat → Bool
  | _ => false
def g42 : Cfg := { N := 55, live := l42, cut := u42, mu := m42, ret := rets }
def c42 : Code := bodyOf Tryz.f42
def q42_0 (n : Nat) (Post : PT) : AQ := endQ prog (resultsOf Tryz.f42) Post
def q42_1 (n : Nat) (Post : PT) : AQ := seqQ (fun s' H' => awp prog g42 n (codeSnd (codeSnd c42)) s' H' (q42_0 n Post)) (q42_0 n Post)
def q42_2 (n : Nat) (Post : PT) : AQ := blockQ 0 (q42_1 n Post)
def c42_2 : Code := codeFst (codeSnd (codeFst (codeSnd c42)))
theorem s42 : ∀ (l : List T.Span) (Post : PT),
  AWP prog 55 0 c42_2 [(0, .sl 2 (.map T.encS (0, 0) l) .none), (3, .int .i64 0)] [] (q42_2 0 Post) → ASpec prog 42 [.sl 2 (.map T.encS (0, 0) l) .none] [] Post := fun l Post h => ASpec.of_vc g42 Tryz.func42 (by kernel_rfl) (by kernel_rfl) (by kernel_rfl) (kc (by kernel_rfl) h)
theorem v42_2 : ∀ (l : List T.Span) (i : Int) (n : Nat) (Post : PT),
  condP (decide (i < (↑l.length : Int))) (needP (0 ≤ i ∧ i < (↑l.length : Int)) (condP (decide ((l.getD i.toNat ((0 : Int), (0 : Int))).1 < (0 : Int))) (Post (.bool false) []) (needP (0 ≤ i ∧ i < (↑l.length : Int)) (condP (decide ((l.getD i.toNat ((0 : Int), (0 : Int))).2 > (1000000000 : Int))) (Post (.bool false) []) (needP (0 ≤ i ∧ i < (↑l.length : Int)) (needP (0 ≤ i ∧ i < (↑l.length : Int)) (condP (decide ((l.getD i.toNat ((0 : Int), (0 : Int))).1 ≥ (l.getD i.toNat ((0 : Int), (0 : Int))).2)) (Post (.bool false) []) (condP (decide (i > (0 : Int))) (needP (0 ≤ i ∧ i < (↑l.length : Int)) (needP ((0 : Int) ≤ IntKind.wrap .i64 (i - (1 : Int)) ∧ IntKind.wrap .i64 (i - (1 : Int)) < (↑l.length : Int)) (condP (decide ((l.getD i.toNat ((0 : Int), (0 : Int))).1 ≤ Prod.snd (l.getD (Int.toNat (IntKind.wrap .i64 (i - (1 : Int)))) ((0 : Int), (0 : Int))))) (Post (.bool false) []) (AWP prog 55 n c42_2 [(0, .sl 2 (.map T.encS (0, 0) l) .none), (3, .int .i64 (IntKind.wrap .i64 (i + (1 : Int))))] [] (q42_2 n Post))))) (AWP prog 55 n c42_2 [(0, .sl 2 (.map T.encS (0, 0) l) .none), (3, .int .i64 (IntKind.wrap .i64 (i + (1 : Int))))] [] (q42_2 n Post)))))))))) (Post (.bool true) []) → AWP prog 55 n c42_2 [(0, .sl 2 (.map T.encS (0, 0) l) .none), (3, .int .i64 i)] [] (q42_2 n Post) := fun l i n Post h => AWP.loop' g42 (Cfg.live g42) c42_2 (by kernel_rfl) (by kernel_rfl) (kc (by kernel_rfl) h)
def l213 : Nat → List Nat
  | 3 => [0, 3, 6, 7, 8]
  | _ => []
def u213 : Nat → Bool
  | _ => false
def m213 : Nat → Bool
  | _ => false
def g213 : Cfg := { N := 40, live := l213, cut := u213, mu := m213, ret := rets }
def c213 : Code := bodyOf Tryz.f213
def q213_0 (n : Nat) (Post : PT) : AQ := endQ prog (resultsOf Tryz.f213) Post
def q213_1 (n : Nat) (Post : PT) : AQ := seqQ (fun s' H' => awp prog g213 n (codeSnd (codeSnd (codeSnd c213))) s' H' (q213_0 n Post)) (q213_0 n Post)
def q213_2 (n : Nat) (Post : PT) : AQ := blockQ 0 (q213_1 n Post)
def c213_3 : Code := codeFst (codeSnd (codeFst (codeSnd (codeSnd c213))))
theorem s213 : ∀ (l : List T.Need) (Post : PT),
  AWP prog 40 0 c213_3 [(0, .sl 2 (.map T.encN ([], []) l) .none), (3, .str ⟨#[]⟩), (6, .sl 2 (.map T.encN ([], []) l) .none), (7, .int .i64 l.length), (8, .int .i64 0)] [] (q213_2 0 Post) → ASpec prog 213 [.sl 2 (.map T.encN ([], []) l) .none] [] Post := fun l Post h => ASpec.of_vc g213 Tryz.func213 (by kernel_rfl) (by kernel_rfl) (by kernel_rfl) (kc (by kernel_rfl) h)
theorem v213_3 : ∀ (l : List T.Need) (s : ByteArray) (n i : Int) (n_1 : Nat) (Post : PT),
  condP (decide (i < n)) (needP (0 ≤ i ∧ i < (↑l.length : Int)) (ASpec prog 51 [AV.str ⟨(l.getD i.toNat ([], [])).1.toArray⟩] [AObj.cells [AV.str ⟨(l.getD i.toNat ([], [])).1.toArray⟩, .sl 2 (.map T.encS (0, 0) (l.getD i.toNat ([], [])).2) .none]] fun r H' => ∃ (x : Bool), r = AV.bool x ∧ H' = [AObj.cells [.str ⟨(l.getD i.toNat ([], [])).1.toArray⟩, .sl 2 (.map T.encS (0, 0) (l.getD i.toNat ([], [])).2) .none]] ∧ condP (!x) (Post (.bool false) [AObj.cells [.str ⟨(l.getD i.toNat ([], [])).1.toArray⟩, .sl 2 (.map T.encS (0, 0) (l.getD i.toNat ([], [])).2) .none]]) (condP (Op.bytesLess (ByteArray.toList ⟨(l.getD i.toNat ([], [])).1.toArray⟩) (ByteArray.toList s) || ByteArray.toList ⟨(l.getD i.toNat ([], [])).1.toArray⟩ == ByteArray.toList s) (Post (.bool false) [AObj.cells [.str ⟨(l.getD i.toNat ([], [])).1.toArray⟩, .sl 2 (.map T.encS (0, 0) (l.getD i.toNat ([], [])).2) .none]]) (condP (decide ((↑(List.length (l.getD i.toNat ([], [])).2) : Int) > (6 : Int))) (Post (.bool false) [AObj.cells [.str ⟨(l.getD i.toNat ([], [])).1.toArray⟩, .sl 2 (.map T.encS (0, 0) (l.getD i.toNat ([], [])).2) .none]]) (ASpec prog 139 [.sl 2 (.map T.encS (0, 0) (l.getD i.toNat ([], [])).2) .none] [AObj.cells [AV.str ⟨(l.getD i.toNat ([], [])).1.toArray⟩, .sl 2 (.map T.encS (0, 0) (l.getD i.toNat ([], [])).2) .none]] fun r H' => ∃ (x : Bool), r = AV.bool x ∧ H' = [AObj.cells [.str ⟨(l.getD i.toNat ([], [])).1.toArray⟩, .sl 2 (.map T.encS (0, 0) (l.getD i.toNat ([], [])).2) .none]] ∧ condP (!x) (Post (.bool false) [AObj.cells [.str ⟨(l.getD i.toNat ([], [])).1.toArray⟩, .sl 2 (.map T.encS (0, 0) (l.getD i.toNat ([], [])).2) .none]]) (AWP prog 40 n_1 c213_3 [(0, .sl 2 (.map T.encN ([], []) l) .none), (3, .str ⟨(l.getD i.toNat ([], [])).1.toArray⟩), (6, .sl 2 (.map T.encN ([], []) l) .none), (7, .int .i64 n), (8, .int .i64 (IntKind.wrap .i64 (i + (1 : Int))))] [AObj.cells [.str ⟨(l.getD i.toNat ([], [])).1.toArray⟩, .sl 2 (.map T.encS (0, 0) (l.getD i.toNat ([], [])).2) .none]] (q213_2 n_1 Post))))))) (Post (.bool (decide ((↑l.length : Int) ≤ (6 : Int)))) []) → AWP prog 40 n_1 c213_3 [(0, .sl 2 (.map T.encN ([], []) l) .none), (3, .str s), (6, .sl 2 (.map T.encN ([], []) l) .none), (7, .int .i64 n), (8, .int .i64 i)] [] (q213_2 n_1 Post) := fun l s n i n Post h => AWP.loop' g213 (Cfg.live g213) c213_3 (by kernel_rfl) (by kernel_rfl) (kc (by kernel_rfl) h)
def l10 : Nat → List Nat
  | 2 => [0, 3]
  | _ => []
def u10 : Nat → Bool
  | _ => false
def m10 : Nat → Bool
  | _ => false
def g10 : Cfg := { N := 56, live := l10, cut := u10, mu := m10, ret := rets }
def c10 : Code := bodyOf Tryz.f10
def q10_0 (n : Nat) (Post : PT) : AQ := endQ prog (resultsOf Tryz.f10) Post
def q10_1 (n : Nat) (Post : PT) : AQ := seqQ (fun s' H' => awp prog g10 n (codeSnd (codeSnd c10)) s' H' (q10_0 n Post)) (q10_0 n Post)
def q10_2 (n : Nat) (Post : PT) : AQ := blockQ 0 (q10_1 n Post)
def c10_2 : Code := codeFst (codeSnd (codeFst (codeSnd c10)))
theorem s10 : ∀ (l : List T.Need) (Post : PT),
  AWP prog 56 0 c10_2 [(0, .sl 2 (.map T.encN ([], []) l) .none), (3, .int .i64 0)] [] (q10_2 0 Post) → ASpec prog 10 [.sl 2 (.map T.encN ([], []) l) .none] [] Post := fun l Post h => ASpec.of_vc g10 Tryz.func10 (by kernel_rfl) (by kernel_rfl) (by kernel_rfl) (kc (by kernel_rfl) h)
theorem v10_2 : ∀ (l : List T.Need) (i : Int) (n : Nat) (Post : PT),
  condP (decide (i < (↑l.length : Int))) (needP (0 ≤ i ∧ i < (↑l.length : Int)) (ASpec prog 41 [AV.str ⟨(l.getD i.toNat ([], [])).1.toArray⟩] [] fun r H' => ∃ (x : Bool), r = AV.bool x ∧ H' = [] ∧ condP (!x) (Post (.bool false) []) (needP (0 ≤ i ∧ i < (↑l.length : Int)) (ASpec prog 42 [AV.sl 2 (.map T.encS (0, 0) (l.getD i.toNat ([], [])).2) .none] [] fun r H' => ∃ (x : Bool), r = AV.bool x ∧ H' = [] ∧ condP (!x) (Post (.bool false) []) (needP (0 ≤ i ∧ i < (↑l.length : Int)) (condP (decide ((↑(List.length (l.getD i.toNat ([], [])).2) : Int) > (6 : Int))) (Post (.bool false) []) (condP (decide (i > (0 : Int))) (needP (0 ≤ i ∧ i < (↑l.length : Int)) (needP ((0 : Int) ≤ IntKind.wrap .i64 (i - (1 : Int)) ∧ IntKind.wrap .i64 (i - (1 : Int)) < (↑l.length : Int)) (condP (Op.bytesLess (ByteArray.toList ⟨(l.getD i.toNat ([], [])).1.toArray⟩) (ByteArray.toList { data := List.toArray (Prod.fst (l.getD (Int.toNat (IntKind.wrap .i64 (i - (1 : Int)))) ([], []))) }) || ByteArray.toList ⟨(l.getD i.toNat ([], [])).1.toArray⟩ == ByteArray.toList { data := List.toArray (Prod.fst (l.getD (Int.toNat (IntKind.wrap .i64 (i - (1 : Int)))) ([], []))) }) (Post (.bool false) []) (AWP prog 56 n c10_2 [(0, .sl 2 (.map T.encN ([], []) l) .none), (3, .int .i64 (IntKind.wrap .i64 (i + (1 : Int))))] [] (q10_2 n Post))))) (AWP prog 56 n c10_2 [(0, .sl 2 (.map T.encN ([], []) l) .none), (3, .int .i64 (IntKind.wrap .i64 (i + (1 : Int))))] [] (q10_2 n Post))))))))) (Post (.bool (decide ((↑l.length : Int) ≤ (6 : Int)))) []) → AWP prog 56 n c10_2 [(0, .sl 2 (.map T.encN ([], []) l) .none), (3, .int .i64 i)] [] (q10_2 n Post) := fun l i n Post h => AWP.loop' g10 (Cfg.live g10) c10_2 (by kernel_rfl) (by kernel_rfl) (kc (by kernel_rfl) h)
def l181 : Nat → List Nat
  | 3 => [1, 3, 7, 8, 9]
  | _ => []
def u181 : Nat → Bool
  | _ => false
def m181 : Nat → Bool
  | _ => false
def g181 : Cfg := { N := 40, live := l181, cut := u181, mu := m181, ret := rets }
def c181 : Code := bodyOf Tryz.f181
def q181_0 (n : Nat) (Post : PT) : AQ := endQ prog (resultsOf Tryz.f181) Post
def q181_1 (n : Nat) (Post : PT) : AQ := seqQ (fun s' H' => awp prog g181 n (codeSnd (codeSnd (codeSnd c181))) s' H' (q181_0 n Post)) (q181_0 n Post)
def q181_2 (n : Nat) (Post : PT) : AQ := blockQ 0 (q181_1 n Post)
def c181_3 : Code := codeFst (codeSnd (codeFst (codeSnd (codeSnd c181))))
theorem s181 : ∀ (m : T.Mani) (Post : PT),
  AWP prog 40 0 c181_3 [(1, .ptr 0 0), (3, .int .i64 (-1)), (7, .sl 2 (.map T.encR (0, []) m.2) .none), (8, .int .i64 m.2.length), (9, .int .i64 0)] [AObj.cells [AV.str ⟨m.1.toArray⟩, .sl 2 (.map T.encR (0, []) m.2) .none]] (q181_2 0 Post) → ASpec prog 181 [.agg (T.encM m)] [] Post := fun m Post h => ASpec.of_vc g181 Tryz.func181 (by kernel_rfl) (by kernel_rfl) (by kernel_rfl) (kc (by kernel_rfl) h)
theorem v181_3 : ∀ (m : T.Mani) (e n i : Int) (n_1 : Nat) (Post : PT),
  condP (decide (i < n)) (needP (0 ≤ i ∧ i < (↑m.2.length : Int)) (condP (decide ((m.2.getD i.toNat ((0 : Int), [])).1 ≤ e)) (Post (.bool false) [AObj.cells [.str ⟨m.1.toArray⟩, .sl 2 (.map T.encR (0, []) m.2) .none], .cells [.int .i64 (m.2.getD i.toNat ((0 : Int), [])).1, AV.sl 2 (.map T.encN ([], []) (m.2.getD i.toNat ((0 : Int), [])).2) .none]]) (condP (decide ((m.2.getD i.toNat ((0 : Int), [])).1 ≥ (1000000000 : Int))) (Post (.bool false) [AObj.cells [.str ⟨m.1.toArray⟩, .sl 2 (.map T.encR (0, []) m.2) .none], .cells [.int .i64 (m.2.getD i.toNat ((0 : Int), [])).1, AV.sl 2 (.map T.encN ([], []) (m.2.getD i.toNat ((0 : Int), [])).2) .none]]) (ASpec prog 213 [.sl 2 (.map T.encN ([], []) (m.2.getD i.toNat ((0 : Int), [])).2) .none] [AObj.cells [.str ⟨m.1.toArray⟩, .sl 2 (.map T.encR (0, []) m.2) .none], .cells [.int .i64 (m.2.getD i.toNat ((0 : Int), [])).1, AV.sl 2 (.map T.encN ([], []) (m.2.getD i.toNat ((0 : Int), [])).2) .none]] fun r H' => ∃ (x : Bool), r = AV.bool x ∧ H' = [AObj.cells [.str ⟨m.1.toArray⟩, .sl 2 (.map T.encR (0, []) m.2) .none], .cells [.int .i64 (m.2.getD i.toNat ((0 : Int), [])).1, AV.sl 2 (.map T.encN ([], []) (m.2.getD i.toNat ((0 : Int), [])).2) .none]] ∧ condP (!x) (Post (.bool false) [AObj.cells [.str ⟨m.1.toArray⟩, .sl 2 (.map T.encR (0, []) m.2) .none], .cells [.int .i64 (m.2.getD i.toNat ((0 : Int), [])).1, AV.sl 2 (.map T.encN ([], []) (m.2.getD i.toNat ((0 : Int), [])).2) .none]]) (AWP prog 40 n_1 c181_3 [(1, .ptr 0 0), (3, .int .i64 (m.2.getD i.toNat ((0 : Int), [])).1), (7, .sl 2 (.map T.encR (0, []) m.2) .none), (8, .int .i64 n), (9, .int .i64 (IntKind.wrap .i64 (i + (1 : Int))))] [AObj.cells [.str ⟨m.1.toArray⟩, .sl 2 (.map T.encR (0, []) m.2) .none], .cells [.int .i64 (m.2.getD i.toNat ((0 : Int), [])).1, AV.sl 2 (.map T.encN ([], []) (m.2.getD i.toNat ((0 : Int), [])).2) .none]] (q181_2 n_1 Post)))))) (ASpec prog 51 [.str ⟨m.1.toArray⟩] [AObj.cells [AV.str ⟨m.1.toArray⟩, .sl 2 (.map T.encR (0, []) m.2) .none]] fun r H' => ∃ (x : Bool), r = AV.bool x ∧ H' = [AObj.cells [.str ⟨m.1.toArray⟩, .sl 2 (.map T.encR (0, []) m.2) .none]] ∧ condP x (Post (.bool (decide ((↑m.2.length : Int) ≤ (8 : Int)))) [AObj.cells [AV.str ⟨m.1.toArray⟩, .sl 2 (.map T.encR (0, []) m.2) .none]]) (Post (.bool false) [AObj.cells [.str ⟨m.1.toArray⟩, .sl 2 (.map T.encR (0, []) m.2) .none]])) → AWP prog 40 n_1 c181_3 [(1, .ptr 0 0), (3, .int .i64 e), (7, .sl 2 (.map T.encR (0, []) m.2) .none), (8, .int .i64 n), (9, .int .i64 i)] [AObj.cells (T.encM m)] (q181_2 n_1 Post) := fun m e n i n Post h => AWP.loop' g181 (Cfg.live g181) c181_3 (by kernel_rfl) (by kernel_rfl) (kc (by kernel_rfl) h)
def l191 : Nat → List Nat
  | 2 => [1, 3]
  | _ => []
def u191 : Nat → Bool
  | _ => false
def m191 : Nat → Bool
  | _ => false
def g191 : Cfg := { N := 52, live := l191, cut := u191, mu := m191, ret := rets }
def c191 : Code := bodyOf Tryz.f191
def q191_0 (n : Nat) (Post : PT) : AQ := endQ prog (resultsOf Tryz.f191) Post
def q191_1 (n : Nat) (Post : PT) : AQ := seqQ (fun s' H' => awp prog g191 n (codeSnd (codeSnd c191)) s' H' (q191_0 n Post)) (q191_0 n Post)
def q191_2 (n : Nat) (Post : PT) : AQ := blockQ 0 (q191_1 n Post)
def c191_2 : Code := codeFst (codeSnd (codeFst (codeSnd c191)))
theorem s191 : ∀ (m : T.Mani) (Post : PT),
  AWP prog 52 0 c191_2 [(1, .ptr 0 0), (3, .int .i64 0)] [AObj.cells [.str ⟨m.1.toArray⟩, .sl 2 (.map T.encR (0, []) m.2) .none]] (q191_2 0 Post) → ASpec prog 191 [.agg (T.encM m)] [] Post := fun m Post h => ASpec.of_vc g191 Tryz.func191 (by kernel_rfl) (by kernel_rfl) (by kernel_rfl) (kc (by kernel_rfl) h)
theorem v191_2 : ∀ (m : T.Mani) (i : Int) (n : Nat) (Post : PT),
  condP (decide (i < (↑m.2.length : Int))) (needP (0 ≤ i ∧ i < (↑m.2.length : Int)) (ASpec prog 74 [AV.int .i64 (m.2.getD i.toNat ((0 : Int), [])).1] [AObj.cells [AV.str ⟨m.1.toArray⟩, .sl 2 (.map T.encR (0, []) m.2) .none], .cells [.int .i64 (m.2.getD i.toNat ((0 : Int), [])).1, AV.sl 2 (.map T.encN ([], []) (m.2.getD i.toNat ((0 : Int), [])).2) .none]] fun r H' => ∃ (x : Bool), r = AV.bool x ∧ H' = [AObj.cells [.str ⟨m.1.toArray⟩, .sl 2 (.map T.encR (0, []) m.2) .none], .cells [.int .i64 (m.2.getD i.toNat ((0 : Int), [])).1, AV.sl 2 (.map T.encN ([], []) (m.2.getD i.toNat ((0 : Int), [])).2) .none]] ∧ condP (!x) (Post (.bool false) [AObj.cells [.str ⟨m.1.toArray⟩, .sl 2 (.map T.encR (0, []) m.2) .none], .cells [.int .i64 (m.2.getD i.toNat ((0 : Int), [])).1, AV.sl 2 (.map T.encN ([], []) (m.2.getD i.toNat ((0 : Int), [])).2) .none]]) (ASpec prog 10 [.sl 2 (.map T.encN ([], []) (m.2.getD i.toNat ((0 : Int), [])).2) .none] [AObj.cells [.str ⟨m.1.toArray⟩, .sl 2 (.map T.encR (0, []) m.2) .none], .cells [.int .i64 (m.2.getD i.toNat ((0 : Int), [])).1, AV.sl 2 (.map T.encN ([], []) (m.2.getD i.toNat ((0 : Int), [])).2) .none]] fun r H' => ∃ (x : Bool), r = AV.bool x ∧ H' = [AObj.cells [.str ⟨m.1.toArray⟩, .sl 2 (.map T.encR (0, []) m.2) .none], .cells [.int .i64 (m.2.getD i.toNat ((0 : Int), [])).1, AV.sl 2 (.map T.encN ([], []) (m.2.getD i.toNat ((0 : Int), [])).2) .none]] ∧ condP (!x) (Post (.bool false) [AObj.cells [.str ⟨m.1.toArray⟩, .sl 2 (.map T.encR (0, []) m.2) .none], .cells [.int .i64 (m.2.getD i.toNat ((0 : Int), [])).1, AV.sl 2 (.map T.encN ([], []) (m.2.getD i.toNat ((0 : Int), [])).2) .none]]) (condP (decide (i > (0 : Int))) (needP ((0 : Int) ≤ IntKind.wrap .i64 (i - (1 : Int)) ∧ IntKind.wrap .i64 (i - (1 : Int)) < (↑m.2.length : Int)) (condP (decide ((m.2.getD i.toNat ((0 : Int), [])).1 ≤ Prod.fst (m.2.getD (Int.toNat (IntKind.wrap .i64 (i - (1 : Int)))) ((0 : Int), [])))) (Post (.bool false) [AObj.cells [.str ⟨m.1.toArray⟩, .sl 2 (.map T.encR (0, []) m.2) .none], .cells [.int .i64 (m.2.getD i.toNat ((0 : Int), [])).1, AV.sl 2 (.map T.encN ([], []) (m.2.getD i.toNat ((0 : Int), [])).2) .none]]) (AWP prog 52 n c191_2 [(1, .ptr 0 0), (3, .int .i64 (IntKind.wrap .i64 (i + (1 : Int))))] [AObj.cells [.str ⟨m.1.toArray⟩, .sl 2 (.map T.encR (0, []) m.2) .none], .cells [.int .i64 (m.2.getD i.toNat ((0 : Int), [])).1, AV.sl 2 (.map T.encN ([], []) (m.2.getD i.toNat ((0 : Int), [])).2) .none]] (q191_2 n Post)))) (AWP prog 52 n c191_2 [(1, .ptr 0 0), (3, .int .i64 (IntKind.wrap .i64 (i + (1 : Int))))] [AObj.cells [.str ⟨m.1.toArray⟩, .sl 2 (.map T.encR (0, []) m.2) .none], .cells [.int .i64 (m.2.getD i.toNat ((0 : Int), [])).1, AV.sl 2 (.map T.encN ([], []) (m.2.getD i.toNat ((0 : Int), [])).2) .none]] (q191_2 n Post)))))) (ASpec prog 41 [.str ⟨m.1.toArray⟩] [AObj.cells [AV.str ⟨m.1.toArray⟩, .sl 2 (.map T.encR (0, []) m.2) .none]] fun r H' => ∃ (x : Bool), r = AV.bool x ∧ H' = [AObj.cells [.str ⟨m.1.toArray⟩, .sl 2 (.map T.encR (0, []) m.2) .none]] ∧ condP x (Post (.bool (decide ((↑m.2.length : Int) ≤ (8 : Int)))) [AObj.cells [AV.str ⟨m.1.toArray⟩, .sl 2 (.map T.encR (0, []) m.2) .none]]) (Post (.bool false) [AObj.cells [.str ⟨m.1.toArray⟩, .sl 2 (.map T.encR (0, []) m.2) .none]])) → AWP prog 52 n c191_2 [(1, .ptr 0 0), (3, .int .i64 i)] [AObj.cells (T.encM m)] (q191_2 n Post) := fun m i n Post h => AWP.loop' g191 (Cfg.live g191) c191_2 (by kernel_rfl) (by kernel_rfl) (kc (by kernel_rfl) h)
def l74 : Nat → List Nat
  | _ => []
def u74 : Nat → Bool
  | _ => false
def m74 : Nat → Bool
  | _ => false
def g74 : Cfg := { N := 9, live := l74, cut := u74, mu := m74, ret := rets }
theorem s74 : ∀ (x : Int) (Post : PT),
  condP (decide (x ≥ (0 : Int))) (Post (.bool (decide (x < (1000000000 : Int)))) []) (Post (.bool false) []) → ASpec prog 74 [.int .i64 x] [] Post := fun x Post h => ASpec.of_vc g74 Tryz.func74 (by kernel_rfl) (by kernel_rfl) (by kernel_rfl) (kc (by kernel_rfl) h)
def l9 : Nat → List Nat
  | 4 => [0, 3]
  | _ => []
def u9 : Nat → Bool
  | _ => false
def m9 : Nat → Bool
  | _ => false
def g9 : Cfg := { N := 29, live := l9, cut := u9, mu := m9, ret := rets }
def c9 : Code := bodyOf Tryz.f9
def q9_0 (n : Nat) (Post : PT) : AQ := endQ prog (resultsOf Tryz.f9) Post
def q9_1 (n : Nat) (Post : PT) : AQ := seqQ (fun s' H' => awp prog g9 n (codeSnd (codeSnd (codeSnd c9))) s' H' (q9_0 n Post)) (q9_0 n Post)
def q9_2 (n : Nat) (Post : PT) : AQ := blockQ 0 (q9_1 n Post)
def c9_4 : Code := codeFst (codeSnd (codeFst (codeSnd (codeSnd c9))))
theorem s9 : ∀ (l : List T.Need) (Post : PT),
  condP (decide ((↑l.length : Int) > (40 : Int))) (Post (.bool true) []) (AWP prog 29 0 c9_4 [(0, .sl 2 (.map T.encN ([], []) l) .none), (3, .int .i64 0)] [] (q9_2 0 Post)) → ASpec prog 9 [.sl 2 (.map T.encN ([], []) l) .none] [] Post := fun l Post h => ASpec.of_vc g9 Tryz.func9 (by kernel_rfl) (by kernel_rfl) (by kernel_rfl) (kc (by kernel_rfl) h)
theorem v9_4 : ∀ (l : List T.Need) (i : Int) (n : Nat) (Post : PT),
  condP (decide (i < (↑l.length : Int))) (needP (0 ≤ i ∧ i < (↑l.length : Int)) (condP (decide ((↑(List.length (l.getD i.toNat ([], [])).2) : Int) > (40 : Int))) (Post (.bool true) []) (needP (0 ≤ i ∧ i < (↑l.length : Int)) (condP (decide ((↑(ByteArray.size ⟨(l.getD i.toNat ([], [])).1.toArray⟩) : Int) > (100 : Int))) (Post (.bool true) []) (AWP prog 29 n c9_4 [(0, .sl 2 (.map T.encN ([], []) l) .none), (3, .int .i64 (IntKind.wrap .i64 (i + (1 : Int))))] [] (q9_2 n Post)))))) (Post (.bool false) []) → AWP prog 29 n c9_4 [(0, .sl 2 (.map T.encN ([], []) l) .none), (3, .int .i64 i)] [] (q9_2 n Post) := fun l i n Post h => AWP.loop' g9 (Cfg.live g9) c9_4 (by kernel_rfl) (by kernel_rfl) (kc (by kernel_rfl) h)
def l34 : Nat → List Nat
  | 4 => [0, 1, 5]
  | _ => []
def u34 : Nat → Bool
  | _ => false
def m34 : Nat → Bool
  | _ => false
def g34 : Cfg := { N := 26, live := l34, cut := u34, mu := m34, ret := rets }
def c34 : Code := bodyOf Tryz.f34
def q34_0 (n : Nat) (Post : PT) : AQ := endQ prog (resultsOf Tryz.f34) Post
def q34_1 (n : Nat) (Post : PT) : AQ := seqQ (fun s' H' => awp prog g34 n (codeSnd (codeSnd (codeSnd c34))) s' H' (q34_0 n Post)) (q34_0 n Post)
def q34_2 (n : Nat) (Post : PT) : AQ := blockQ 0 (q34_1 n Post)
def c34_4 : Code := codeFst (codeSnd (codeFst (codeSnd (codeSnd c34))))
theorem s34 : ∀ (a b : List T.Span) (Post : PT),
  condP ((↑a.length : Int) != (↑b.length : Int)) (Post (.bool false) []) (AWP prog 26 0 c34_4 [(0, .sl 2 (.map T.encS (0, 0) a) .none), (1, .sl 2 (.map T.encS (0, 0) b) .none), (5, .int .i64 0)] [] (q34_2 0 Post)) → ASpec prog 34 [.sl 2 (.map T.encS (0, 0) a) .none, .sl 2 (.map T.encS (0, 0) b) .none] [] Post := fun a b Post h => ASpec.of_vc g34 Tryz.func34 (by kernel_rfl) (by kernel_rfl) (by kernel_rfl) (kc (by kernel_rfl) h)
theorem v34_4 : ∀ (a b : List T.Span) (i : Int) (n : Nat) (Post : PT),
  condP (decide (i < (↑a.length : Int))) (needP (0 ≤ i ∧ i < (↑a.length : Int)) (needP (0 ≤ i ∧ i < (↑b.length : Int)) (condP (!((a.getD i.toNat ((0 : Int), (0 : Int))).1 == (b.getD i.toNat ((0 : Int), (0 : Int))).1 && ((a.getD i.toNat ((0 : Int), (0 : Int))).2 == (b.getD i.toNat ((0 : Int), (0 : Int))).2 && true))) (Post (.bool false) []) (AWP prog 26 n c34_4 [(0, .sl 2 (.map T.encS (0, 0) a) .none), (1, .sl 2 (.map T.encS (0, 0) b) .none), (5, .int .i64 (IntKind.wrap .i64 (i + (1 : Int))))] [] (q34_2 n Post))))) (Post (.bool true) []) → AWP prog 26 n c34_4 [(0, .sl 2 (.map T.encS (0, 0) a) .none), (1, .sl 2 (.map T.encS (0, 0) b) .none), (5, .int .i64 i)] [] (q34_2 n Post) := fun a b i n Post h => AWP.loop' g34 (Cfg.live g34) c34_4 (by kernel_rfl) (by kernel_rfl) (kc (by kernel_rfl) h)
end
end C
end

noncomputable section
open Go Go.Ab Go.Proofs
open Go.Proofs.Tryz (prog)
namespace W
noncomputable section
def updC (args : List AV) (H : List AObj) (p e : Int) : List AObj := match args with
  | .ptr c _ :: _ => match H[c]? with
    | some (.cells [.ptr id off]) => V.upd3 [.ptr id off] H p e
    | _ => H
  | _ => H
def tl (args : List AV) : List AV := match args with
  | _ :: r => r
  | _ => []
def HR (bs : List UInt8) (p e : Int) : List AObj := [V.rd bs p e, .cells [.ptr 0 0], .cells [.fn 171 [.ptr 1 0]], .cells [.fn 173 [.ptr 1 0]], .cells [.fn 175 [.ptr 2 0, .ptr 1 0, .ptr 3 0]]]
def retW : List (Nat × Ret) := [
  (18039, ⟨Unit, fun _ _ _ => .bool true, fun _ H _ => H⟩),
  (137, ⟨T.Mani × Int, fun _ _ x => .tup [.agg (T.encM x.1), .int .i64 x.2], fun _ H _ => H⟩),
  (146, ⟨T.Mani × Int, fun _ _ x => .tup [.agg (T.encM x.1), .int .i64 x.2], fun _ H _ => H⟩),
  (9184, ⟨List UInt8, fun _ _ x => .sl 1 (.map encB 0 x) .none, fun _ H _ => H⟩),
  (9172, ⟨ByteArray, fun _ _ x => .str x, fun _ H _ => H⟩),
  (171, ⟨ByteArray × Int × Int, fun _ _ x => .str x.1, fun a H x => updC a H x.2.1 x.2.2⟩),
  (173, ⟨T.Span × Int × Int, fun _ _ x => .agg (T.encS x.1), fun a H x => updC a H x.2.1 x.2.2⟩),
  (175, ⟨T.Need × Int × Int, fun _ _ x => .agg (T.encN x.1), fun a H x => updC (tl a) H x.2.1 x.2.2⟩),
  (178, ⟨T.Rel × Int × Int, fun _ _ x => .agg (T.encR x.1), fun a H x => updC a H x.2.1 x.2.2⟩),
  (176, ⟨List T.Span × Int × Int, fun _ _ x => .sl 2 (.map T.encS (0, 0) x.1) .none, fun a H x => V.upd3 a H x.2.1 x.2.2⟩),
  (179, ⟨List T.Need × Int × Int, fun _ _ x => .sl 2 (.map T.encN ([], []) x.1) .none, fun a H x => V.upd3 a H x.2.1 x.2.2⟩),
  (177, ⟨List T.Rel × Int × Int, fun _ _ x => .sl 2 (.map T.encR (0, []) x.1) .none, fun a H x => V.upd3 a H x.2.1 x.2.2⟩),
  (189, ⟨List T.Need × ByteArray × Int, fun _ _ x => .sl 2 (.map T.encN ([], []) x.1) .none, fun a H x => V.upd2 a H x.2.1 x.2.2⟩),
  (9264, ⟨ByteArray, fun _ _ x => .str x, fun _ H _ => H⟩)]
def rets : FuncId → List Ret := lookupR (retW ++ C.retC ++ V.retL)
def l171 : Nat → List Nat
  | _ => []
def u171 : Nat → Bool
  | _ => false
def m171 : Nat → Bool
  | _ => false
def g171 : Cfg := { N := 4, live := l171, cut := u171, mu := m171, ret := rets }
abbrev hps1710 (bs : List UInt8) (x : ByteArray × Int × Int) : List AObj := [AObj.cells [.sl 1 (.map encB 0 bs) .none, .int .i64 x.2.1, .int .i64 x.2.2], .cells [.ptr 0 0], .cells [.fn (171 : FuncId) [.ptr 1 0]], .cells [.fn (173 : FuncId) [.ptr 1 0]], .cells [.fn (175 : FuncId) [.ptr 2 0, .ptr 1 0, .ptr 3 0]]]
theorem s171 : ∀ (bs : List UInt8) (p e : Int) (Post : PT),
  (ASpec prog 172 [.ptr 0 0, .int .i64 24] [AObj.cells [.sl 1 (.map encB 0 bs) .none, .int .i64 p, AV.int .i64 e], .cells [.ptr 0 0], .cells [.fn (171 : FuncId) [.ptr 1 0]], .cells [.fn (173 : FuncId) [.ptr 1 0]], .cells [.fn (175 : FuncId) [.ptr 2 0, .ptr 1 0, .ptr 3 0]]] fun r H' => ∃ (x : ByteArray × Int × Int), r = AV.str x.1 ∧ H' = (hps1710 bs x) ∧ Post (.str x.1) (hps1710 bs x)) → ASpec prog 171 [.ptr 1 0] (HR bs p e) Post := fun bs p e Post h => ASpec.of_vc g171 Tryz.func171 (by kernel_rfl) (by kernel_rfl) (by kernel_rfl) (kc (by kernel_rfl) h)
def l173 : Nat → List Nat
  | _ => []
def u173 : Nat → Bool
  | _ => false
def m173 : Nat → Bool
  | _ => false
def g173 : Cfg := { N := 11, live := l173, cut := u173, mu := m173, ret := rets }
abbrev hps1730 (bs : List UInt8) (x : Int × Int × Int) : List AObj := [AObj.cells [.sl 1 (.map encB 0 bs) .none, .int .i64 x.2.1, .int .i64 x.2.2], .cells [.ptr 0 0], .cells [.fn (171 : FuncId) [.ptr 1 0]], .cells [.fn (173 : FuncId) [.ptr 1 0]], .cells [.fn (175 : FuncId) [.ptr 2 0, .ptr 1 0, .ptr 3 0]], .cells [.int .i64 0, .int .i64 0]]
theorem s173 : ∀ (bs : List UInt8) (p e : Int) (Post : PT),
  (ASpec prog 174 [.ptr 0 0, .int .i64 1000000000] [AObj.cells [.sl 1 (.map encB 0 bs) .none, .int .i64 p, AV.int .i64 e], .cells [.ptr 0 0], .cells [.fn (171 : FuncId) [.ptr 1 0]], .cells [.fn (173 : FuncId) [.ptr 1 0]], .cells [.fn (175 : FuncId) [.ptr 2 0, .ptr 1 0, .ptr 3 0]], .cells [.int .i64 0, .int .i64 0]] fun r H' => ∃ (x : Int × Int × Int), r = AV.int .i64 x.1 ∧ H' = (hps1730 bs x) ∧ ASpec prog 174 [.ptr 0 0, .int .i64 1000000000] (hps1730 bs x) fun r H' => ∃ (x_1 : Int × Int × Int), r = AV.int .i64 x_1.1 ∧ H' = [AObj.cells [.sl 1 (.map encB 0 bs) .none, .int .i64 x_1.2.1, .int .i64 x_1.2.2], .cells [.ptr 0 0], .cells [.fn (171 : FuncId) [.ptr 1 0]], .cells [.fn (173 : FuncId) [.ptr 1 0]], .cells [.fn (175 : FuncId) [.ptr 2 0, .ptr 1 0, .ptr 3 0]], .cells [.int .i64 0, .int .i64 0]] ∧ Post (.agg [.int .i64 x.1, .int .i64 (IntKind.wrap .i64 (Prod.fst x + Prod.fst x_1))]) [AObj.cells [.sl 1 (.map encB 0 bs) .none, .int .i64 x_1.2.1, .int .i64 x_1.2.2], .cells [.ptr 0 0], .cells [.fn (171 : FuncId) [.ptr 1 0]], .cells [.fn (173 : FuncId) [.ptr 1 0]], .cells [.fn (175 : FuncId) [.ptr 2 0, .ptr 1 0, .ptr 3 0]], .cells [.int .i64 x.1, .int .i64 (IntKind.wrap .i64 (Prod.fst x + Prod.fst x_1))]]) → ASpec prog 173 [.ptr 1 0] (HR bs p e) Post := fun bs p e Post h => ASpec.of_vc g173 Tryz.func173 (by kernel_rfl) (by kernel_rfl) (by kernel_rfl) (kc (by kernel_rfl) h)
def l176 : Nat → List Nat
  | 3 => [0, 2, 7, 8]
  | _ => []
def u176 : Nat → Bool
  | _ => false
def m176 : Nat → Bool
  | _ => false
def g176 : Cfg := { N := 27, live := l176, cut := u176, mu := m176, ret := rets }
def c176 : Code := bodyOf Tryz.f176
def q176_0 (n : Nat) (Post : PT) : AQ := endQ prog (resultsOf Tryz.f176) Post
def q176_1 (n : Nat) (Post : PT) : AQ := seqQ (fun s' H' => awp prog g176 n (codeSnd (codeSnd (codeSnd c176))) s' H' (q176_0 n Post)) (q176_0 n Post)
def q176_2 (n : Nat) (Post : PT) : AQ := blockQ 0 (q176_1 n Post)
def c176_3 : Code := codeFst (codeSnd (codeFst (codeSnd (codeSnd c176))))
abbrev hps1760 (bs : List UInt8) (x : Int × Int × Int) : List AObj := [AObj.cells [.sl 1 (.map encB 0 bs) .none, .int .i64 x.2.1, .int .i64 x.2.2], .cells [.ptr 0 0], .cells [.fn (171 : FuncId) [.ptr 1 0]], .cells [.fn (173 : FuncId) [.ptr 1 0]], .cells [.fn (175 : FuncId) [.ptr 2 0, .ptr 1 0, .ptr 3 0]]]
theorem s176 : ∀ (bs : List UInt8) (p e most : Int) (Post : PT),
  (ASpec prog 174 [.ptr 0 0, .int .i64 most] [AObj.cells [.sl 1 (.map encB 0 bs) .none, .int .i64 p, AV.int .i64 e], .cells [.ptr 0 0], .cells [.fn (171 : FuncId) [.ptr 1 0]], .cells [.fn (173 : FuncId) [.ptr 1 0]], .cells [.fn (175 : FuncId) [.ptr 2 0, .ptr 1 0, .ptr 3 0]]] fun r H' => ∃ (x : Int × Int × Int), r = AV.int .i64 x.1 ∧ H' = (hps1760 bs x) ∧ AWP prog 27 5 c176_3 [(0, .ptr 0 0), (2, .fn (173 : FuncId) [.ptr 1 0]), (7, .sl 0 (.raw []) .nil), (8, .int .i64 x.1)] (hps1760 bs x) (q176_2 5 Post)) → ASpec prog 176 [.ptr 0 0, .int .i64 most, AV.fn (173 : FuncId) [.ptr 1 0]] (HR bs p e) Post := fun bs p e most Post h => ASpec.of_vc g176 Tryz.func176 (by kernel_rfl) (by kernel_rfl) (by kernel_rfl) (kc (by kernel_rfl) h)
abbrev hpv176_30 (bs : List UInt8) (p : Int) (e : Int) : List AObj := [AObj.cells [.sl 1 (.map encB 0 bs) .none, .int .i64 p, AV.int .i64 e], .cells [.ptr 0 0], .cells [.fn (171 : FuncId) [.ptr 1 0]], .cells [.fn (173 : FuncId) [.ptr 1 0]], .cells [.fn (175 : FuncId) [.ptr 2 0, .ptr 1 0, .ptr 3 0]], .tok]
theorem v176_3 : ∀ (bs : List UInt8) (p e : Int) (acc : List T.Span) (n : Int) (n_1 : Nat) (Post : PT),
  condP (decide (n > (0 : Int))) (ASpec prog 211 [.ptr 0 0] (hpv176_30 bs p e) fun r H' => ∃ (x : Int), r = AV.int .i64 x ∧ H' = (hpv176_30 bs p e) ∧ condP (x == (0 : Int)) (ASpec prog 173 [.ptr 1 0] (hpv176_30 bs p e) fun r H' => ∃ (x : T.Span × Int × Int), r = AV.agg [.int .i64 x.1.1, .int .i64 x.1.2] ∧ H' = [AObj.cells [.sl 1 (.map encB 0 bs) .none, .int .i64 x.2.1, .int .i64 x.2.2], .cells [.ptr 0 0], .cells [.fn (171 : FuncId) [.ptr 1 0]], .cells [.fn (173 : FuncId) [.ptr 1 0]], .cells [.fn (175 : FuncId) [.ptr 2 0, .ptr 1 0, .ptr 3 0]], .tok] ∧ needP ((List.length acc + 1) * 16 ≤ 140737488351232) (AWP prog 27 n_1 c176_3 [(0, .ptr 0 0), (2, .fn (173 : FuncId) [.ptr 1 0]), (7, AV.sl 2 (.app (.map T.encS (0, 0) acc) (.raw [[.int .i64 x.1.1, .int .i64 x.1.2]])) (.tok 6)), (8, .int .i64 (IntKind.wrap .i64 (n - (1 : Int))))] [AObj.cells [.sl 1 (.map encB 0 bs) .none, .int .i64 x.2.1, .int .i64 x.2.2], .cells [.ptr 0 0], .cells [.fn (171 : FuncId) [.ptr 1 0]], .cells [.fn (173 : FuncId) [.ptr 1 0]], .cells [.fn (175 : FuncId) [.ptr 2 0, .ptr 1 0, .ptr 3 0]], .gone, .tok] (q176_2 n_1 Post))) (Post (.sl 2 (.map T.encS (0, 0) acc) (.tok 5)) (hpv176_30 bs p e))) (Post (.sl 2 (.map T.encS (0, 0) acc) (.tok 5)) (hpv176_30 bs p e)) → AWP prog 27 n_1 c176_3 [(0, .ptr 0 0), (2, .fn (173 : FuncId) [.ptr 1 0]), (7, .sl 2 (.map T.encS (0, 0) acc) (.tok 5)), (8, .int .i64 n)] (HR bs p e ++ [AObj.tok]) (q176_2 n_1 Post) := fun bs p e acc n n Post h => AWP.loop' g176 (Cfg.live g176) c176_3 (by kernel_rfl) (by kernel_rfl) (kc (by kernel_rfl) h)
def l175 : Nat → List Nat
  | _ => []
def u175 : Nat → Bool
  | _ => false
def m175 : Nat → Bool
  | _ => false
def g175 : Cfg := { N := 13, live := l175, cut := u175, mu := m175, ret := rets }
theorem s175 : ∀ (bs : List UInt8) (p e : Int) (Post : PT),
  (ASpec prog 171 [.ptr 1 0] [AObj.cells [.sl 1 (.map encB 0 bs) .none, .int .i64 p, AV.int .i64 e], .cells [.ptr 0 0], .cells [.fn (171 : FuncId) [.ptr 1 0]], .cells [.fn (173 : FuncId) [.ptr 1 0]], .cells [.fn (175 : FuncId) [.ptr 2 0, .ptr 1 0, .ptr 3 0]], .cells [.str ⟨#[]⟩, .sl 0 (.raw []) .nil]] fun r H' => ∃ (x : ByteArray × Int × Int), r = AV.str x.1 ∧ H' = [AObj.cells [.sl 1 (.map encB 0 bs) .none, .int .i64 x.2.1, .int .i64 x.2.2], .cells [.ptr 0 0], .cells [.fn (171 : FuncId) [.ptr 1 0]], .cells [.fn (173 : FuncId) [.ptr 1 0]], .cells [.fn (175 : FuncId) [.ptr 2 0, .ptr 1 0, .ptr 3 0]], .cells [.str ⟨#[]⟩, .sl 0 (.raw []) .nil]] ∧ ASpec prog 176 [.ptr 0 0, .int .i64 6, .fn (173 : FuncId) [.ptr 1 0]] [AObj.cells [.sl 1 (.map encB 0 bs) .none, .int .i64 x.2.1, .int .i64 x.2.2], .cells [.ptr 0 0], .cells [.fn (171 : FuncId) [.ptr 1 0]], .cells [.fn (173 : FuncId) [.ptr 1 0]], .cells [.fn (175 : FuncId) [.ptr 2 0, .ptr 1 0, .ptr 3 0]], .cells [.str ⟨#[]⟩, .sl 0 (.raw []) .nil], .cells [.str x.1, .sl 0 (.raw []) .nil]] fun r H' => ∃ (x_1 : List T.Span × Int × Int), r = AV.sl 2 (.map T.encS (0, 0) x_1.1) .none ∧ H' = [AObj.cells [.sl 1 (.map encB 0 bs) .none, .int .i64 x_1.2.1, .int .i64 x_1.2.2], .cells [.ptr 0 0], .cells [.fn (171 : FuncId) [.ptr 1 0]], .cells [.fn (173 : FuncId) [.ptr 1 0]], .cells [.fn (175 : FuncId) [.ptr 2 0, .ptr 1 0, .ptr 3 0]], .cells [.str ⟨#[]⟩, .sl 0 (.raw []) .nil], .cells [.str x.1, .sl 0 (.raw []) .nil]] ∧ Post (.agg [.str x.1, .sl 2 (.map T.encS (0, 0) x_1.1) .none]) [AObj.cells [.sl 1 (.map encB 0 bs) .none, .int .i64 x_1.2.1, .int .i64 x_1.2.2], .cells [.ptr 0 0], .cells [.fn (171 : FuncId) [.ptr 1 0]], .cells [.fn (173 : FuncId) [.ptr 1 0]], .cells [.fn (175 : FuncId) [.ptr 2 0, .ptr 1 0, .ptr 3 0]], .cells [.str x.1, .sl 2 (.map T.encS (0, 0) x_1.1) .none], .cells [.str x.1, .sl 2 (.map T.encS (0, 0) x_1.1) .none]]) → ASpec prog 175 [.ptr 2 0, .ptr 1 0, .ptr 3 0] (HR bs p e) Post := fun bs p e Post h => ASpec.of_vc g175 Tryz.func175 (by kernel_rfl) (by kernel_rfl) (by kernel_rfl) (kc (by kernel_rfl) h)
def l179 : Nat → List Nat
  | 3 => [0, 2, 7, 8]
  | _ => []
def u179 : Nat → Bool
  | _ => false
def m179 : Nat → Bool
  | _ => false
def g179 : Cfg := { N := 27, live := l179, cut := u179, mu := m179, ret := rets }
def c179 : Code := bodyOf Tryz.f179
def q179_0 (n : Nat) (Post : PT) : AQ := endQ prog (resultsOf Tryz.f179) Post
def q179_1 (n : Nat) (Post : PT) : AQ := seqQ (fun s' H' => awp prog g179 n (codeSnd (codeSnd (codeSnd c179))) s' H' (q179_0 n Post)) (q179_0 n Post)
def q179_2 (n : Nat) (Post : PT) : AQ := blockQ 0 (q179_1 n Post)
def c179_3 : Code := codeFst (codeSnd (codeFst (codeSnd (codeSnd c179))))
abbrev hps1790 (bs : List UInt8) (x : Int × Int × Int) : List AObj := [AObj.cells [.sl 1 (.map encB 0 bs) .none, .int .i64 x.2.1, .int .i64 x.2.2], .cells [.ptr 0 0], .cells [.fn (171 : FuncId) [.ptr 1 0]], .cells [.fn (173 : FuncId) [.ptr 1 0]], .cells [.fn (175 : FuncId) [.ptr 2 0, .ptr 1 0, .ptr 3 0]]]
theorem s179 : ∀ (bs : List UInt8) (p e most : Int) (Post : PT),
  (ASpec prog 174 [.ptr 0 0, .int .i64 most] [AObj.cells [.sl 1 (.map encB 0 bs) .none, .int .i64 p, AV.int .i64 e], .cells [.ptr 0 0], .cells [.fn (171 : FuncId) [.ptr 1 0]], .cells [.fn (173 : FuncId) [.ptr 1 0]], .cells [.fn (175 : FuncId) [.ptr 2 0, .ptr 1 0, .ptr 3 0]]] fun r H' => ∃ (x : Int × Int × Int), r = AV.int .i64 x.1 ∧ H' = (hps1790 bs x) ∧ AWP prog 27 5 c179_3 [(0, .ptr 0 0), (2, .fn (175 : FuncId) [.ptr 2 0, .ptr 1 0, .ptr 3 0]), (7, .sl 0 (.raw []) .nil), (8, .int .i64 x.1)] (hps1790 bs x) (q179_2 5 Post)) → ASpec prog 179 [.ptr 0 0, .int .i64 most, AV.fn (175 : FuncId) [.ptr 2 0, .ptr 1 0, .ptr 3 0]] (HR bs p e) Post := fun bs p e most Post h => ASpec.of_vc g179 Tryz.func179 (by kernel_rfl) (by kernel_rfl) (by kernel_rfl) (kc (by kernel_rfl) h)
abbrev hpv179_30 (bs : List UInt8) (p : Int) (e : Int) : List AObj := [AObj.cells [.sl 1 (.map encB 0 bs) .none, .int .i64 p, AV.int .i64 e], .cells [.ptr 0 0], .cells [.fn (171 : FuncId) [.ptr 1 0]], .cells [.fn (173 : FuncId) [.ptr 1 0]], .cells [.fn (175 : FuncId) [.ptr 2 0, .ptr 1 0, .ptr 3 0]], .tok]
theorem v179_3 : ∀ (bs : List UInt8) (p e : Int) (acc : List T.Need) (n : Int) (n_1 : Nat) (Post : PT),
  condP (decide (n > (0 : Int))) (ASpec prog 211 [.ptr 0 0] (hpv179_30 bs p e) fun r H' => ∃ (x : Int), r = AV.int .i64 x ∧ H' = (hpv179_30 bs p e) ∧ condP (x == (0 : Int)) (ASpec prog 175 [.ptr 2 0, .ptr 1 0, .ptr 3 0] (hpv179_30 bs p e) fun r H' => ∃ (x : T.Need × Int × Int), r = AV.agg [.str ⟨x.1.1.toArray⟩, .sl 2 (.map T.encS (0, 0) x.1.2) .none] ∧ H' = [AObj.cells [.sl 1 (.map encB 0 bs) .none, .int .i64 x.2.1, .int .i64 x.2.2], .cells [.ptr 0 0], .cells [.fn (171 : FuncId) [.ptr 1 0]], .cells [.fn (173 : FuncId) [.ptr 1 0]], .cells [.fn (175 : FuncId) [.ptr 2 0, .ptr 1 0, .ptr 3 0]], .tok] ∧ needP ((List.length acc + 1) * 40 ≤ 140737488351232) (AWP prog 27 n_1 c179_3 [(0, .ptr 0 0), (2, .fn (175 : FuncId) [.ptr 2 0, .ptr 1 0, .ptr 3 0]), (7, AV.sl 2 (.app (.map T.encN ([], []) acc) (.raw [[.str ⟨x.1.1.toArray⟩, .sl 2 (.map T.encS (0, 0) x.1.2) .none]])) (.tok 6)), (8, .int .i64 (IntKind.wrap .i64 (n - (1 : Int))))] [AObj.cells [.sl 1 (.map encB 0 bs) .none, .int .i64 x.2.1, .int .i64 x.2.2], .cells [.ptr 0 0], .cells [.fn (171 : FuncId) [.ptr 1 0]], .cells [.fn (173 : FuncId) [.ptr 1 0]], .cells [.fn (175 : FuncId) [.ptr 2 0, .ptr 1 0, .ptr 3 0]], .gone, .tok] (q179_2 n_1 Post))) (Post (.sl 2 (.map T.encN ([], []) acc) (.tok 5)) (hpv179_30 bs p e))) (Post (.sl 2 (.map T.encN ([], []) acc) (.tok 5)) (hpv179_30 bs p e)) → AWP prog 27 n_1 c179_3 [(0, .ptr 0 0), (2, .fn (175 : FuncId) [.ptr 2 0, .ptr 1 0, .ptr 3 0]), (7, .sl 2 (.map T.encN ([], []) acc) (.tok 5)), (8, .int .i64 n)] (HR bs p e ++ [AObj.tok]) (q179_2 n_1 Post) := fun bs p e acc n n Post h => AWP.loop' g179 (Cfg.live g179) c179_3 (by kernel_rfl) (by kernel_rfl) (kc (by kernel_rfl) h)
def l178 : Nat → List Nat
  | _ => []
def u178 : Nat → Bool
  | _ => false
def m178 : Nat → Bool
  | _ => false
def g178 : Cfg := { N := 12, live := l178, cut := u178, mu := m178, ret := rets }
theorem s178 : ∀ (bs : List UInt8) (p e : Int) (Post : PT),
  (ASpec prog 174 [.ptr 0 0, .int .i64 1000000000] [AObj.cells [.sl 1 (.map encB 0 bs) .none, .int .i64 p, AV.int .i64 e], .cells [.ptr 0 0], .cells [.fn (171 : FuncId) [.ptr 1 0]], .cells [.fn (173 : FuncId) [.ptr 1 0]], .cells [.fn (175 : FuncId) [.ptr 2 0, .ptr 1 0, .ptr 3 0]], .cells [.int .i64 0, .sl 0 (.raw []) .nil]] fun r H' => ∃ (x : Int × Int × Int), r = AV.int .i64 x.1 ∧ H' = [AObj.cells [.sl 1 (.map encB 0 bs) .none, .int .i64 x.2.1, .int .i64 x.2.2], .cells [.ptr 0 0], .cells [.fn (171 : FuncId) [.ptr 1 0]], .cells [.fn (173 : FuncId) [.ptr 1 0]], .cells [.fn (175 : FuncId) [.ptr 2 0, .ptr 1 0, .ptr 3 0]], .cells [.int .i64 0, .sl 0 (.raw []) .nil]] ∧ ASpec prog 179 [.ptr 0 0, .int .i64 6, .fn (175 : FuncId) [.ptr 2 0, .ptr 1 0, .ptr 3 0]] [AObj.cells [.sl 1 (.map encB 0 bs) .none, .int .i64 x.2.1, .int .i64 x.2.2], .cells [.ptr 0 0], .cells [.fn (171 : FuncId) [.ptr 1 0]], .cells [.fn (173 : FuncId) [.ptr 1 0]], .cells [.fn (175 : FuncId) [.ptr 2 0, .ptr 1 0, .ptr 3 0]], .cells [.int .i64 0, .sl 0 (.raw []) .nil], .cells [.int .i64 x.1, .sl 0 (.raw []) .nil]] fun r H' => ∃ (x_1 : List T.Need × Int × Int), r = AV.sl 2 (.map T.encN ([], []) x_1.1) .none ∧ H' = [AObj.cells [.sl 1 (.map encB 0 bs) .none, .int .i64 x_1.2.1, .int .i64 x_1.2.2], .cells [.ptr 0 0], .cells [.fn (171 : FuncId) [.ptr 1 0]], .cells [.fn (173 : FuncId) [.ptr 1 0]], .cells [.fn (175 : FuncId) [.ptr 2 0, .ptr 1 0, .ptr 3 0]], .cells [.int .i64 0, .sl 0 (.raw []) .nil], .cells [.int .i64 x.1, .sl 0 (.raw []) .nil]] ∧ Post (.agg [.int .i64 x.1, .sl 2 (.map T.encN ([], []) x_1.1) .none]) [AObj.cells [.sl 1 (.map encB 0 bs) .none, .int .i64 x_1.2.1, .int .i64 x_1.2.2], .cells [.ptr 0 0], .cells [.fn (171 : FuncId) [.ptr 1 0]], .cells [.fn (173 : FuncId) [.ptr 1 0]], .cells [.fn (175 : FuncId) [.ptr 2 0, .ptr 1 0, .ptr 3 0]], .cells [.int .i64 x.1, .sl 2 (.map T.encN ([], []) x_1.1) .none], .cells [.int .i64 x.1, .sl 2 (.map T.encN ([], []) x_1.1) .none]]) → ASpec prog 178 [.ptr 1 0, .ptr 4 0] (HR bs p e) Post := fun bs p e Post h => ASpec.of_vc g178 Tryz.func178 (by kernel_rfl) (by kernel_rfl) (by kernel_rfl) (kc (by kernel_rfl) h)
def l177 : Nat → List Nat
  | 3 => [0, 2, 7, 8]
  | _ => []
def u177 : Nat → Bool
  | _ => false
def m177 : Nat → Bool
  | _ => false
def g177 : Cfg := { N := 27, live := l177, cut := u177, mu := m177, ret := rets }
def c177 : Code := bodyOf Tryz.f177
def q177_0 (n : Nat) (Post : PT) : AQ := endQ prog (resultsOf Tryz.f177) Post
def q177_1 (n : Nat) (Post : PT) : AQ := seqQ (fun s' H' => awp prog g177 n (codeSnd (codeSnd (codeSnd c177))) s' H' (q177_0 n Post)) (q177_0 n Post)
def q177_2 (n : Nat) (Post : PT) : AQ := blockQ 0 (q177_1 n Post)
def c177_3 : Code := codeFst (codeSnd (codeFst (codeSnd (codeSnd c177))))
abbrev hps1770 (bs : List UInt8) (x : Int × Int × Int) : List AObj := [AObj.cells [.sl 1 (.map encB 0 bs) .none, .int .i64 x.2.1, .int .i64 x.2.2], .cells [.ptr 0 0], .cells [.fn (171 : FuncId) [.ptr 1 0]], .cells [.fn (173 : FuncId) [.ptr 1 0]], .cells [.fn (175 : FuncId) [.ptr 2 0, .ptr 1 0, .ptr 3 0]]]
theorem s177 : ∀ (bs : List UInt8) (p e most : Int) (Post : PT),
  (ASpec prog 174 [.ptr 0 0, .int .i64 most] [AObj.cells [.sl 1 (.map encB 0 bs) .none, .int .i64 p, AV.int .i64 e], .cells [.ptr 0 0], .cells [.fn (171 : FuncId) [.ptr 1 0]], .cells [.fn (173 : FuncId) [.ptr 1 0]], .cells [.fn (175 : FuncId) [.ptr 2 0, .ptr 1 0, .ptr 3 0]]] fun r H' => ∃ (x : Int × Int × Int), r = AV.int .i64 x.1 ∧ H' = (hps1770 bs x) ∧ AWP prog 27 5 c177_3 [(0, .ptr 0 0), (2, .fn (178 : FuncId) [.ptr 1 0, .ptr 4 0]), (7, .sl 0 (.raw []) .nil), (8, .int .i64 x.1)] (hps1770 bs x) (q177_2 5 Post)) → ASpec prog 177 [.ptr 0 0, .int .i64 most, AV.fn (178 : FuncId) [.ptr 1 0, .ptr 4 0]] (HR bs p e) Post := fun bs p e most Post h => ASpec.of_vc g177 Tryz.func177 (by kernel_rfl) (by kernel_rfl) (by kernel_rfl) (kc (by kernel_rfl) h)
abbrev hpv177_30 (bs : List UInt8) (p : Int) (e : Int) : List AObj := [AObj.cells [.sl 1 (.map encB 0 bs) .none, .int .i64 p, AV.int .i64 e], .cells [.ptr 0 0], .cells [.fn (171 : FuncId) [.ptr 1 0]], .cells [.fn (173 : FuncId) [.ptr 1 0]], .cells [.fn (175 : FuncId) [.ptr 2 0, .ptr 1 0, .ptr 3 0]], .tok]
theorem v177_3 : ∀ (bs : List UInt8) (p e : Int) (acc : List T.Rel) (n : Int) (n_1 : Nat) (Post : PT),
  condP (decide (n > (0 : Int))) (ASpec prog 211 [.ptr 0 0] (hpv177_30 bs p e) fun r H' => ∃ (x : Int), r = AV.int .i64 x ∧ H' = (hpv177_30 bs p e) ∧ condP (x == (0 : Int)) (ASpec prog 178 [.ptr 1 0, .ptr 4 0] (hpv177_30 bs p e) fun r H' => ∃ (x : T.Rel × Int × Int), r = AV.agg [.int .i64 x.1.1, .sl 2 (.map T.encN ([], []) x.1.2) .none] ∧ H' = [AObj.cells [.sl 1 (.map encB 0 bs) .none, .int .i64 x.2.1, .int .i64 x.2.2], .cells [.ptr 0 0], .cells [.fn (171 : FuncId) [.ptr 1 0]], .cells [.fn (173 : FuncId) [.ptr 1 0]], .cells [.fn (175 : FuncId) [.ptr 2 0, .ptr 1 0, .ptr 3 0]], .tok] ∧ needP ((List.length acc + 1) * 32 ≤ 140737488351232) (AWP prog 27 n_1 c177_3 [(0, .ptr 0 0), (2, .fn (178 : FuncId) [.ptr 1 0, .ptr 4 0]), (7, AV.sl 2 (.app (.map T.encR (0, []) acc) (.raw [[.int .i64 x.1.1, .sl 2 (.map T.encN ([], []) x.1.2) .none]])) (.tok 6)), (8, .int .i64 (IntKind.wrap .i64 (n - (1 : Int))))] [AObj.cells [.sl 1 (.map encB 0 bs) .none, .int .i64 x.2.1, .int .i64 x.2.2], .cells [.ptr 0 0], .cells [.fn (171 : FuncId) [.ptr 1 0]], .cells [.fn (173 : FuncId) [.ptr 1 0]], .cells [.fn (175 : FuncId) [.ptr 2 0, .ptr 1 0, .ptr 3 0]], .gone, .tok] (q177_2 n_1 Post))) (Post (.sl 2 (.map T.encR (0, []) acc) (.tok 5)) (hpv177_30 bs p e))) (Post (.sl 2 (.map T.encR (0, []) acc) (.tok 5)) (hpv177_30 bs p e)) → AWP prog 27 n_1 c177_3 [(0, .ptr 0 0), (2, .fn (178 : FuncId) [.ptr 1 0, .ptr 4 0]), (7, .sl 2 (.map T.encR (0, []) acc) (.tok 5)), (8, .int .i64 n)] (HR bs p e ++ [AObj.tok]) (q177_2 n_1 Post) := fun bs p e acc n n Post h => AWP.loop' g177 (Cfg.live g177) c177_3 (by kernel_rfl) (by kernel_rfl) (kc (by kernel_rfl) h)
def l137 : Nat → List Nat
  | _ => []
def u137 : Nat → Bool
  | _ => false
def m137 : Nat → Bool
  | _ => false
def g137 : Cfg := { N := 40, live := l137, cut := u137, mu := m137, ret := rets }
abbrev hps1370 (x : List UInt8) (x_2 : List T.Rel × Int × Int) (x_1 : ByteArray × Int × Int) : List AObj := [AObj.cells [.str ⟨#[]⟩, .sl 0 (.raw []) .nil], .cells [.sl 1 (.map encB 0 x) .none, .int .i64 x_2.2.1, .int .i64 x_2.2.2], .cells [.ptr 1 0], .cells [.fn 171 [.ptr 2 0]], .cells [.fn 173 [.ptr 2 0]], .cells [.fn 175 [.ptr 3 0, .ptr 2 0, .ptr 4 0]], .cells [.str x_1.1, .sl 2 (.map T.encR (0, []) x_2.1) .none]]
abbrev hps1371 (x : List UInt8) (x_2 : List T.Rel × Int × Int) (x_1 : ByteArray × Int × Int) : List AObj := [AObj.cells [.str ⟨#[]⟩, .sl 0 (.raw []) .nil], .cells [.sl 1 (.map encB 0 x) .none, .int .i64 x_2.2.1, AV.int .i64 x_2.2.2], .cells [.ptr 1 0], .cells [.fn 171 [.ptr 2 0]], .cells [.fn 173 [.ptr 2 0]], .cells [.fn 175 [.ptr 3 0, .ptr 2 0, .ptr 4 0]], .cells [.str x_1.1, .sl 2 (.map T.encR (0, []) x_2.1) .none]]
theorem s137 : ∀ (bs : List UInt8) (Post : PT),
  condP (decide ((↑bs.length : Int) > (8192 : Int))) (Post (.tup [AV.agg [AV.str ⟨#[]⟩, .sl 0 (.raw []) .nil], .int .i64 4]) [AObj.cells [.str ⟨#[]⟩, .sl 0 (.raw []) .nil]]) (ASpec prog 170 [.sl 1 (.map encB 0 bs) .none] [AObj.cells [.str ⟨#[]⟩, .sl 0 (.raw []) .nil]] fun r H' => ∃ (x : List UInt8), r = AV.ptr 1 0 ∧ H' = [AObj.cells [.str ⟨#[]⟩, .sl 0 (.raw []) .nil], .cells [.sl 1 (.map encB 0 x) .none, .int .i64 0, .int .i64 0]] ∧ ASpec prog 171 [.ptr 2 0] [AObj.cells [.str ⟨#[]⟩, .sl 0 (.raw []) .nil], .cells [.sl 1 (.map encB 0 x) .none, .int .i64 0, .int .i64 0], .cells [.ptr 1 0], .cells [.fn 171 [.ptr 2 0]], .cells [.fn 173 [.ptr 2 0]], .cells [.fn 175 [.ptr 3 0, .ptr 2 0, .ptr 4 0]]] fun r H' => ∃ (x_1 : ByteArray × Int × Int), r = AV.str x_1.1 ∧ H' = [AObj.cells [.str ⟨#[]⟩, .sl 0 (.raw []) .nil], .cells [.sl 1 (.map encB 0 x) .none, .int .i64 x_1.2.1, .int .i64 x_1.2.2], .cells [.ptr 1 0], .cells [.fn 171 [.ptr 2 0]], .cells [.fn 173 [.ptr 2 0]], .cells [.fn 175 [.ptr 3 0, .ptr 2 0, .ptr 4 0]]] ∧ ASpec prog 177 [.ptr 1 0, .int .i64 8, .fn 178 [.ptr 2 0, .ptr 5 0]] [AObj.cells [.str ⟨#[]⟩, .sl 0 (.raw []) .nil], .cells [.sl 1 (.map encB 0 x) .none, .int .i64 x_1.2.1, .int .i64 x_1.2.2], .cells [.ptr 1 0], .cells [.fn 171 [.ptr 2 0]], .cells [.fn 173 [.ptr 2 0]], .cells [.fn 175 [.ptr 3 0, .ptr 2 0, .ptr 4 0]], .cells [.str x_1.1, .sl 0 (.raw []) .nil]] fun r H' => ∃ (x_2 : List T.Rel × Int × Int), r = AV.sl 2 (.map T.encR (0, []) x_2.1) .none ∧ H' = [AObj.cells [.str ⟨#[]⟩, .sl 0 (.raw []) .nil], .cells [.sl 1 (.map encB 0 x) .none, .int .i64 x_2.2.1, .int .i64 x_2.2.2], .cells [.ptr 1 0], .cells [.fn 171 [.ptr 2 0]], .cells [.fn 173 [.ptr 2 0]], .cells [.fn 175 [.ptr 3 0, .ptr 2 0, .ptr 4 0]], .cells [.str x_1.1, .sl 0 (.raw []) .nil]] ∧ ASpec prog 180 [.ptr 1 0] (hps1370 x x_2 x_1) fun r H' => ∃ (x_3 : Int), r = AV.int .i64 x_3 ∧ H' = (hps1370 x x_2 x_1) ∧ condP (x_3 == (0 : Int)) (ASpec prog 181 [.agg [.str x_1.1, .sl 2 (.map T.encR (0, []) x_2.1) .none]] (hps1370 x x_2 x_1) fun r H' => ∃ (x_4 : Bool), r = AV.bool x_4 ∧ H' = (hps1371 x x_2 x_1) ∧ condP (!x_4) (Post (.tup [.agg [.str ⟨#[]⟩, .sl 0 (.raw []) .nil], .int .i64 3]) (hps1371 x x_2 x_1)) (condP (x_3 != (0 : Int)) (Post (.tup [.agg [.str ⟨#[]⟩, .sl 0 (.raw []) .nil], .int .i64 x_3]) (hps1371 x x_2 x_1)) (Post (AV.tup [.agg [.str x_1.1, .sl 2 (.map T.encR (0, []) x_2.1) .none], .int .i64 0]) [AObj.cells [.str x_1.1, .sl 2 (.map T.encR (0, []) x_2.1) .none], .cells [.sl 1 (.map encB 0 x) .none, .int .i64 x_2.2.1, AV.int .i64 x_2.2.2], .cells [.ptr 1 0], .cells [.fn 171 [.ptr 2 0]], .cells [.fn 173 [.ptr 2 0]], .cells [.fn 175 [.ptr 3 0, .ptr 2 0, .ptr 4 0]], .cells [.str x_1.1, .sl 2 (.map T.encR (0, []) x_2.1) .none]]))) (condP (x_3 != (0 : Int)) (Post (.tup [.agg [.str ⟨#[]⟩, .sl 0 (.raw []) .nil], .int .i64 x_3]) (hps1370 x x_2 x_1)) (Post (.tup [.agg [.str x_1.1, .sl 2 (.map T.encR (0, []) x_2.1) .none], .int .i64 0]) [AObj.cells [.str x_1.1, .sl 2 (.map T.encR (0, []) x_2.1) .none], .cells [.sl 1 (.map encB 0 x) .none, .int .i64 x_2.2.1, .int .i64 x_2.2.2], .cells [.ptr 1 0], .cells [.fn 171 [.ptr 2 0]], .cells [.fn 173 [.ptr 2 0]], .cells [.fn 175 [.ptr 3 0, .ptr 2 0, .ptr 4 0]], .cells [.str x_1.1, .sl 2 (.map T.encR (0, []) x_2.1) .none]]))) → ASpec prog 137 [.sl 1 (.map encB 0 bs) .none] [] Post := fun bs Post h => ASpec.of_vc g137 Tryz.func137 (by kernel_rfl) (by kernel_rfl) (by kernel_rfl) (kc (by kernel_rfl) h)
def l189 : Nat → List Nat
  | 4 => [0, 3, 4, 5]
  | 9 => [0, 3, 4, 5, 6, 7, 8]
  | _ => []
def u189 : Nat → Bool
  | _ => false
def m189 : Nat → Bool
  | _ => false
def g189 : Cfg := { N := 47, live := l189, cut := u189, mu := m189, ret := rets }
def c189 : Code := bodyOf Tryz.f189
def q189_0 (n : Nat) (Post : PT) : AQ := endQ prog (resultsOf Tryz.f189) Post
def q189_1 (n : Nat) (Post : PT) : AQ := seqQ (fun s' H' => awp prog g189 n (codeSnd (codeSnd (codeSnd (codeSnd c189)))) s' H' (q189_0 n Post)) (q189_0 n Post)
def q189_2 (n : Nat) (Post : PT) : AQ := blockQ 0 (q189_1 n Post)
def c189_4 : Code := codeFst (codeSnd (codeFst (codeSnd (codeSnd (codeSnd c189)))))
theorem s189 : ∀ (s : ByteArray) (e : Int) (Post : PT),
  (ASpec prog 188 [.ptr 0 0, .int .i64 6] [AObj.cells [.str s, AV.int .i64 e]] fun r H' => ∃ (x : Int × ByteArray × Int), r = AV.int .i64 x.1 ∧ H' = [AObj.cells [.str x.2.1, .int .i64 x.2.2]] ∧ AWP prog 47 1 c189_4 [(0, .ptr 0 0), (3, .sl 0 (.raw []) .nil), (4, .int .i64 x.1), (5, .int .i64 0)] [AObj.cells [.str x.2.1, .int .i64 x.2.2]] (q189_2 1 Post)) → ASpec prog 189 [.ptr 0 0] [AObj.cells [.str s, AV.int .i64 e]] Post := fun s e Post h => ASpec.of_vc g189 Tryz.func189 (by kernel_rfl) (by kernel_rfl) (by kernel_rfl) (kc (by kernel_rfl) h)
def q189_3 (n : Nat) (Post : PT) : AQ := loopQ prog 47 n c189_4 (q189_2 n Post) (Cfg.live g189)
def q189_4 (n : Nat) (Post : PT) : AQ := seqQ (fun s' H' => awp prog g189 n (codeSnd (codeSnd (codeFst c189_4))) s' H' (q189_3 n Post)) (q189_3 n Post)
def q189_5 (n : Nat) (Post : PT) : AQ := blockQ 1 (q189_4 n Post)
def q189_6 (n : Nat) (Post : PT) : AQ := seqQ (fun s' H' => awp prog g189 n (codeSnd (codeSnd (codeSnd (codeFst (codeFst (codeSnd (codeFst c189_4))))))) s' H' (q189_5 n Post)) (q189_5 n Post)
def q189_7 (n : Nat) (Post : PT) : AQ := blockQ 2 (q189_6 n Post)
def c189_9 : Code := codeFst (codeSnd (codeFst (codeSnd (codeSnd (codeFst (codeFst (codeSnd (codeFst c189_4))))))))
theorem v189_4 : ∀ (s : ByteArray) (e : Int) (acc : List T.Need) (n i : Int) (n_1 : Nat) (Post : PT),
  condP (decide (i < n)) (ASpec prog 187 [.ptr 0 0, .int .i64 24] [AObj.cells [.str s, AV.int .i64 e], .tok] fun r H' => ∃ (x : ByteArray × ByteArray × Int), r = AV.str x.1 ∧ H' = [AObj.cells [.str x.2.1, .int .i64 x.2.2], .tok] ∧ ASpec prog 188 [.ptr 0 0, .int .i64 6] [AObj.cells [.str x.2.1, .int .i64 x.2.2], .tok, .cells [.str x.1, .sl 0 (.raw []) .nil]] fun r H' => ∃ (x_1 : Int × ByteArray × Int), r = AV.int .i64 x_1.1 ∧ H' = [AObj.cells [.str x_1.2.1, .int .i64 x_1.2.2], .tok, .cells [.str x.1, .sl 0 (.raw []) .nil]] ∧ AWP prog 47 n_1 c189_9 [(0, .ptr 0 0), (3, .sl 2 (.map T.encN ([], []) acc) (.tok 1)), (4, .int .i64 n), (5, .int .i64 i), (6, .ptr 2 0), (7, .int .i64 x_1.1), (8, .int .i64 0)] [AObj.cells [.str x_1.2.1, .int .i64 x_1.2.2], .tok, .cells [.str x.1, .sl 0 (.raw []) .nil]] (q189_7 n_1 Post)) (Post (.sl 2 (.map T.encN ([], []) acc) (.tok 1)) [AObj.cells [.str s, AV.int .i64 e], .tok]) → AWP prog 47 n_1 c189_4 [(0, .ptr 0 0), (3, .sl 2 (.map T.encN ([], []) acc) (.tok 1)), (4, .int .i64 n), (5, .int .i64 i)] [AObj.cells [.str s, AV.int .i64 e], .tok] (q189_2 n_1 Post) := fun s e acc n i n Post h => AWP.loop' g189 (Cfg.live g189) c189_4 (by kernel_rfl) (by kernel_rfl) (kc (by kernel_rfl) h)
theorem v189_9 : ∀ (s : ByteArray) (e : Int) (acc : List T.Need) (n i : Int) (nm : ByteArray) (sp : List T.Span) (k j : Int) (n_1 : Nat) (Post : PT),
  condP (decide (j < k)) (ASpec prog 188 [.ptr 0 0, .int .i64 1000000000] [AObj.cells [.str s, AV.int .i64 e], .tok, .cells [.str nm, AV.sl 2 (.map T.encS (0, 0) sp) (.tok 3)], .tok] fun r H' => ∃ (x : Int × ByteArray × Int), r = AV.int .i64 x.1 ∧ H' = [AObj.cells [.str x.2.1, .int .i64 x.2.2], .tok, .cells [.str nm, AV.sl 2 (.map T.encS (0, 0) sp) (.tok 3)], .tok] ∧ ASpec prog 188 [.ptr 0 0, .int .i64 1000000000] [AObj.cells [.str x.2.1, .int .i64 x.2.2], .tok, .cells [.str nm, AV.sl 2 (.map T.encS (0, 0) sp) (.tok 3)], .tok] fun r H' => ∃ (x_1 : Int × ByteArray × Int), r = AV.int .i64 x_1.1 ∧ H' = [AObj.cells [.str x_1.2.1, .int .i64 x_1.2.2], .tok, .cells [.str nm, AV.sl 2 (.map T.encS (0, 0) sp) (.tok 3)], .tok] ∧ needP ((List.length sp + 1) * 16 ≤ 140737488351232) (AWP prog 47 n_1 c189_9 [(0, .ptr 0 0), (3, .sl 2 (.map T.encN ([], []) acc) (.tok 1)), (4, .int .i64 n), (5, .int .i64 i), (6, .ptr 2 0), (7, .int .i64 k), (8, .int .i64 (IntKind.wrap .i64 (j + (1 : Int))))] [AObj.cells [.str x_1.2.1, .int .i64 x_1.2.2], .tok, .cells [.str nm, AV.sl 2 (.app (.map T.encS (0, 0) sp) (.raw [[.int .i64 x.1, .int .i64 (IntKind.wrap .i64 (Prod.fst x + Prod.fst x_1))]])) (.tok 4)], .gone, .tok] (q189_7 n_1 Post))) (needP ((List.length acc + 1) * 40 ≤ 140737488351232) (AWP prog 47 n_1 c189_4 [(0, .ptr 0 0), (3, AV.sl 2 (.app (.map T.encN ([], []) acc) (.raw [[.str nm, AV.sl 2 (.map T.encS (0, 0) sp) (.tok 3)]])) (.tok 4)), (4, .int .i64 n), (5, .int .i64 (IntKind.wrap .i64 (i + (1 : Int))))] [AObj.cells [.str s, AV.int .i64 e], .gone, .cells [.str nm, AV.sl 2 (.map T.encS (0, 0) sp) (.tok 3)], .tok, .tok] (q189_2 n_1 Post))) → AWP prog 47 n_1 c189_9 [(0, .ptr 0 0), (3, .sl 2 (.map T.encN ([], []) acc) (.tok 1)), (4, .int .i64 n), (5, .int .i64 i), (6, .ptr 2 0), (7, .int .i64 k), (8, .int .i64 j)] [AObj.cells [.str s, AV.int .i64 e], .tok, .cells [.str nm, AV.sl 2 (.map T.encS (0, 0) sp) (.tok 3)], .tok] (q189_7 n_1 Post) := fun s e acc n i nm sp k j n Post h => AWP.loop' g189 (Cfg.live g189) c189_9 (by kernel_rfl) (by kernel_rfl) (kc (by kernel_rfl) h)
def l146 : Nat → List Nat
  | 7 => [2, 4, 5, 6, 7]
  | _ => []
def u146 : Nat → Bool
  | _ => false
def m146 : Nat → Bool
  | _ => false
def g146 : Cfg := { N := 53, live := l146, cut := u146, mu := m146, ret := rets }
def c146 : Code := bodyOf Tryz.f146
def q146_0 (n : Nat) (Post : PT) : AQ := endQ prog (resultsOf Tryz.f146) Post
def q146_1 (n : Nat) (Post : PT) : AQ := seqQ (fun s' H' => awp prog g146 n (codeSnd (codeSnd (codeSnd (codeSnd (codeSnd (codeSnd c146)))))) s' H' (q146_0 n Post)) (q146_0 n Post)
def q146_2 (n : Nat) (Post : PT) : AQ := blockQ 0 (q146_1 n Post)
def c146_7 : Code := codeFst (codeSnd (codeFst (codeSnd (codeSnd (codeSnd (codeSnd (codeSnd c146)))))))
theorem s146 : ∀ (s : ByteArray) (Post : PT),
  condP (decide ((↑(ByteArray.size s) : Int) > (8192 : Int))) (Post (.tup [.agg [.str ⟨#[]⟩, .sl 0 (.raw []) .nil], .int .i64 4]) [AObj.cells [.str ⟨#[]⟩, .sl 0 (.raw []) .nil]]) (ASpec prog 187 [.ptr 1 0, .int .i64 24] [AObj.cells [.str ⟨#[]⟩, .sl 0 (.raw []) .nil], .cells [.str s, AV.int .i64 0]] fun r H' => ∃ (x : ByteArray × ByteArray × Int), r = AV.str x.1 ∧ H' = [AObj.cells [.str ⟨#[]⟩, .sl 0 (.raw []) .nil], .cells [.str x.2.1, .int .i64 x.2.2]] ∧ ASpec prog 188 [.ptr 1 0, .int .i64 8] [AObj.cells [.str ⟨#[]⟩, .sl 0 (.raw []) .nil], .cells [.str x.2.1, .int .i64 x.2.2], .cells [.str x.1, .sl 0 (.raw []) .nil]] fun r H' => ∃ (x_1 : Int × ByteArray × Int), r = AV.int .i64 x_1.1 ∧ H' = [AObj.cells [.str ⟨#[]⟩, .sl 0 (.raw []) .nil], .cells [.str x_1.2.1, .int .i64 x_1.2.2], .cells [.str x.1, .sl 0 (.raw []) .nil]] ∧ AWP prog 53 0 c146_7 [(2, .ptr 0 0), (4, .ptr 1 0), (5, .ptr 2 0), (6, .int .i64 x_1.1), (7, .int .i64 0)] [AObj.cells [.str ⟨#[]⟩, .sl 0 (.raw []) .nil], .cells [.str x_1.2.1, .int .i64 x_1.2.2], .cells [.str x.1, .sl 0 (.raw []) .nil]] (q146_2 0 Post)) → ASpec prog 146 [.str s] [] Post := fun s Post h => ASpec.of_vc g146 Tryz.func146 (by kernel_rfl) (by kernel_rfl) (by kernel_rfl) (kc (by kernel_rfl) h)
abbrev hpv146_70 (s : ByteArray) (e : Int) (nm : ByteArray) (acc : List T.Rel) : List AObj := [AObj.cells [.str ⟨#[]⟩, .sl 0 (.raw []) .nil], .cells [.str s, AV.int .i64 e], .cells [.str nm, AV.sl 2 (.map T.encR (0, []) acc) (.tok 3)], .tok]
theorem v146_7 : ∀ (s : ByteArray) (e : Int) (nm : ByteArray) (acc : List T.Rel) (n i : Int) (n_1 : Nat) (Post : PT),
  condP (decide (i < n)) (ASpec prog 188 [.ptr 1 0, .int .i64 1000000000] (hpv146_70 s e nm acc) fun r H' => ∃ (x : Int × ByteArray × Int), r = AV.int .i64 x.1 ∧ H' = [AObj.cells [.str ⟨#[]⟩, .sl 0 (.raw []) .nil], .cells [.str x.2.1, .int .i64 x.2.2], .cells [.str nm, AV.sl 2 (.map T.encR (0, []) acc) (.tok 3)], .tok] ∧ ASpec prog 189 [.ptr 1 0] [AObj.cells [.str ⟨#[]⟩, .sl 0 (.raw []) .nil], .cells [.str x.2.1, .int .i64 x.2.2], .cells [.str nm, AV.sl 2 (.map T.encR (0, []) acc) (.tok 3)], .tok, .cells [.int .i64 x.1, .sl 0 (.raw []) .nil]] fun r H' => ∃ (x_1 : List T.Need × ByteArray × Int), r = AV.sl 2 (.map T.encN ([], []) x_1.1) .none ∧ H' = [AObj.cells [.str ⟨#[]⟩, .sl 0 (.raw []) .nil], .cells [.str x_1.2.1, .int .i64 x_1.2.2], .cells [.str nm, AV.sl 2 (.map T.encR (0, []) acc) (.tok 3)], .tok, .cells [.int .i64 x.1, .sl 0 (.raw []) .nil]] ∧ needP ((List.length acc + 1) * 32 ≤ 140737488351232) (AWP prog 53 n_1 c146_7 [(2, .ptr 0 0), (4, .ptr 1 0), (5, .ptr 2 0), (6, .int .i64 n), (7, .int .i64 (IntKind.wrap .i64 (i + (1 : Int))))] [AObj.cells [.str ⟨#[]⟩, .sl 0 (.raw []) .nil], .cells [.str x_1.2.1, .int .i64 x_1.2.2], .cells [.str nm, AV.sl 2 (.app (.map T.encR (0, []) acc) (.raw [[.int .i64 x.1, .sl 2 (.map T.encN ([], []) x_1.1) .none]])) (.tok 5)], .gone, .cells [.int .i64 x.1, .sl 2 (.map T.encN ([], []) x_1.1) .none], .tok] (q146_2 n_1 Post))) (ASpec prog 190 [.ptr 1 0] (hpv146_70 s e nm acc) fun r H' => ∃ (x : Int), r = AV.int .i64 x ∧ H' = (hpv146_70 s e nm acc) ∧ condP (x == (0 : Int)) (ASpec prog 191 [.agg [.str nm, AV.sl 2 (.map T.encR (0, []) acc) (.tok 3)]] (hpv146_70 s e nm acc) fun r H' => ∃ (x_1 : Bool), r = AV.bool x_1 ∧ H' = (hpv146_70 s e nm acc) ∧ condP (!x_1) (Post (.tup [.agg [.str ⟨#[]⟩, .sl 0 (.raw []) .nil], .int .i64 3]) (hpv146_70 s e nm acc)) (condP (x != (0 : Int)) (Post (.tup [.agg [.str ⟨#[]⟩, .sl 0 (.raw []) .nil], .int .i64 x]) (hpv146_70 s e nm acc)) (Post (.tup [.agg [.str nm, AV.sl 2 (.map T.encR (0, []) acc) (.tok 3)], .int .i64 0]) [AObj.cells [.str nm, AV.sl 2 (.map T.encR (0, []) acc) (.tok 3)], .cells [.str s, AV.int .i64 e], .cells [.str nm, AV.sl 2 (.map T.encR (0, []) acc) (.tok 3)], .tok]))) (condP (x != (0 : Int)) (Post (.tup [.agg [.str ⟨#[]⟩, .sl 0 (.raw []) .nil], .int .i64 x]) (hpv146_70 s e nm acc)) (Post (.tup [.agg [.str nm, AV.sl 2 (.map T.encR (0, []) acc) (.tok 3)], .int .i64 0]) [AObj.cells [.str nm, AV.sl 2 (.map T.encR (0, []) acc) (.tok 3)], .cells [.str s, AV.int .i64 e], .cells [.str nm, AV.sl 2 (.map T.encR (0, []) acc) (.tok 3)], .tok]))) → AWP prog 53 n_1 c146_7 [(2, .ptr 0 0), (4, .ptr 1 0), (5, .ptr 2 0), (6, .int .i64 n), (7, .int .i64 i)] (hpv146_70 s e nm acc) (q146_2 n_1 Post) := fun s e nm acc n i n Post h => AWP.loop' g146 (Cfg.live g146) c146_7 (by kernel_rfl) (by kernel_rfl) (kc (by kernel_rfl) h)
end
end W
end

noncomputable section
open Go Go.Ab Go.Proofs
namespace T
abbrev Ent := List UInt8 × List UInt8
def encEn (x : Ent) : List AV := [.str ⟨x.1.toArray⟩, .sl 1 (.map encB 0 x.2) .none]
abbrev Known := Option Mani
def encK : Known → AV
 | some m => .iface 121 (.agg (encM m))
 | none => .iface 203 (.agg [])
def EK : Enc Known := ⟨encK, fun a K => optionP a (fun m => K (.iface 121 (.agg (encM m)))) (K (.iface 203 (.agg []))), fun a K h => by cases a <;> exact h⟩
abbrev Kn := List (ByteArray × Known)
def HX (es : Kn) : List AObj := [.mp (.typed EK es), .cells [.map 0]]
end T
end

noncomputable section
open Go Go.Ab Go.Proofs
open Go.Proofs.Tryz (prog)
namespace X
noncomputable section
def updI (args : List AV) (H : List AObj) (es : T.Kn) : List AObj := match args with
  | .ptr p _ :: _ => match H[p]? with
    | some (.cells [.map q]) => H.set q (.mp (.typed T.EK es))
    | _ => H
  | _ => H
def retX : List (Nat × Ret) := [
  (8, ⟨Bool, fun _ _ x => .bool x, fun _ H _ => H⟩), (15, ⟨Bool, fun _ _ x => .bool x, fun _ H _ => H⟩),
  (9111, ⟨Unit, fun _ _ _ => .bool true, fun _ H _ => H⟩),
  (240, ⟨Unit, fun _ _ _ => .bool true, fun _ H _ => H⟩),
  (241, ⟨Unit, fun _ _ _ => .bool false, fun _ H _ => H⟩),
  (43, ⟨Unit, fun _ H _ => .ptr (H.length + 1) 0, fun _ H _ => H ++ [.mp (.typed T.EK []), .cells [.map H.length]]⟩),
  (16, ⟨T.Mani × Bool, fun _ _ x => .tup [.agg (T.encM x.1), .bool x.2], fun _ H _ => H⟩),
  (239, ⟨Int, fun _ _ x => .int .i64 x, fun _ H _ => H⟩),
  (40, ⟨Int × T.Kn, fun _ _ x => .int .i64 x.1, fun a H x => updI a H x.2⟩),
  (50, ⟨T.Mani, fun _ _ x => .agg (T.encM x), fun _ H _ => H⟩),
  (99, ⟨T.Rel, fun _ _ x => .agg (T.encR x), fun _ H _ => H⟩),
  (104, ⟨List T.Span, fun _ _ x => .sl 2 (.map T.encS (0, 0) x) .none, fun _ H _ => H⟩),
  (90, ⟨T.Mani, fun _ _ x => .iface 121 (.agg (T.encM x)), fun _ H _ => H⟩),
  (90, ⟨Unit, fun _ _ _ => .iface 203 (.agg []), fun _ H _ => H⟩)]
def rets : FuncId → List Ret := lookupR (retX ++ W.retW ++ C.retC ++ V.retL)
def l8 : Nat → List Nat
  | 4 => [0, 3]
  | _ => []
def u8 : Nat → Bool
  | _ => false
def m8 : Nat → Bool
  | _ => false
def g8 : Cfg := { N := 29, live := l8, cut := u8, mu := m8, ret := rets }
def c8 : Code := bodyOf Tryz.f8
def q8_0 (n : Nat) (Post : PT) : AQ := endQ prog (resultsOf Tryz.f8) Post
def q8_1 (n : Nat) (Post : PT) : AQ := seqQ (fun s' H' => awp prog g8 n (codeSnd (codeSnd (codeSnd c8))) s' H' (q8_0 n Post)) (q8_0 n Post)
def q8_2 (n : Nat) (Post : PT) : AQ := blockQ 0 (q8_1 n Post)
def c8_4 : Code := codeFst (codeSnd (codeFst (codeSnd (codeSnd c8))))
theorem s8 : ∀ (l : List T.Ent) (Post : PT),
  condP (decide ((↑l.length : Int) > (30 : Int))) (Post (.bool true) []) (AWP prog 29 0 c8_4 [(0, .sl 2 (.map T.encEn ([], []) l) .none), (3, .int .i64 0)] [] (q8_2 0 Post)) → ASpec prog 8 [.sl 2 (.map T.encEn ([], []) l) .none] [] Post := fun l Post h => ASpec.of_vc g8 Tryz.func8 (by kernel_rfl) (by kernel_rfl) (by kernel_rfl) (kc (by kernel_rfl) h)
theorem v8_4 : ∀ (l : List T.Ent) (i : Int) (n : Nat) (Post : PT),
  condP (decide (i < (↑l.length : Int))) (needP (0 ≤ i ∧ i < (↑l.length : Int)) (condP (decide ((↑(ByteArray.size ⟨(l.getD i.toNat ([], [])).1.toArray⟩) : Int) > (200 : Int))) (Post (.bool true) []) (needP (0 ≤ i ∧ i < (↑l.length : Int)) (condP (decide ((↑(List.length (l.getD i.toNat ([], [])).2) : Int) > (9000 : Int))) (Post (.bool true) []) (AWP prog 29 n c8_4 [(0, .sl 2 (.map T.encEn ([], []) l) .none), (3, .int .i64 (IntKind.wrap .i64 (i + (1 : Int))))] [] (q8_2 n Post)))))) (Post (.bool false) []) → AWP prog 29 n c8_4 [(0, .sl 2 (.map T.encEn ([], []) l) .none), (3, .int .i64 i)] [] (q8_2 n Post) := fun l i n Post h => AWP.loop' g8 (Cfg.live g8) c8_4 (by kernel_rfl) (by kernel_rfl) (kc (by kernel_rfl) h)
def l43 : Nat → List Nat
  | _ => []
def u43 : Nat → Bool
  | _ => false
def m43 : Nat → Bool
  | _ => false
def g43 : Cfg := { N := 4, live := l43, cut := u43, mu := m43, ret := rets }
theorem s43 : ∀ (Post : PT), Post (.ptr 1 0) [AObj.mp MM.nil, .cells [.map 0]] → ASpec prog 43 [] [] Post := fun Post h => ASpec.of_vc g43 Tryz.func43 (by kernel_rfl) (by kernel_rfl) (by kernel_rfl) (kc (by kernel_rfl) h)
def l15 : Nat → List Nat
  | _ => []
def u15 : Nat → Bool
  | _ => false
def m15 : Nat → Bool
  | _ => false
def g15 : Cfg := { N := 19, live := l15, cut := u15, mu := m15, ret := rets }
theorem s15 : ∀ (es : T.Kn) (s : ByteArray) (Post : PT),
  optionP (findM es s) (fun (x : T.Known) => optionP x (fun (x : T.Mani) => Post (.bool true) [AObj.mp (.typed T.EK es), .cells [.map 0]]) (Post (.bool true) [AObj.mp (.typed T.EK es), .cells [.map 0]])) (Post (.bool false) [AObj.mp (.typed T.EK es), .cells [.map 0]]) → ASpec prog 15 [.ptr 1 0, .str s] (T.HX es) Post := fun es s Post h => ASpec.of_vc g15 Tryz.func15 (by kernel_rfl) (by kernel_rfl) (by kernel_rfl) (kc (by kernel_rfl) h)
def l16 : Nat → List Nat
  | _ => []
def u16 : Nat → Bool
  | _ => false
def m16 : Nat → Bool
  | _ => false
def g16 : Cfg := { N := 35, live := l16, cut := u16, mu := m16, ret := rets }
abbrev hps160 (es : T.Kn) (s : ByteArray) : List AObj := [AObj.mp (.typed T.EK es), .cells [.map 0], .cells [.str ⟨#[]⟩, .sl 0 (.raw []) .nil], .cells [.str s, AV.sl 0 (.raw []) .nil]]
abbrev hps161 (es : T.Kn) (s : ByteArray) : List AObj := [AObj.mp (.typed T.EK es), .cells [.map 0], .cells [.str s, AV.sl 0 (.raw []) .nil], .cells [.str s, AV.sl 0 (.raw []) .nil]]
theorem s16 : ∀ (es : T.Kn) (s : ByteArray) (Post : PT),
  (ASpec prog 15 [.ptr 1 0, .str s] (hps160 es s) fun r H' => ∃ (x : Bool), r = AV.bool x ∧ H' = (hps160 es s) ∧ condP (!x) (Post (.tup [.agg [.str s, AV.sl 0 (.raw []) .nil], .bool false]) (hps161 es s)) (optionP (findM es s) (fun (x : T.Known) => optionP x (fun (x : T.Mani) => ASpec prog 240 [.agg [.str ⟨x.1.toArray⟩, .sl 2 (.map T.encR (0, []) x.2) .none]] (hps160 es s) fun r H' => ∃ (x : Unit), r = AV.bool true ∧ H' = (hps160 es s) ∧ optionP (findM es s) (fun (x : T.Known) => optionP x (fun (x : T.Mani) => ASpec prog 50 [.agg [.str ⟨x.1.toArray⟩, .sl 2 (.map T.encR (0, []) x.2) .none]] [AObj.mp (.typed T.EK es), .cells [.map 0], .cells [.str ⟨#[]⟩, .sl 0 (.raw []) .nil], .cells [.str s, AV.sl 0 (.raw []) .nil], .cells [.str ⟨x.1.toArray⟩, .sl 2 (.map T.encR (0, []) x.2) .none]] fun r H' => ∃ (x_1 : List UInt8 × List T.Rel), r = AV.agg [.str ⟨x_1.1.toArray⟩, .sl 2 (.map T.encR (0, []) x_1.2) .none] ∧ H' = [AObj.mp (.typed T.EK es), .cells [.map 0], .cells [.str ⟨#[]⟩, .sl 0 (.raw []) .nil], .cells [.str s, AV.sl 0 (.raw []) .nil], .cells [.str ⟨x.1.toArray⟩, .sl 2 (.map T.encR (0, []) x.2) .none]] ∧ Post (AV.tup [.agg [.str ⟨x_1.1.toArray⟩, .sl 2 (.map T.encR (0, []) x_1.2) .none], .bool true]) [AObj.mp (.typed T.EK es), .cells [.map 0], .cells [.str ⟨x_1.1.toArray⟩, .sl 2 (.map T.encR (0, []) x_1.2) .none], .cells [.str s, AV.sl 0 (.raw []) .nil], .cells [.str ⟨x.1.toArray⟩, .sl 2 (.map T.encR (0, []) x.2) .none]]) False) False) (ASpec prog 241 [.agg []] (hps160 es s) fun r H' => ∃ (x : Unit), r = AV.bool false ∧ H' = (hps160 es s) ∧ Post (.tup [.agg [.str s, AV.sl 0 (.raw []) .nil], .bool false]) (hps161 es s))) False)) → ASpec prog 16 [.ptr 1 0, .str s] (T.HX es) Post := fun es s Post h => ASpec.of_vc g16 Tryz.func16 (by kernel_rfl) (by kernel_rfl) (by kernel_rfl) (kc (by kernel_rfl) h)
def l40 : Nat → List Nat
  | _ => []
def u40 : Nat → Bool
  | _ => false
def m40 : Nat → Bool
  | _ => false
def g40 : Cfg := { N := 32, live := l40, cut := u40, mu := m40, ret := rets }
theorem s40 : ∀ (es : T.Kn) (s : ByteArray) (bs : List UInt8) (Post : PT),
  (ASpec prog 51 [.str s] [AObj.mp (.typed T.EK es), .cells [.map 0]] fun r H' => ∃ (x : Bool), r = AV.bool x ∧ H' = [AObj.mp (.typed T.EK es), .cells [.map 0]] ∧ condP (!x) (Post (.int .i64 1) [AObj.mp (.typed T.EK es), .cells [.map 0]]) (condP (decide ((↑bs.length : Int) > (8192 : Int))) (Post (.int .i64 1) [AObj.mp (.typed T.EK es), .cells [.map 0]]) (ASpec prog 15 [.ptr 1 0, .str s] [AObj.mp (.typed T.EK es), .cells [.map 0]] fun r H' => ∃ (x : Bool), r = AV.bool x ∧ H' = [AObj.mp (.typed T.EK es), .cells [.map 0]] ∧ condP x (Post (.int .i64 6) [AObj.mp (.typed T.EK es), .cells [.map 0]]) (ASpec prog 90 [.str s, AV.sl 1 (.map encB 0 bs) .none] [AObj.mp (.typed T.EK es), .cells [.map 0]] fun r H' => (∃ (x : List UInt8 × List T.Rel), r = AV.iface (121 : TypeId) (AV.agg [.str ⟨x.1.toArray⟩, .sl 2 (.map T.encR (0, []) x.2) .none]) ∧ H' = [AObj.mp (.typed T.EK es), .cells [.map 0]] ∧ (AV.map 0 = AV.map 0 ∧ [AObj.mp (.typed T.EK es), .cells [.map 0]] = [AObj.mp (.typed T.EK es), .cells [.map 0]]) ∧ Post (.int .i64 0) [AObj.mp (MM.put (MM.typed T.EK es) s (AV.iface (121 : TypeId) (AV.agg [.str ⟨x.1.toArray⟩, .sl 2 (.map T.encR (0, []) x.2) .none]))), .cells [.map 0]]) ∨ ∃ (x : Unit), r = AV.iface (203 : TypeId) (AV.agg []) ∧ H' = [AObj.mp (.typed T.EK es), .cells [.map 0]] ∧ (AV.map 0 = AV.map 0 ∧ [AObj.mp (.typed T.EK es), .cells [.map 0]] = [AObj.mp (.typed T.EK es), .cells [.map 0]]) ∧ Post (.int .i64 0) [AObj.mp (MM.put (MM.typed T.EK es) s (AV.iface (203 : TypeId) (AV.agg []))), .cells [.map 0]])))) → ASpec prog 40 [.ptr 1 0, .str s, AV.sl 1 (.map encB 0 bs) .none] (T.HX es) Post := fun es s bs Post h => ASpec.of_vc g40 Tryz.func40 (by kernel_rfl) (by kernel_rfl) (by kernel_rfl) (kc (by kernel_rfl) h)
def l240 : Nat → List Nat
  | _ => []
def u240 : Nat → Bool
  | _ => false
def m240 : Nat → Bool
  | _ => false
def g240 : Cfg := { N := 3, live := l240, cut := u240, mu := m240, ret := rets }
theorem s240 : ∀ (m : T.Mani) (Post : PT),
  Post (.bool true) [AObj.cells [.str ⟨m.1.toArray⟩, .sl 2 (.map T.encR (0, []) m.2) .none]] → ASpec prog 240 [.agg (T.encM m)] [] Post := fun m Post h => ASpec.of_vc g240 Tryz.func240 (by kernel_rfl) (by kernel_rfl) (by kernel_rfl) (kc (by kernel_rfl) h)
def l241 : Nat → List Nat
  | _ => []
def u241 : Nat → Bool
  | _ => false
def m241 : Nat → Bool
  | _ => false
def g241 : Cfg := { N := 3, live := l241, cut := u241, mu := m241, ret := rets }
theorem s241 : ∀ (Post : PT), Post (.bool false) [AObj.cells []] → ASpec prog 241 [.agg []] [] Post := fun Post h => ASpec.of_vc g241 Tryz.func241 (by kernel_rfl) (by kernel_rfl) (by kernel_rfl) (kc (by kernel_rfl) h)
def l90 : Nat → List Nat
  | _ => []
def u90 : Nat → Bool
  | _ => false
def m90 : Nat → Bool
  | _ => false
def g90 : Cfg := { N := 25, live := l90, cut := u90, mu := m90, ret := rets }
theorem s90 : ∀ (s : ByteArray) (bs : List UInt8) (Post : PT),
  (ASpec prog 137 [.sl 1 (.map encB 0 bs) .none] [] fun r H' => ∃ (x : T.Mani × Int), r = AV.tup [.agg [.str ⟨x.1.1.toArray⟩, .sl 2 (.map T.encR (0, []) x.1.2) .none], .int .i64 x.2] ∧ H' = [] ∧ condP (Prod.snd x != (0 : Int)) (Post (.iface 203 (AV.agg [])) [AObj.cells [.str ⟨x.1.1.toArray⟩, .sl 2 (.map T.encR (0, []) x.1.2) .none]]) (condP (!ByteArray.toList ⟨x.1.1.toArray⟩ == ByteArray.toList s) (Post (.iface 203 (AV.agg [])) [AObj.cells [.str ⟨x.1.1.toArray⟩, .sl 2 (.map T.encR (0, []) x.1.2) .none]]) (Post (.iface 121 (AV.agg [.str ⟨x.1.1.toArray⟩, .sl 2 (.map T.encR (0, []) x.1.2) .none])) [AObj.cells [.str ⟨x.1.1.toArray⟩, .sl 2 (.map T.encR (0, []) x.1.2) .none]]))) → ASpec prog 90 [.str s, AV.sl 1 (.map encB 0 bs) .none] [] Post := fun s bs Post h => ASpec.of_vc g90 Tryz.func90 (by kernel_rfl) (by kernel_rfl) (by kernel_rfl) (kc (by kernel_rfl) h)
def l104 : Nat → List Nat
  | _ => []
def u104 : Nat → Bool
  | _ => false
def m104 : Nat → Bool
  | _ => false
def g104 : Cfg := { N := 8, live := l104, cut := u104, mu := m104, ret := rets }
theorem s104 : ∀ (l : List T.Span) (Post : PT),
  (∀ (b : Bool), (b = true → Seq.toList (.map T.encS (0, 0) l) = []) → condP b (Post (.sl 0 (.raw []) .nil) []) (needP (∀ (x : T.Span), List.all (T.encS x) oneAV = true) (needP ((0 + List.length l) * 16 ≤ 140737488351232) (Post (.sl 2 (.app (.raw []) (.map T.encS (0, 0) l)) (.tok 0)) [AObj.tok])))) → ASpec prog 104 [.sl 2 (.map T.encS (0, 0) l) .none] [] Post := fun l Post h => ASpec.of_vc g104 Tryz.func104 (by kernel_rfl) (by kernel_rfl) (by kernel_rfl) (kc (by kernel_rfl) h)
def l99 : Nat → List Nat
  | 3 => [2, 3, 10, 11, 12]
  | _ => []
def u99 : Nat → Bool
  | _ => false
def m99 : Nat → Bool
  | _ => false
def g99 : Cfg := { N := 29, live := l99, cut := u99, mu := m99, ret := rets }
def c99 : Code := bodyOf Tryz.f99
def q99_0 (n : Nat) (Post : PT) : AQ := endQ prog (resultsOf Tryz.f99) Post
def q99_1 (n : Nat) (Post : PT) : AQ := seqQ (fun s' H' => awp prog g99 n (codeSnd (codeSnd (codeSnd c99))) s' H' (q99_0 n Post)) (q99_0 n Post)
def q99_2 (n : Nat) (Post : PT) : AQ := blockQ 0 (q99_1 n Post)
def c99_3 : Code := codeFst (codeSnd (codeFst (codeSnd (codeSnd c99))))
theorem s99 : ∀ (r : T.Rel) (Post : PT),
  AWP prog 29 0 c99_3 [(2, .ptr 1 0), (3, .ptr 2 0), (10, .sl 2 (.map T.encN ([], []) r.2) .none), (11, .int .i64 r.2.length), (12, .int .i64 0)] [AObj.cells [.int .i64 r.1, .sl 2 (.map T.encN ([], []) r.2) .none], .cells [.int .i64 0, .sl 0 (.raw []) .nil], .cells [.int .i64 r.1, .sl 0 (.raw []) .nil]] (q99_2 0 Post) → ASpec prog 99 [.agg (T.encR r)] [] Post := fun r Post h => ASpec.of_vc g99 Tryz.func99 (by kernel_rfl) (by kernel_rfl) (by kernel_rfl) (kc (by kernel_rfl) h)
theorem v99_3 : ∀ (v : Int) (acc l : List T.Need) (n i : Int) (n_1 : Nat) (Post : PT),
  condP (decide (i < n)) (needP (0 ≤ i ∧ i < (↑l.length : Int)) (ASpec prog 104 [AV.sl 2 (.map T.encS (0, 0) (l.getD i.toNat ([], [])).2) .none] [AObj.cells [AV.int .i64 0, .sl 0 (.raw []) .nil], .cells [.int .i64 v, AV.sl 2 (.map T.encN ([], []) acc) (.tok 2)], .tok, .cells [.str ⟨(l.getD i.toNat ([], [])).1.toArray⟩, .sl 2 (.map T.encS (0, 0) (l.getD i.toNat ([], [])).2) .none]] fun r H' => ∃ (x : List T.Span), r = AV.sl 2 (.map T.encS (0, 0) x) .none ∧ H' = [AObj.cells [.int .i64 0, .sl 0 (.raw []) .nil], .cells [.int .i64 v, AV.sl 2 (.map T.encN ([], []) acc) (.tok 2)], .tok, .cells [.str ⟨(l.getD i.toNat ([], [])).1.toArray⟩, .sl 2 (.map T.encS (0, 0) (l.getD i.toNat ([], [])).2) .none]] ∧ (AV.str ⟨(l.getD i.toNat ([], [])).1.toArray⟩ = AV.str ⟨(l.getD i.toNat ([], [])).1.toArray⟩ ∧ [AObj.cells [AV.int .i64 0, .sl 0 (.raw []) .nil], .cells [.int .i64 v, AV.sl 2 (.map T.encN ([], []) acc) (.tok 2)], .tok, .cells [.str ⟨(l.getD i.toNat ([], [])).1.toArray⟩, .sl 2 (.map T.encS (0, 0) (l.getD i.toNat ([], [])).2) .none]] = [AObj.cells [AV.int .i64 0, .sl 0 (.raw []) .nil], .cells [.int .i64 v, AV.sl 2 (.map T.encN ([], []) acc) (.tok 2)], .tok, .cells [.str ⟨(l.getD i.toNat ([], [])).1.toArray⟩, .sl 2 (.map T.encS (0, 0) (l.getD i.toNat ([], [])).2) .none]]) ∧ (AV.sl 2 (.map T.encN ([], []) acc) (.tok 2) = AV.sl 2 (.map T.encN ([], []) acc) (.tok 2) ∧ [AObj.cells [.int .i64 0, .sl 0 (.raw []) .nil], .cells [.int .i64 v, AV.sl 2 (.map T.encN ([], []) acc) (.tok 2)], .tok, .cells [.str ⟨(l.getD i.toNat ([], [])).1.toArray⟩, .sl 2 (.map T.encS (0, 0) (l.getD i.toNat ([], [])).2) .none]] = [AObj.cells [AV.int .i64 0, .sl 0 (.raw []) .nil], .cells [.int .i64 v, AV.sl 2 (.map T.encN ([], []) acc) (.tok 2)], .tok, .cells [.str ⟨(l.getD i.toNat ([], [])).1.toArray⟩, .sl 2 (.map T.encS (0, 0) (l.getD i.toNat ([], [])).2) .none]]) ∧ needP ((List.length acc + 1) * 40 ≤ 140737488351232) (AWP prog 29 n_1 c99_3 [(2, .ptr 0 0), (3, .ptr 1 0), (10, .sl 2 (.map T.encN ([], []) l) .none), (11, .int .i64 n), (12, .int .i64 (IntKind.wrap .i64 (i + (1 : Int))))] [AObj.cells [.int .i64 0, .sl 0 (.raw []) .nil], .cells [.int .i64 v, AV.sl 2 (.app (.map T.encN ([], []) acc) (.raw [[.str ⟨(l.getD i.toNat ([], [])).1.toArray⟩, .sl 2 (.map T.encS (0, 0) x) .none]])) (.tok 4)], .gone, .cells [.str ⟨(l.getD i.toNat ([], [])).1.toArray⟩, .sl 2 (.map T.encS (0, 0) (l.getD i.toNat ([], [])).2) .none], .tok] (q99_2 n_1 Post)))) (Post (.agg [.int .i64 v, AV.sl 2 (.map T.encN ([], []) acc) (.tok 2)]) [AObj.cells [.int .i64 v, AV.sl 2 (.map T.encN ([], []) acc) (.tok 2)], .cells [.int .i64 v, AV.sl 2 (.map T.encN ([], []) acc) (.tok 2)], .tok]) → AWP prog 29 n_1 c99_3 [(2, .ptr 0 0), (3, .ptr 1 0), (10, .sl 2 (.map T.encN ([], []) l) .none), (11, .int .i64 n), (12, .int .i64 i)] [AObj.cells [.int .i64 0, .sl 0 (.raw []) .nil], .cells [.int .i64 v, AV.sl 2 (.map T.encN ([], []) acc) (.tok 2)], .tok] (q99_2 n_1 Post) := fun v acc l n i n Post h => AWP.loop' g99 (Cfg.live g99) c99_3 (by kernel_rfl) (by kernel_rfl) (kc (by kernel_rfl) h)
def l50 : Nat → List Nat
  | 3 => [2, 3, 10, 11, 12]
  | _ => []
def u50 : Nat → Bool
  | _ => false
def m50 : Nat → Bool
  | _ => false
def g50 : Cfg := { N := 25, live := l50, cut := u50, mu := m50, ret := rets }
def c50 : Code := bodyOf Tryz.f50
def q50_0 (n : Nat) (Post : PT) : AQ := endQ prog (resultsOf Tryz.f50) Post
def q50_1 (n : Nat) (Post : PT) : AQ := seqQ (fun s' H' => awp prog g50 n (codeSnd (codeSnd (codeSnd c50))) s' H' (q50_0 n Post)) (q50_0 n Post)
def q50_2 (n : Nat) (Post : PT) : AQ := blockQ 0 (q50_1 n Post)
def c50_3 : Code := codeFst (codeSnd (codeFst (codeSnd (codeSnd c50))))
theorem s50 : ∀ (m : T.Mani) (Post : PT),
  AWP prog 25 0 c50_3 [(2, .ptr 1 0), (3, .ptr 2 0), (10, .sl 2 (.map T.encR (0, []) m.2) .none), (11, .int .i64 m.2.length), (12, .int .i64 0)] [AObj.cells [.str ⟨m.1.toArray⟩, .sl 2 (.map T.encR (0, []) m.2) .none], .cells [.str ⟨#[]⟩, .sl 0 (.raw []) .nil], .cells [.str ⟨m.1.toArray⟩, .sl 0 (.raw []) .nil]] (q50_2 0 Post) → ASpec prog 50 [.agg (T.encM m)] [] Post := fun m Post h => ASpec.of_vc g50 Tryz.func50 (by kernel_rfl) (by kernel_rfl) (by kernel_rfl) (kc (by kernel_rfl) h)
theorem v50_3 : ∀ (s : ByteArray) (acc l : List T.Rel) (n i : Int) (n_1 : Nat) (Post : PT),
  condP (decide (i < n)) (needP (0 ≤ i ∧ i < (↑l.length : Int)) (ASpec prog 99 [AV.agg [AV.int .i64 (l.getD i.toNat ((0 : Int), [])).1, .sl 2 (.map T.encN ([], []) (l.getD i.toNat ((0 : Int), [])).2) .none]] [AObj.cells [AV.str ⟨#[]⟩, .sl 0 (.raw []) .nil], .cells [.str s, AV.sl 2 (.map T.encR (0, []) acc) (.tok 2)], .tok, .cells [.int .i64 (l.getD i.toNat ((0 : Int), [])).1, .sl 2 (.map T.encN ([], []) (l.getD i.toNat ((0 : Int), [])).2) .none]] fun r H' => ∃ (x : Int × List T.Need), r = AV.agg [.int .i64 x.1, .sl 2 (.map T.encN ([], []) x.2) .none] ∧ H' = [AObj.cells [.str ⟨#[]⟩, .sl 0 (.raw []) .nil], .cells [.str s, AV.sl 2 (.map T.encR (0, []) acc) (.tok 2)], .tok, .cells [.int .i64 (l.getD i.toNat ((0 : Int), [])).1, AV.sl 2 (.map T.encN ([], []) (l.getD i.toNat ((0 : Int), [])).2) .none]] ∧ (AV.sl 2 (.map T.encR (0, []) acc) (.tok 2) = AV.sl 2 (.map T.encR (0, []) acc) (.tok 2) ∧ [AObj.cells [.str ⟨#[]⟩, .sl 0 (.raw []) .nil], .cells [.str s, AV.sl 2 (.map T.encR (0, []) acc) (.tok 2)], .tok, .cells [.int .i64 (l.getD i.toNat ((0 : Int), [])).1, AV.sl 2 (.map T.encN ([], []) (l.getD i.toNat ((0 : Int), [])).2) .none]] = [AObj.cells [AV.str ⟨#[]⟩, .sl 0 (.raw []) .nil], .cells [.str s, AV.sl 2 (.map T.encR (0, []) acc) (.tok 2)], .tok, .cells [.int .i64 (l.getD i.toNat ((0 : Int), [])).1, AV.sl 2 (.map T.encN ([], []) (l.getD i.toNat ((0 : Int), [])).2) .none]]) ∧ needP ((List.length acc + 1) * 32 ≤ 140737488351232) (AWP prog 25 n_1 c50_3 [(2, .ptr 0 0), (3, .ptr 1 0), (10, .sl 2 (.map T.encR (0, []) l) .none), (11, .int .i64 n), (12, .int .i64 (IntKind.wrap .i64 (i + (1 : Int))))] [AObj.cells [.str ⟨#[]⟩, .sl 0 (.raw []) .nil], .cells [.str s, AV.sl 2 (.app (.map T.encR (0, []) acc) (.raw [[.int .i64 x.1, .sl 2 (.map T.encN ([], []) x.2) .none]])) (.tok 4)], .gone, .cells [.int .i64 (l.getD i.toNat ((0 : Int), [])).1, AV.sl 2 (.map T.encN ([], []) (l.getD i.toNat ((0 : Int), [])).2) .none], .tok] (q50_2 n_1 Post)))) (Post (.agg [.str s, AV.sl 2 (.map T.encR (0, []) acc) (.tok 2)]) [AObj.cells [.str s, AV.sl 2 (.map T.encR (0, []) acc) (.tok 2)], .cells [.str s, AV.sl 2 (.map T.encR (0, []) acc) (.tok 2)], .tok]) → AWP prog 25 n_1 c50_3 [(2, .ptr 0 0), (3, .ptr 1 0), (10, .sl 2 (.map T.encR (0, []) l) .none), (11, .int .i64 n), (12, .int .i64 i)] [AObj.cells [.str ⟨#[]⟩, .sl 0 (.raw []) .nil], .cells [.str s, AV.sl 2 (.map T.encR (0, []) acc) (.tok 2)], .tok] (q50_2 n_1 Post) := fun s acc l n i n Post h => AWP.loop' g50 (Cfg.live g50) c50_3 (by kernel_rfl) (by kernel_rfl) (kc (by kernel_rfl) h)
end
end X
end

noncomputable section
open Go Go.Ab Go.Proofs
namespace T
def encL (x : List UInt8) : List AV := [.str ⟨x.toArray⟩]
end T
end

noncomputable section
open Go Go.Ab Go.Proofs
open Go.Proofs.Tryz (prog)
namespace Dp
noncomputable section
def retD : List (Nat × Ret) := [
  (9058, ⟨Bool, fun _ _ x => .bool x, fun _ H _ => H⟩),
  (9038, ⟨Bool, fun _ _ x => .bool x, fun _ H _ => H⟩),
  (9183, ⟨Int × Bool, fun _ _ x => .tup [.int .i64 x.1, .bool x.2], fun _ H _ => H⟩),
  (9278, ⟨Int × Bool, fun _ _ x => .tup [.int .i64 x.1, .bool x.2], fun _ H _ => H⟩),
  (9279, ⟨Int, fun _ _ x => .int .i64 x, fun _ H _ => H⟩),
  (9280, ⟨Int, fun _ _ x => .int .i64 x, fun _ H _ => H⟩),
  (9061, ⟨List UInt8, fun _ _ x => .sl 1 (.map encB 0 x) .none, fun _ H _ => H⟩),
  (9166, ⟨List UInt8, fun _ _ x => .sl 1 (.map encB 0 x) .none, fun _ H _ => H⟩),
  (9059, ⟨T.Mani × Bool, fun _ _ x => .tup [.agg (T.encM x.1), .bool x.2], fun _ H _ => H⟩),
  (106, ⟨T.Mani × Bool, fun _ _ x => .tup [.agg (T.encM x.1), .bool x.2], fun _ H _ => H⟩),
  (9060, ⟨T.Mani × Bool, fun _ _ x => .tup [.agg (T.encM x.1), .bool x.2], fun _ H _ => H⟩),
  (9064, ⟨List (List UInt8), fun _ _ x => .sl 1 (.map T.encL [] x) .none, fun _ H _ => H⟩),
  (9065, ⟨List (List UInt8), fun _ _ x => .sl 1 (.map T.encL [] x) .none, fun _ H _ => H⟩),
  (9063, ⟨Bool, fun _ _ x => .bool x, fun _ H _ => H⟩),
  (9067, ⟨List T.Ent × Bool, fun _ _ x => .tup [.sl 2 (.map T.encEn ([], []) x.1) .none, .bool x.2], fun _ H _ => H⟩),
  (9068, ⟨List T.Ent × Bool, fun _ _ x => .tup [.sl 2 (.map T.encEn ([], []) x.1) .none, .bool x.2], fun _ H _ => H⟩),
  (9069, ⟨Bool, fun _ _ x => .bool x, fun _ H _ => H⟩),
  (8, ⟨Bool, fun _ _ x => .bool x, fun _ H _ => H⟩),
  (9047, ⟨ByteArray, fun _ _ x => .str x, fun _ H _ => H⟩),
  (9057, ⟨Unit, fun _ _ _ => .bool true, fun _ H _ => H⟩)]
def rets : FuncId → List Ret := lookupR (retD ++ W.retW ++ C.retC ++ V.retL)
def u8 : Nat → Bool
  | _ => false
def l106 : Nat → List Nat
  | _ => []
def u106 : Nat → Bool
  | _ => false
def m106 : Nat → Bool
  | _ => false
def g106 : Cfg := { N := 24, live := l106, cut := u106, mu := m106, ret := rets }
abbrev hps1060 (s : List UInt8) (x : T.Mani × Int) : List AObj := [AObj.cells [.str ⟨s.toArray⟩, .sl 0 (.raw []) .nil], .cells [AV.str ⟨x.1.1.toArray⟩, .sl 2 (.map T.encR (0, []) x.1.2) .none]]
theorem s106 : ∀ (s b : List UInt8) (Post : PT),
  (ASpec prog 146 [.str ⟨b.toArray⟩] [AObj.cells [AV.str ⟨#[]⟩, .sl 0 (.raw []) .nil]] fun r H' => ∃ (x : T.Mani × Int), r = AV.tup [.agg [.str ⟨x.1.1.toArray⟩, .sl 2 (.map T.encR (0, []) x.1.2) .none], .int .i64 x.2] ∧ H' = [AObj.cells [.str ⟨#[]⟩, .sl 0 (.raw []) .nil]] ∧ condP (Prod.snd x != (0 : Int)) (Post (.tup [.agg [.str ⟨s.toArray⟩, .sl 0 (.raw []) .nil], .bool false]) (hps1060 s x)) (condP (!ByteArray.toList ⟨x.1.1.toArray⟩ == ByteArray.toList ⟨s.toArray⟩) (Post (.tup [AV.agg [AV.str ⟨s.toArray⟩, .sl 0 (.raw []) .nil], .bool false]) (hps1060 s x)) (Post (.tup [.agg [.str ⟨x.1.1.toArray⟩, .sl 2 (.map T.encR (0, []) x.1.2) .none], .bool true]) [AObj.cells [.str ⟨x.1.1.toArray⟩, .sl 2 (.map T.encR (0, []) x.1.2) .none], .cells [.str ⟨x.1.1.toArray⟩, .sl 2 (.map T.encR (0, []) x.1.2) .none]]))) → ASpec prog 106 [.str ⟨s.toArray⟩, .str ⟨b.toArray⟩] [] Post := fun s b Post h => ASpec.of_vc g106 Tryz.func106 (by kernel_rfl) (by kernel_rfl) (by kernel_rfl) (kc (by kernel_rfl) h)
end
end Dp
end

noncomputable section
open Go Go.Ab Go.Proofs
namespace T
abbrev Kd := Mani × Bool
abbrev noKd : Kd := (([], []), false)
def encKd (x : Kd) : List AV := [.str ⟨x.1.1.toArray⟩, .sl 2 (.map T.encR (0, []) x.1.2) .none, .bool x.2]
def encXd (l : List Kd) : List AV := [.sl 3 (.map encKd noKd l) .none]
end T
end

noncomputable section
open Go Go.Ab Go.Proofs
open Go.Proofs.Tryz (prog)
namespace Xd
noncomputable section
def addP (args : List AV) (H : List AObj) (o : AObj) : List AObj := match args with
  | .ptr id _ :: _ => H.set id o
  | _ => H
def retXd : List (Nat × Ret) := [
  (115, ⟨Int, fun _ _ x => .int .i64 x, fun _ H _ => H⟩), (63, ⟨Bool, fun _ _ x => .bool x, fun _ H _ => H⟩), (66, ⟨T.Mani × Bool, fun _ _ x => .tup [.agg (T.encM x.1), .bool x.2], fun _ H _ => H⟩), (9222, ⟨List (List UInt8), fun _ _ x => .sl 1 (.map T.encL [] x) .none, fun _ H _ => H⟩), (9223, ⟨Bool, fun _ _ x => .bool x, fun _ H _ => H⟩), (9062, ⟨Bool, fun _ _ x => .bool x, fun _ H _ => H⟩),
  (57, ⟨Int × List T.Kd, fun _ _ x => .int .i64 x.1, fun a H x => addP a H (.cells (T.encXd x.2))⟩),
  (20, ⟨List T.Kd, fun _ _ x => .agg (T.encXd x), fun _ H _ => H⟩),
  (12, ⟨T.Kn, fun _ H _ => .ptr (H.length + 1) 0, fun _ H x => H ++ [.mp (.typed T.EK x), .cells [.map H.length]]⟩),
  (9220, ⟨T.Kn, fun _ H _ => .map H.length, fun _ H x => H ++ [.mp (.typed T.EK x)]⟩),
  (9115, ⟨T.Kn, fun _ H _ => .ptr (H.length + 1) 0, fun _ H x => H ++ [.mp (.typed T.EK x), .cells [.map H.length]]⟩),
  (9115, ⟨Unit, fun _ _ _ => .nilp, fun _ H _ => H⟩)]
def rets : FuncId → List Ret := fun f => match lookupR retXd f with
  | [] => match X.rets f with
    | [] => Dp.rets f
    | l => l
  | l => l
def l115 : Nat → List Nat
  | 2 => [1, 2, 5]
  | _ => []
def u115 : Nat → Bool
  | _ => false
def m115 : Nat → Bool
  | _ => false
def g115 : Cfg := { N := 23, live := l115, cut := u115, mu := m115, ret := rets }
def c115 : Code := bodyOf Tryz.f115
def q115_0 (n : Nat) (Post : PT) : AQ := endQ prog (resultsOf Tryz.f115) Post
def q115_1 (n : Nat) (Post : PT) : AQ := seqQ (fun s' H' => awp prog g115 n (codeSnd (codeSnd c115)) s' H' (q115_0 n Post)) (q115_0 n Post)
def q115_2 (n : Nat) (Post : PT) : AQ := blockQ 0 (q115_1 n Post)
def c115_2 : Code := codeFst (codeSnd (codeFst (codeSnd c115)))
theorem s115 : ∀ (l : List T.Kd) (s : List UInt8) (Post : PT),
  AWP prog 23 0 c115_2 [(1, .str ⟨s.toArray⟩), (2, .ptr 0 0), (5, .int .i64 0)] [AObj.cells [AV.sl 3 (.map T.encKd T.noKd l) .none]] (q115_2 0 Post) → ASpec prog 115 [.agg (T.encXd l), .str ⟨s.toArray⟩] [] Post := fun l s Post h => ASpec.of_vc g115 Tryz.func115 (by kernel_rfl) (by kernel_rfl) (by kernel_rfl) (kc (by kernel_rfl) h)
theorem v115_2 : ∀ (l : List T.Kd) (s : List UInt8) (i : Int) (n : Nat) (Post : PT),
  condP (decide (i < (↑l.length : Int))) (needP (0 ≤ i ∧ i < (↑l.length : Int)) (condP (ByteArray.toList { data := List.toArray ((l.getD i.toNat T.noKd).1).1 } == ByteArray.toList ⟨s.toArray⟩) (Post (.int .i64 i) [AObj.cells [AV.sl 3 (.map T.encKd T.noKd l) .none]]) (AWP prog 23 n c115_2 [(1, .str ⟨s.toArray⟩), (2, .ptr 0 0), (5, .int .i64 (IntKind.wrap .i64 (i + (1 : Int))))] [AObj.cells [.sl 3 (.map T.encKd T.noKd l) .none]] (q115_2 n Post)))) (Post (.int .i64 (-1)) [AObj.cells [.sl 3 (.map T.encKd T.noKd l) .none]]) → AWP prog 23 n c115_2 [(1, .str ⟨s.toArray⟩), (2, .ptr 0 0), (5, .int .i64 i)] [AObj.cells (T.encXd l)] (q115_2 n Post) := fun l s i n Post h => AWP.loop' g115 (Cfg.live g115) c115_2 (by kernel_rfl) (by kernel_rfl) (kc (by kernel_rfl) h)
def l63 : Nat → List Nat
  | _ => []
def u63 : Nat → Bool
  | _ => false
def m63 : Nat → Bool
  | _ => false
def g63 : Cfg := { N := 9, live := l63, cut := u63, mu := m63, ret := rets }
theorem s63 : ∀ (l : List T.Kd) (s : List UInt8) (Post : PT),
  (ASpec prog 115 [.agg [.sl 3 (.map T.encKd T.noKd l) .none], .str ⟨s.toArray⟩] [AObj.cells [AV.sl 3 (.map T.encKd T.noKd l) .none]] fun r H' => ∃ (x : Int), r = AV.int .i64 x ∧ H' = [AObj.cells [.sl 3 (.map T.encKd T.noKd l) .none]] ∧ Post (.bool (decide (x ≥ (0 : Int)))) [AObj.cells [.sl 3 (.map T.encKd T.noKd l) .none]]) → ASpec prog 63 [.agg (T.encXd l), .str ⟨s.toArray⟩] [] Post := fun l s Post h => ASpec.of_vc g63 Tryz.func63 (by kernel_rfl) (by kernel_rfl) (by kernel_rfl) (kc (by kernel_rfl) h)
def l66 : Nat → List Nat
  | _ => []
def u66 : Nat → Bool
  | _ => false
def m66 : Nat → Bool
  | _ => false
def g66 : Cfg := { N := 26, live := l66, cut := u66, mu := m66, ret := rets }
theorem s66 : ∀ (l : List T.Kd) (s : List UInt8) (Post : PT),
  (ASpec prog 115 [.agg [.sl 3 (.map T.encKd T.noKd l) .none], .str ⟨s.toArray⟩] [AObj.cells [AV.sl 3 (.map T.encKd T.noKd l) .none], .cells [.str ⟨#[]⟩, .sl 0 (.raw []) .nil]] fun r H' => ∃ (x : Int), r = AV.int .i64 x ∧ H' = [AObj.cells [.sl 3 (.map T.encKd T.noKd l) .none], .cells [.str ⟨#[]⟩, .sl 0 (.raw []) .nil]] ∧ condP (decide (x < (0 : Int))) (Post (.tup [.agg [.str ⟨s.toArray⟩, .sl 0 (.raw []) .nil], .bool false]) [AObj.cells [.sl 3 (.map T.encKd T.noKd l) .none], .cells [.str ⟨s.toArray⟩, .sl 0 (.raw []) .nil]]) (needP (0 ≤ x ∧ x < (↑l.length : Int)) (needP (0 ≤ x ∧ x < (↑l.length : Int)) ((AV.bool (l.getD x.toNat T.noKd).2 = AV.bool (l.getD x.toNat T.noKd).2 ∧ [AObj.cells [AV.sl 3 (.map T.encKd T.noKd l) .none], .cells [.str { data := List.toArray ((l.getD x.toNat T.noKd).1).1 }, AV.sl 2 (.map T.encR (0, []) ((l.getD x.toNat T.noKd).1).2) .none]] = [AObj.cells [AV.sl 3 (.map T.encKd T.noKd l) .none], .cells [.str { data := List.toArray ((l.getD x.toNat T.noKd).1).1 }, AV.sl 2 (.map T.encR (0, []) ((l.getD x.toNat T.noKd).1).2) .none]]) ∧ (AV.sl 3 (.map T.encKd T.noKd l) .none = AV.sl 3 (.map T.encKd T.noKd l) .none ∧ [AObj.cells [.sl 3 (.map T.encKd T.noKd l) .none], .cells [.str { data := List.toArray ((l.getD x.toNat T.noKd).1).1 }, AV.sl 2 (.map T.encR (0, []) ((l.getD x.toNat T.noKd).1).2) .none]] = [AObj.cells [AV.sl 3 (.map T.encKd T.noKd l) .none], .cells [.str { data := List.toArray ((l.getD x.toNat T.noKd).1).1 }, AV.sl 2 (.map T.encR (0, []) ((l.getD x.toNat T.noKd).1).2) .none]]) ∧ Post (AV.tup [.agg [.str { data := List.toArray ((l.getD x.toNat T.noKd).1).1 }, AV.sl 2 (.map T.encR (0, []) ((l.getD x.toNat T.noKd).1).2) .none], AV.bool (l.getD x.toNat T.noKd).2]) [AObj.cells [AV.sl 3 (.map T.encKd T.noKd l) .none], .cells [.str { data := List.toArray ((l.getD x.toNat T.noKd).1).1 }, AV.sl 2 (.map T.encR (0, []) ((l.getD x.toNat T.noKd).1).2) .none]])))) → ASpec prog 66 [AV.agg (T.encXd l), .str ⟨s.toArray⟩] [] Post := fun l s Post h => ASpec.of_vc g66 Tryz.func66 (by kernel_rfl) (by kernel_rfl) (by kernel_rfl) (kc (by kernel_rfl) h)
def l57 : Nat → List Nat
  | 9 => [0, 1, 7, 8, 9, 10, 11]
  | 15 => [0, 7, 8, 9, 10]
  | _ => []
def u57 : Nat → Bool
  | 15 => true
  | _ => false
def m57 : Nat → Bool
  | _ => false
def g57 : Cfg := { N := 83, live := l57, cut := u57, mu := m57, ret := rets }
def c57 : Code := bodyOf Tryz.f57
def q57_0 (n : Nat) (Post : PT) : AQ := endQ prog (resultsOf Tryz.f57) Post
def c57_15 : Code := codeSnd (codeSnd (codeSnd (codeSnd (codeSnd (codeSnd (codeSnd c57))))))
def q57_1 (n : Nat) (Post : PT) : AQ := seqQ (fun (s' : Slots) (H' : List AObj) => AWP prog (Cfg.N g57) n c57_15 (restrict s' (Cfg.live g57 15)) H' (q57_0 n Post)) (q57_0 n Post)
def q57_2 (n : Nat) (Post : PT) : AQ := blockQ 0 (q57_1 n Post)
def c57_9 : Code := codeFst (codeSnd (codeFst (codeSnd (codeSnd (codeSnd (codeSnd (codeSnd (codeSnd c57))))))))
theorem s57 : ∀ (l : List T.Kd) (s b : List UInt8) (Post : PT),
  (ASpec prog 41 [.str ⟨s.toArray⟩] [AObj.cells [AV.sl 3 (.map T.encKd T.noKd l) .none]] fun r H' => ∃ (x : Bool), r = AV.bool x ∧ H' = [AObj.cells [.sl 3 (.map T.encKd T.noKd l) .none]] ∧ condP (!x) (Post (.int .i64 1) [AObj.cells [.sl 3 (.map T.encKd T.noKd l) .none]]) (condP (decide ((↑(ByteArray.size ⟨b.toArray⟩) : Int) > (8192 : Int))) (Post (.int .i64 1) [AObj.cells [.sl 3 (.map T.encKd T.noKd l) .none]]) (ASpec prog 63 [.agg [.sl 3 (.map T.encKd T.noKd l) .none], .str ⟨s.toArray⟩] [AObj.cells [AV.sl 3 (.map T.encKd T.noKd l) .none]] fun r H' => ∃ (x : Bool), r = AV.bool x ∧ H' = [AObj.cells [.sl 3 (.map T.encKd T.noKd l) .none]] ∧ condP x (Post (.int .i64 6) [AObj.cells [.sl 3 (.map T.encKd T.noKd l) .none]]) (ASpec prog 106 [.str ⟨s.toArray⟩, .str ⟨b.toArray⟩] [AObj.cells [AV.sl 3 (.map T.encKd T.noKd l) .none]] fun r H' => ∃ (x : T.Mani × Bool), r = AV.tup [.agg [.str ⟨x.1.1.toArray⟩, .sl 2 (.map T.encR (0, []) x.1.2) .none], AV.bool x.2] ∧ H' = [AObj.cells [.sl 3 (.map T.encKd T.noKd l) .none]] ∧ AWP prog 83 1 c57_9 [(0, .ptr 0 0), (1, .str ⟨s.toArray⟩), (7, .ptr 1 0), (8, .bool x.2), (9, .sl 0 (.raw []) .nil), (10, .bool false), (11, .int .i64 0)] [AObj.cells [.sl 3 (.map T.encKd T.noKd l) .none], .cells [.str ⟨x.1.1.toArray⟩, .sl 2 (.map T.encR (0, []) x.1.2) .none]] (q57_2 1 Post))))) → ASpec prog 57 [.ptr 0 0, .str ⟨s.toArray⟩, .str ⟨b.toArray⟩] [AObj.cells (T.encXd l)] Post := fun l s b Post h => ASpec.of_vc g57 Tryz.func57 (by kernel_rfl) (by kernel_rfl) (by kernel_rfl) (kc (by kernel_rfl) h)
abbrev hpv57_90 (l : List T.Kd) (m : T.Mani) : List AObj := [AObj.cells [.sl 3 (.map T.encKd T.noKd l) .none], .cells [.str ⟨m.1.toArray⟩, .sl 2 (.map T.encR (0, []) m.2) .none], .gone, .tok]
theorem v57_9 : ∀ (l o : List T.Kd) (s : List UInt8) (m : T.Mani) (g b : Bool) (i : Int) (n : Nat) (Post : PT),
  condP (decide (i < (↑l.length : Int))) (condP (!b) (needP (0 ≤ i ∧ i < (↑l.length : Int)) (condP (Op.bytesLess (ByteArray.toList ⟨s.toArray⟩) (ByteArray.toList { data := List.toArray ((l.getD i.toNat T.noKd).1).1 })) (needP ((List.length o + 1) * 48 ≤ 140737488351232) (needP (0 ≤ i ∧ i < (↑l.length : Int)) (needP ((List.length o + 1 + 1) * 48 ≤ 140737488351232) (AWP prog 83 n c57_9 [(0, .ptr 0 0), (1, .str ⟨s.toArray⟩), (7, .ptr 1 0), (8, .bool g), (9, AV.sl 3 (.app (.app (.map T.encKd T.noKd o) (.raw [[.str ⟨m.1.toArray⟩, .sl 2 (.map T.encR (0, []) m.2) .none, .bool g]])) (.raw [[.str { data := List.toArray ((l.getD i.toNat T.noKd).1).1 }, AV.sl 2 (.map T.encR (0, []) ((l.getD i.toNat T.noKd).1).2) .none, AV.bool (l.getD i.toNat T.noKd).2]])) (.tok 4)), (10, .bool true), (11, .int .i64 (IntKind.wrap .i64 (i + (1 : Int))))] [AObj.cells [.sl 3 (.map T.encKd T.noKd l) .none], .cells [.str ⟨m.1.toArray⟩, .sl 2 (.map T.encR (0, []) m.2) .none], .gone, .gone, .tok] (q57_2 n Post))))) (needP (0 ≤ i ∧ i < (↑l.length : Int)) (needP ((List.length o + 1) * 48 ≤ 140737488351232) (AWP prog 83 n c57_9 [(0, .ptr 0 0), (1, .str ⟨s.toArray⟩), (7, .ptr 1 0), (8, .bool g), (9, AV.sl 3 (.app (.map T.encKd T.noKd o) (.raw [[.str { data := List.toArray ((l.getD i.toNat T.noKd).1).1 }, AV.sl 2 (.map T.encR (0, []) ((l.getD i.toNat T.noKd).1).2) .none, AV.bool (l.getD i.toNat T.noKd).2]])) (.tok 3)), (10, .bool b), (11, .int .i64 (IntKind.wrap .i64 (i + (1 : Int))))] (hpv57_90 l m) (q57_2 n Post)))))) (needP (0 ≤ i ∧ i < (↑l.length : Int)) (needP ((List.length o + 1) * 48 ≤ 140737488351232) (AWP prog 83 n c57_9 [(0, .ptr 0 0), (1, .str ⟨s.toArray⟩), (7, .ptr 1 0), (8, .bool g), (9, AV.sl 3 (.app (.map T.encKd T.noKd o) (.raw [[.str { data := List.toArray ((l.getD i.toNat T.noKd).1).1 }, AV.sl 2 (.map T.encR (0, []) ((l.getD i.toNat T.noKd).1).2) .none, AV.bool (l.getD i.toNat T.noKd).2]])) (.tok 3)), (10, .bool b), (11, .int .i64 (IntKind.wrap .i64 (i + (1 : Int))))] (hpv57_90 l m) (q57_2 n Post))))) (AWP prog 83 n c57_15 [(0, .ptr 0 0), (7, .ptr 1 0), (8, .bool g), (9, .sl 3 (.map T.encKd T.noKd o) (.tok 2)), (10, .bool b)] [AObj.cells [.sl 3 (.map T.encKd T.noKd l) .none], .cells [.str ⟨m.1.toArray⟩, .sl 2 (.map T.encR (0, []) m.2) .none], .tok] (q57_0 n Post)) → AWP prog 83 n c57_9 [(0, .ptr 0 0), (1, .str ⟨s.toArray⟩), (7, .ptr 1 0), (8, .bool g), (9, .sl 3 (.map T.encKd T.noKd o) (.tok 2)), (10, .bool b), (11, .int .i64 i)] [AObj.cells (T.encXd l), .cells (T.encM m), .tok] (q57_2 n Post) := fun l o s m g b i n Post h => AWP.loop' g57 (Cfg.live g57) c57_9 (by kernel_rfl) (by kernel_rfl) (kc (by kernel_rfl) h)
theorem v57_15 : ∀ (l o : List T.Kd) (m : T.Mani) (g b : Bool) (n : Nat) (Post : PT),
  condP (!b) (needP ((List.length o + 1) * 48 ≤ 140737488351232) (Post (.int .i64 0) [AObj.cells [.sl 3 (.app (.map T.encKd T.noKd o) (.raw [[.str ⟨m.1.toArray⟩, .sl 2 (.map T.encR (0, []) m.2) .none, .bool g]])) (.tok 3)], .cells [.str ⟨m.1.toArray⟩, .sl 2 (.map T.encR (0, []) m.2) .none], .gone, .tok])) (Post (.int .i64 0) [AObj.cells [.sl 3 (.map T.encKd T.noKd o) (.tok 2)], .cells [.str ⟨m.1.toArray⟩, .sl 2 (.map T.encR (0, []) m.2) .none], .tok]) → AWP prog 83 n c57_15 [(0, .ptr 0 0), (7, .ptr 1 0), (8, .bool g), (9, .sl 3 (.map T.encKd T.noKd o) (.tok 2)), (10, .bool b)] [AObj.cells (T.encXd l), .cells (T.encM m), .tok] (q57_0 n Post) := fun l o m g b n Post h => Go.Ab.awp_sound g57 n _ _ _ _ (kc (by kernel_rfl) h)
def l20 : Nat → List Nat
  | 3 => [0, 2, 3, 4]
  | _ => []
def u20 : Nat → Bool
  | _ => false
def m20 : Nat → Bool
  | _ => false
def g20 : Cfg := { N := 25, live := l20, cut := u20, mu := m20, ret := rets }
def c20 : Code := bodyOf Tryz.f20
def q20_0 (n : Nat) (Post : PT) : AQ := endQ prog (resultsOf Tryz.f20) Post
def q20_1 (n : Nat) (Post : PT) : AQ := seqQ (fun s' H' => awp prog g20 n (codeSnd (codeSnd (codeSnd c20))) s' H' (q20_0 n Post)) (q20_0 n Post)
def q20_2 (n : Nat) (Post : PT) : AQ := blockQ 0 (q20_1 n Post)
def c20_3 : Code := codeFst (codeSnd (codeFst (codeSnd (codeSnd c20))))
theorem s20 : ∀ (e : List T.Ent) (Post : PT),
  AWP prog 25 0 c20_3 [(0, .sl 2 (.map T.encEn ([], []) e) .none), (2, .ptr 0 0), (3, .ptr 1 0), (4, .int .i64 0)] [AObj.cells [.sl 0 (.raw []) .nil], .cells [.sl 0 (.raw []) .nil]] (q20_2 0 Post) → ASpec prog 20 [.sl 2 (.map T.encEn ([], []) e) .none] [] Post := fun e Post h => ASpec.of_vc g20 Tryz.func20 (by kernel_rfl) (by kernel_rfl) (by kernel_rfl) (kc (by kernel_rfl) h)
theorem v20_3 : ∀ (e : List T.Ent) (l : List T.Kd) (i : Int) (n : Nat) (Post : PT),
  condP (decide (i < (↑e.length : Int))) (needP (0 ≤ i ∧ i < (↑e.length : Int)) (needP (0 ≤ i ∧ i < (↑e.length : Int)) (needP (allBytes (.map encB 0 (e.getD i.toNat ([], [])).2)) (ASpec prog 57 [AV.ptr 1 0, .str ⟨(e.getD i.toNat ([], [])).1.toArray⟩, .str (bytesOf (.map encB 0 (e.getD i.toNat ([], [])).2))] [AObj.cells [AV.sl 0 (.raw []) .nil], .cells [.sl 3 (.map T.encKd T.noKd l) .none]] fun r H' => ∃ (x : Int × List T.Kd), r = AV.int .i64 x.1 ∧ H' = [AObj.cells [.sl 0 (.raw []) .nil], .cells [.sl 3 (.map T.encKd T.noKd x.2) .none]] ∧ AWP prog 25 n c20_3 [(0, .sl 2 (.map T.encEn ([], []) e) .none), (2, .ptr 0 0), (3, .ptr 1 0), (4, .int .i64 (IntKind.wrap .i64 (i + (1 : Int))))] [AObj.cells [.sl 0 (.raw []) .nil], .cells [.sl 3 (.map T.encKd T.noKd x.2) .none]] (q20_2 n Post))))) (Post (.agg [.sl 3 (.map T.encKd T.noKd l) .none]) [AObj.cells [.sl 3 (.map T.encKd T.noKd l) .none], .cells [.sl 3 (.map T.encKd T.noKd l) .none]]) → AWP prog 25 n c20_3 [(0, .sl 2 (.map T.encEn ([], []) e) .none), (2, .ptr 0 0), (3, .ptr 1 0), (4, .int .i64 i)] [AObj.cells [.sl 0 (.raw []) .nil], .cells (T.encXd l)] (q20_2 n Post) := fun e l i n Post h => AWP.loop' g20 (Cfg.live g20) c20_3 (by kernel_rfl) (by kernel_rfl) (kc (by kernel_rfl) h)
def l12 : Nat → List Nat
  | 3 => [3, 7, 8, 9]
  | _ => []
def u12 : Nat → Bool
  | _ => false
def m12 : Nat → Bool
  | _ => false
def g12 : Cfg := { N := 21, live := l12, cut := u12, mu := m12, ret := rets }
def c12 : Code := bodyOf Tryz.f12
def q12_0 (n : Nat) (Post : PT) : AQ := endQ prog (resultsOf Tryz.f12) Post
def q12_1 (n : Nat) (Post : PT) : AQ := seqQ (fun s' H' => awp prog g12 n (codeSnd (codeSnd (codeSnd c12))) s' H' (q12_0 n Post)) (q12_0 n Post)
def q12_2 (n : Nat) (Post : PT) : AQ := blockQ 0 (q12_1 n Post)
def c12_3 : Code := codeFst (codeSnd (codeFst (codeSnd (codeSnd c12))))
theorem s12 : ∀ (e : List T.Ent) (Post : PT),
  (ASpec prog 43 [] [] fun r H' => ∃ (x : Unit), r = AV.ptr 1 0 ∧ H' = [AObj.mp (.typed T.EK []), .cells [.map 0]] ∧ AWP prog 21 0 c12_3 [(3, .ptr 1 0), (7, .sl 2 (.map T.encEn ([], []) e) .none), (8, .int .i64 e.length), (9, .int .i64 0)] [AObj.mp (.typed T.EK []), .cells [.map 0]] (q12_2 0 Post)) → ASpec prog 12 [.sl 2 (.map T.encEn ([], []) e) .none] [] Post := fun e Post h => ASpec.of_vc g12 Tryz.func12 (by kernel_rfl) (by kernel_rfl) (by kernel_rfl) (kc (by kernel_rfl) h)
theorem v12_3 : ∀ (e : List T.Ent) (es : T.Kn) (n i : Int) (n_1 : Nat) (Post : PT),
  condP (decide (i < n)) (needP (0 ≤ i ∧ i < (↑e.length : Int)) (ASpec prog 40 [AV.ptr 1 0, .str ⟨(e.getD i.toNat ([], [])).1.toArray⟩, .sl 1 (.map encB 0 (e.getD i.toNat ([], [])).2) .none] [AObj.mp (.typed T.EK es), .cells [.map 0], .cells [.str ⟨(e.getD i.toNat ([], [])).1.toArray⟩, .sl 1 (.map encB 0 (e.getD i.toNat ([], [])).2) .none]] fun r H' => ∃ (x : Int × T.Kn), r = AV.int .i64 x.1 ∧ H' = [AObj.mp (.typed T.EK x.2), .cells [.map 0], .cells [.str ⟨(e.getD i.toNat ([], [])).1.toArray⟩, .sl 1 (.map encB 0 (e.getD i.toNat ([], [])).2) .none]] ∧ AWP prog 21 n_1 c12_3 [(3, .ptr 1 0), (7, .sl 2 (.map T.encEn ([], []) e) .none), (8, .int .i64 n), (9, .int .i64 (IntKind.wrap .i64 (i + (1 : Int))))] [AObj.mp (.typed T.EK x.2), .cells [.map 0], .cells [.str ⟨(e.getD i.toNat ([], [])).1.toArray⟩, .sl 1 (.map encB 0 (e.getD i.toNat ([], [])).2) .none]] (q12_2 n_1 Post))) (Post (.ptr 1 0) [AObj.mp (.typed T.EK es), .cells [.map 0]]) → AWP prog 21 n_1 c12_3 [(3, .ptr 1 0), (7, .sl 2 (.map T.encEn ([], []) e) .none), (8, .int .i64 n), (9, .int .i64 i)] (T.HX es) (q12_2 n_1 Post) := fun e es n i n Post h => AWP.loop' g12 (Cfg.live g12) c12_3 (by kernel_rfl) (by kernel_rfl) (kc (by kernel_rfl) h)
end
end Xd
end

noncomputable section
open Go Go.Ab Go.Proofs
open Go.Proofs.Tryz (prog)
namespace Rr
noncomputable section
def retRr : List (Nat × Ret) := [
  (88, ⟨List (List UInt8), fun _ _ x => .sl 1 (.map T.encL [] x) .none, fun _ H _ => H⟩),
  (38, ⟨List (List UInt8), fun _ _ x => .sl 1 (.map T.encL [] x) .none, fun _ H _ => H⟩),
  (9014, ⟨List (List UInt8), fun _ _ x => .sl 1 (.map T.encL [] x) .none, fun _ H _ => H⟩),
  (9017, ⟨List (List UInt8), fun _ _ x => .sl 1 (.map T.encL [] x) .none, fun _ H _ => H⟩),
  (79, ⟨List (List UInt8), fun _ _ x => .sl 1 (.map T.encL [] x) .none, fun _ H _ => H⟩),
  (9045, ⟨List (List UInt8), fun _ _ x => .sl 1 (.map T.encL [] x) .none, fun _ H _ => H⟩),
  (9019, ⟨Bool, fun _ _ x => .bool x, fun _ H _ => H⟩),
  (9022, ⟨Bool, fun _ _ x => .bool x, fun _ H _ => H⟩),
  (9011, ⟨Unit, fun _ _ _ => .bool true, fun _ H _ => H⟩)]
def rets : FuncId → List Ret := fun f => match lookupR retRr f with
  | [] => Xd.rets f
  | l => l
def l79 : Nat → List Nat
  | 4 => [0, 1, 5, 6, 7]
  | _ => []
def u79 : Nat → Bool
  | _ => false
def m79 : Nat → Bool
  | _ => false
def g79 : Cfg := { N := 48, live := l79, cut := u79, mu := m79, ret := rets }
def c79 : Code := bodyOf Tryz.f79
def q79_0 (n : Nat) (Post : PT) : AQ := endQ prog (resultsOf Tryz.f79) Post
def q79_1 (n : Nat) (Post : PT) : AQ := seqQ (fun s' H' => awp prog g79 n (codeSnd (codeSnd (codeSnd (codeSnd c79)))) s' H' (q79_0 n Post)) (q79_0 n Post)
def q79_2 (n : Nat) (Post : PT) : AQ := blockQ 0 (q79_1 n Post)
def c79_4 : Code := codeFst (codeSnd (codeFst (codeSnd (codeSnd (codeSnd c79)))))
theorem s79 : ∀ (o : List (List UInt8)) (x : List UInt8) (Post : PT),
  AWP prog 48 0 c79_4 [(0, .sl 1 (.map T.encL [] o) .none), (1, .str ⟨x.toArray⟩), (5, .sl 0 (.raw []) .nil), (6, .bool false), (7, .int .i64 0)] [] (q79_2 0 Post) → ASpec prog 79 [.sl 1 (.map T.encL [] o) .none, .str ⟨x.toArray⟩] [] Post := fun o x Post h => ASpec.of_vc g79 Tryz.func79 (by kernel_rfl) (by kernel_rfl) (by kernel_rfl) (kc (by kernel_rfl) h)
theorem v79_4 : ∀ (o r : List (List UInt8)) (x : List UInt8) (b : Bool) (i : Int) (n : Nat) (Post : PT),
  condP (decide (i < (↑o.length : Int))) (condP (!b) (needP (0 ≤ i ∧ i < (↑o.length : Int)) (condP (Op.bytesLess (ByteArray.toList ⟨x.toArray⟩) (ByteArray.toList ⟨(o.getD i.toNat []).toArray⟩) || ByteArray.toList ⟨x.toArray⟩ == ByteArray.toList ⟨(o.getD i.toNat []).toArray⟩) (needP ((List.length r + 1) * 16 ≤ 140737488351232) (needP (0 ≤ i ∧ i < (↑o.length : Int)) (condP (ByteArray.toList ⟨x.toArray⟩ == ByteArray.toList ⟨(o.getD i.toNat []).toArray⟩) (AWP prog 48 n c79_4 [(0, .sl 1 (.map T.encL [] o) .none), (1, .str ⟨x.toArray⟩), (5, .sl 1 (.app (.map T.encL [] r) (.raw [[AV.str ⟨x.toArray⟩]])) (.tok 1)), (6, .bool true), (7, .int .i64 (IntKind.wrap .i64 (i + (1 : Int))))] [AObj.gone, .tok] (q79_2 n Post)) (needP (0 ≤ i ∧ i < (↑o.length : Int)) (needP ((List.length r + 1 + 1) * 16 ≤ 140737488351232) (AWP prog 48 n c79_4 [(0, .sl 1 (.map T.encL [] o) .none), (1, .str ⟨x.toArray⟩), (5, AV.sl 1 (.app (.app (.map T.encL [] r) (.raw [[.str ⟨x.toArray⟩]])) (.raw [[AV.str ⟨(o.getD i.toNat []).toArray⟩]])) (.tok 2)), (6, .bool true), (7, .int .i64 (IntKind.wrap .i64 (i + (1 : Int))))] [AObj.gone, .gone, .tok] (q79_2 n Post))))))) (needP (0 ≤ i ∧ i < (↑o.length : Int)) (needP ((List.length r + 1) * 16 ≤ 140737488351232) (AWP prog 48 n c79_4 [(0, .sl 1 (.map T.encL [] o) .none), (1, .str ⟨x.toArray⟩), (5, .sl 1 (.app (.map T.encL [] r) (.raw [[AV.str ⟨(o.getD i.toNat []).toArray⟩]])) (.tok 1)), (6, .bool b), (7, .int .i64 (IntKind.wrap .i64 (i + (1 : Int))))] [AObj.gone, .tok] (q79_2 n Post)))))) (needP (0 ≤ i ∧ i < (↑o.length : Int)) (needP ((List.length r + 1) * 16 ≤ 140737488351232) (AWP prog 48 n c79_4 [(0, .sl 1 (.map T.encL [] o) .none), (1, .str ⟨x.toArray⟩), (5, .sl 1 (.app (.map T.encL [] r) (.raw [[AV.str ⟨(o.getD i.toNat []).toArray⟩]])) (.tok 1)), (6, .bool b), (7, .int .i64 (IntKind.wrap .i64 (i + (1 : Int))))] [AObj.gone, .tok] (q79_2 n Post))))) (condP (!b) (needP ((List.length r + 1) * 16 ≤ 140737488351232) (Post (.sl 1 (.app (.map T.encL [] r) (.raw [[.str ⟨x.toArray⟩]])) (.tok 1)) [AObj.gone, .tok])) (Post (.sl 1 (.map T.encL [] r) (.tok 0)) [AObj.tok])) → AWP prog 48 n c79_4 [(0, .sl 1 (.map T.encL [] o) .none), (1, .str ⟨x.toArray⟩), (5, .sl 1 (.map T.encL [] r) (.tok 0)), (6, .bool b), (7, .int .i64 i)] [AObj.tok] (q79_2 n Post) := fun o r x b i n Post h => AWP.loop' g79 (Cfg.live g79) c79_4 (by kernel_rfl) (by kernel_rfl) (kc (by kernel_rfl) h)
end
end Rr
end

noncomputable section
open Go Go.Ab Go.Proofs
namespace T
end T
end

noncomputable section
open Go Go.Ab Go.Proofs
open Go.Proofs.Tryz (prog)
namespace Wn
noncomputable section
def retWn : List (Nat × Ret) := [
  (9025, ⟨List (List UInt8), fun _ _ x => .sl 1 (.map T.encL [] x) .none, fun _ H _ => H⟩),
  (9026, ⟨List (List UInt8), fun _ _ x => .sl 1 (.map T.encL [] x) .none, fun _ H _ => H⟩),
  (9027, ⟨List (List UInt8), fun _ _ x => .sl 1 (.map T.encL [] x) .none, fun _ H _ => H⟩),
  (9028, ⟨List (List UInt8), fun _ _ x => .sl 1 (.map T.encL [] x) .none, fun _ H _ => H⟩),
  (169, ⟨Bool, fun _ _ x => .bool x, fun _ H _ => H⟩),
  (9023, ⟨Bool, fun _ _ x => .bool x, fun _ H _ => H⟩),
  (209, ⟨Int, fun _ _ x => .int .i64 x, fun _ H _ => H⟩),
  (51, ⟨Bool, fun _ _ x => .bool x, fun _ H _ => H⟩),
  (41, ⟨Bool, fun _ _ x => .bool x, fun _ H _ => H⟩),
  (9049, ⟨Unit, fun _ H _ => .fn 9065 [.ptr H.length 0], fun a H _ => H ++ [.cells [a.getD 0 .bad]]⟩),
  (yieldKey, ⟨Unit, fun _ _ _ => .bool true, fun _ H _ => H⟩),
  (yieldKey, ⟨List (List UInt8), fun _ _ _ => .bool true, fun _ H x => ((H.set 3 .gone).set 0 (.cells [.sl 1 (.map T.encL [] x) (.tok H.length)])) ++ [.tok]⟩),
  (9024, ⟨Unit, fun _ _ _ => .bool true, fun _ H _ => H⟩)]
def rets : FuncId → List Ret := fun f => match lookupR retWn f with
  | [] => Rr.rets f
  | l => l
end
end Wn
end

noncomputable section
open Go Go.Ab Go.Proofs
namespace T
def EB : Enc Bool := Enc.one (fun b => .bool b)
def seenM (o : List (List UInt8)) : List (ByteArray × Bool) := o.map fun x => (⟨x.toArray⟩, true)
end T
end

noncomputable section
open Go Go.Ab Go.Proofs
open Go.Proofs.Tryz (prog)
namespace Rc
noncomputable section
def goneC (H : List AObj) (c : Nat) : List AObj := match H[c]? with
  | some (.cells [.sl _ _ (.tok k)]) => H.set k .gone
  | some (.cells [.msl _ k _ _]) => H.set k .gone
  | _ => H
def noteH (args : List AV) (H : List AObj) (x : List (List UInt8) × List (List UInt8)) : List AObj := match args with
  | [_, .ptr c1 _, .ptr c2 _, .ptr c3 _] => match H[c1]? with
    | some (.cells [.map q]) => ((((goneC (goneC H c2) c3).set q (.mp (.typed T.EB (T.seenM x.2)))).set c2 (.cells [.sl 1 (.map T.encL [] x.1) (.tok H.length)])).set c3 (.cells [.msl 1 (H.length + 1) 0 x.2.length])) ++ [.tok, .arr 1 (.map T.encL [] x.2)]
    | _ => H
  | _ => H
def addH (args : List AV) (H : List AObj) (o : AObj) : List AObj := match args with
  | .msl _ id _ _ :: _ => H.set id o
  | _ => H
def goneA (args : List AV) (H : List AObj) : List AObj := addH args H .gone
def retRc : List (Nat × Ret) := [
  (129, ⟨Unit, fun _ _ _ => .tup [], fun _ H _ => H⟩), (129, ⟨List (List UInt8) × List (List UInt8), fun _ _ _ => .tup [], noteH⟩),
  (130, ⟨List (List UInt8), fun _ _ x => .sl 1 (.map T.encL [] x) .none, fun _ H _ => H⟩),
  (131, ⟨Unit, fun _ _ _ => .tup [], fun _ H _ => H⟩), (131, ⟨List (List UInt8), fun _ _ _ => .tup [], fun a H x => addH a H (.arr 1 (.map T.encL [] x))⟩),
  (88, ⟨Unit, fun _ _ _ => .sl 0 (.raw []) .nil, fun _ H _ => H⟩),
  (88, ⟨List (List UInt8), fun _ H x => .msl 1 H.length 0 x.length, fun _ H x => H ++ [.arr 1 (.map T.encL [] x)]⟩),
  (128, ⟨Int, fun _ _ x => .int .i64 x, fun _ H _ => H⟩),
  (87, ⟨List (List UInt8), fun _ _ x => .sl 1 (.map T.encL [] x) .none, fun a H _ => goneA a H⟩),
  (38, ⟨List (List UInt8), fun _ _ x => .sl 1 (.map T.encL [] x) .none, fun _ H _ => H⟩),
  (9019, ⟨Bool, fun _ _ x => .bool x, fun _ H _ => H⟩)]
def rets : FuncId → List Ret := fun f => match lookupR retRc f with
  | [] => X.rets f
  | l => l
end
end Rc
end

noncomputable section
open Go Go.Ab Go.Proofs
namespace T
abbrev Term := List UInt8 × List Span × Bool
def encT (x : Term) : List AV := [.str ⟨x.1.toArray⟩, .sl 2 (.map encS (0, 0) x.2.1) .none, .bool x.2.2]
end T
end

noncomputable section
open Go Go.Ab Go.Proofs V
namespace T
end T
end

noncomputable section
open Go Go.Ab Go.Proofs
namespace T
abbrev Pk := List UInt8 × Int
abbrev noPk : Pk := ([], 0)
def encPk (x : Pk) : List AV := [.str ⟨x.1.toArray⟩, .int .i64 x.2]
end T
end

noncomputable section
open Go Go.Ab Go.Proofs
open Go.Proofs.Tryz (prog)
namespace In
noncomputable section
def rowId : List AV → Nat
  | .msl _ id _ _ :: _ => id
  | _ => 0
def retI : List (Nat × Ret) := [
  (142, ⟨List T.Pk, fun _ H x => .msl 2 H.length 0 x.length, fun _ H x => H ++ [.arr 2 (.map T.encPk T.noPk x)]⟩),
  (124, ⟨Int, fun _ _ x => .int .i64 x, fun _ H _ => H⟩),
  (143, ⟨List T.Pk, fun _ _ x => .sl 2 (.map T.encPk T.noPk x) .none, fun a H _ => H.set (rowId a) .gone⟩)]
def rets : FuncId → List Ret := lookupR (retI ++ C.retC ++ V.retL)
def l143 : Nat → List Nat
  | 3 => [0, 1, 2, 7]
  | 10 => [0, 1, 2, 7, 9]
  | 11 => [0, 1, 7, 9]
  | 12 => [9]
  | 14 => [0, 1, 2, 7, 8]
  | 16 => [0, 1, 2]
  | 17 => [0]
  | _ => []
def u143 : Nat → Bool
  | 3 => true
  | 10 => true
  | 11 => true
  | 12 => true
  | 14 => true
  | 16 => true
  | 17 => true
  | _ => false
def m143 : Nat → Bool
  | 12 => true
  | 34 => true
  | 40 => true
  | 43 => true
  | 50 => true
  | 53 => true
  | 60 => true
  | 66 => true
  | 73 => true
  | 76 => true
  | 77 => true
  | 80 => true
  | _ => false
def g143 : Cfg := { N := 95, live := l143, cut := u143, mu := m143, ret := rets }
def c143 : Code := bodyOf Tryz.f143
def q143_0 (n : Nat) (Post : PT) : AQ := endQ prog (resultsOf Tryz.f143) Post
def c143_3 : Code := codeSnd (codeSnd (codeSnd c143))
theorem s143 : ∀ (s : List T.Pk) (p : T.Pk) (i : Int) (Post : PT),
  needP (0 ≤ i ∧ i ≤ (↑s.length : Int)) (condP (decide (i < (↑s.length : Int))) (AWP prog 95 1 c143_3 [(0, .msl 2 0 0 s.length), (1, .int .i64 i), (2, .sl 2 (.raw [[AV.str ⟨p.1.toArray⟩, .int .i64 p.2]]) .full), (7, .int .i64 1)] [AObj.arr 2 (.map T.encPk T.noPk s)] (q143_0 1 Post)) (AWP prog 95 1 c143_3 [(0, .msl 2 0 0 s.length), (1, .int .i64 i), (2, .sl 2 (.raw [[AV.str ⟨p.1.toArray⟩, .int .i64 p.2]]) .full), (7, .int .i64 1)] [AObj.arr 2 (.map T.encPk T.noPk s)] (q143_0 1 Post))) → ASpec prog 143 [.msl 2 0 0 s.length, .int .i64 i, AV.sl 2 (.raw [T.encPk p]) .full] [AObj.arr 2 (.map T.encPk T.noPk s)] Post := fun s p i Post h => ASpec.of_vc g143 Tryz.func143 (by kernel_rfl) (by kernel_rfl) (by kernel_rfl) (kc (by kernel_rfl) h)
def q143_1 (n : Nat) (Post : PT) : AQ := seqQ (fun s' H' => awp prog g143 n (codeSnd (codeSnd (codeSnd (codeSnd c143_3)))) s' H' (q143_0 n Post)) (q143_0 n Post)
def c143_10 : Code := codeSnd (codeFst (codeSnd (codeFst (codeSnd (codeSnd (codeSnd c143_3))))))
def c143_14 : Code := codeSnd (codeSnd (codeSnd (codeSnd (codeSnd c143_3))))
theorem v143_3 : ∀ (s : List T.Pk) (p : T.Pk) (i : Int) (n : Nat) (Post : PT),
  condP (i == (↑s.length : Int)) (needP (List.length s = List.length s ∧ (List.length s + 1) * 24 ≤ 140737488351232) (Post (.msl 2 1 0 (List.length s + 1)) [AObj.gone, .arr 2 (.app (.map T.encPk T.noPk s) (.raw [[.str ⟨p.1.toArray⟩, .int .i64 p.2]]))])) (∀ (c : Nat), List.length s ≤ c ∧ Seq.len (.map T.encPk T.noPk s) ≤ 0 + c → condP (decide (IntKind.wrap .i64 ((↑s.length : Int) + (1 : Int)) > (↑c : Int))) (needP (0 ≤ i ∧ (0 : Int) + i ≤ (↑(rowLen [AObj.arr 2 (.app (.map T.encPk T.noPk s) (bads 2 (0 + c - List.length s))), .csz 0 2 (0 + c)] 0) : Int)) (needP ((0 : Int) < IntKind.wrap .i64 (IntKind.wrap .i64 ((↑s.length : Int) + (1 : Int)) - i) ∧ 0 + Int.toNat i ≤ List.length s + Seq.len (bads 2 (0 + c - List.length s)) ∧ 0 + c < 0 + Int.toNat i + Int.toNat (IntKind.wrap .i64 (IntKind.wrap .i64 ((↑s.length : Int) + (1 : Int)) - i)) ∧ (Int.toNat i + Int.toNat (IntKind.wrap .i64 (IntKind.wrap .i64 ((↑s.length : Int) + (1 : Int)) - i))) * 24 ≤ 140737488351232) (AWP prog 95 n c143_10 [(0, .msl 2 0 0 s.length), (1, .int .i64 i), (2, .sl 2 (.raw [[AV.str ⟨p.1.toArray⟩, .int .i64 p.2]]) .full), (7, .int .i64 1), (9, .msl 2 2 0 (Int.toNat i + Int.toNat (IntKind.wrap .i64 (IntKind.wrap .i64 ((↑s.length : Int) + (1 : Int)) - i))))] [AObj.arr 2 (.app (.map T.encPk T.noPk s) (bads 2 (0 + c - List.length s))), .csz 0 2 (0 + c), .arr 2 (.app (.raw (List.drop 0 (List.take (0 + Int.toNat i) (Seq.toList (.map T.encPk T.noPk s) ++ Seq.toList (bads 2 (0 + c - List.length s)))))) (.raw (List.replicate (Int.toNat (IntKind.wrap .i64 (IntKind.wrap .i64 ((↑s.length : Int) + (1 : Int)) - i))) [AV.str ⟨#[]⟩, .int .i64 0])))] (q143_1 n Post)))) (needP ((0 : Int) ≤ IntKind.wrap .i64 ((↑s.length : Int) + (1 : Int)) ∧ (0 : Int) + IntKind.wrap .i64 ((↑s.length : Int) + (1 : Int)) ≤ (↑(rowLen [AObj.arr 2 (.app (.map T.encPk T.noPk s) (bads 2 (0 + c - List.length s))), .csz 0 2 (0 + c)] 0) : Int)) (AWP prog 95 n c143_14 [(0, .msl 2 0 0 (Int.toNat (IntKind.wrap .i64 ((↑s.length : Int) + (1 : Int))))), (1, .int .i64 i), (2, .sl 2 (.raw [[.str ⟨p.1.toArray⟩, .int .i64 p.2]]) .full), (7, .int .i64 1), (8, .int .i64 s.length)] [AObj.arr 2 (.app (.map T.encPk T.noPk s) (bads 2 (0 + c - List.length s))), .csz 0 2 (0 + c)] (q143_0 n Post)))) → AWP prog 95 n c143_3 [(0, .msl 2 0 0 s.length), (1, .int .i64 i), (2, .sl 2 (.raw [[AV.str ⟨p.1.toArray⟩, .int .i64 p.2]]) .full), (7, .int .i64 1)] [AObj.arr 2 (.map T.encPk T.noPk s)] (q143_0 n Post) := fun s p i n Post h => Go.Ab.awp_sound g143 n _ _ _ _ (kc (by kernel_rfl) h)
def c143_11 : Code := codeSnd c143_10
theorem v143_10 : ∀ (s t : List T.Pk) (p : T.Pk) (i : Int) (n : Nat) (Post : PT),
  needP (0 ≤ i ∧ i ≤ (↑t.length : Int)) (condP (decide (i < (↑t.length : Int))) (needP (0 + Int.toNat i + (List.length t - Int.toNat i) ≤ List.length t ∧ 1 ≤ List.length t - Int.toNat i) (AWP prog 95 n c143_11 [(0, .msl 2 0 0 s.length), (1, .int .i64 i), (7, .int .i64 1), (9, .msl 2 1 0 t.length)] [AObj.arr 2 (.map T.encPk T.noPk s), .arr 2 (copied (.map T.encPk T.noPk t) (0 + Int.toNat i) (.raw [[.str ⟨p.1.toArray⟩, .int .i64 p.2]]))] (q143_1 n Post))) False) → AWP prog 95 n c143_10 [(0, .msl 2 0 0 s.length), (1, .int .i64 i), (2, .sl 2 (.raw [[AV.str ⟨p.1.toArray⟩, .int .i64 p.2]]) .full), (7, .int .i64 1), (9, .msl 2 1 0 t.length)] [AObj.arr 2 (.map T.encPk T.noPk s), .arr 2 (.map T.encPk T.noPk t)] (q143_1 n Post) := fun s t p i n Post h => Go.Ab.awp_sound g143 n _ _ _ _ (kc (by kernel_rfl) h)
def c143_12 : Code := codeSnd c143_11
theorem v143_11 : ∀ (s t : List T.Pk) (i : Int) (n : Nat) (Post : PT),
  needP ((0 : Int) ≤ IntKind.wrap .i64 (i + (1 : Int)) ∧ IntKind.wrap .i64 (i + (1 : Int)) ≤ (↑t.length : Int)) (condP (decide (IntKind.wrap .i64 (i + (1 : Int)) < (↑t.length : Int))) (needP (0 ≤ i ∧ i ≤ (↑s.length : Int)) (condP (decide (i < (↑s.length : Int))) (needP (0 + Int.toNat i + (List.length s - Int.toNat i) ≤ List.length s) (needP (∀ (x : T.Pk), List.all (T.encPk x) oneAV = true) (needP (0 + Int.toNat (IntKind.wrap .i64 (i + (1 : Int))) + (List.length t - Int.toNat (IntKind.wrap .i64 (i + (1 : Int)))) ≤ List.length t ∧ List.length (List.drop (0 + Int.toNat i) (List.take (0 + Int.toNat i + (List.length s - Int.toNat i)) s)) ≤ List.length t - Int.toNat (IntKind.wrap .i64 (i + (1 : Int)))) (AWP prog 95 n c143_12 [(9, .msl 2 1 0 t.length)] [AObj.arr 2 (.map T.encPk T.noPk s), .arr 2 (copied (.map T.encPk T.noPk t) (0 + Int.toNat (IntKind.wrap .i64 (i + (1 : Int)))) (.map T.encPk T.noPk (List.drop (0 + Int.toNat i) (List.take (0 + Int.toNat i + (List.length s - Int.toNat i)) s))))] (q143_1 n Post))))) (needP (0 + Int.toNat (IntKind.wrap .i64 (i + (1 : Int))) + (List.length t - Int.toNat (IntKind.wrap .i64 (i + (1 : Int)))) ≤ List.length t ∧ 0 ≤ List.length t - Int.toNat (IntKind.wrap .i64 (i + (1 : Int)))) (AWP prog 95 n c143_12 [(9, .msl 2 1 0 t.length)] [AObj.arr 2 (.map T.encPk T.noPk s), .arr 2 (copied (.map T.encPk T.noPk t) (0 + Int.toNat (IntKind.wrap .i64 (i + (1 : Int)))) (.raw []))] (q143_1 n Post))))) (needP (0 ≤ i ∧ i ≤ (↑s.length : Int)) (condP (decide (i < (↑s.length : Int))) False False))) → AWP prog 95 n c143_11 [(0, .msl 2 0 0 s.length), (1, .int .i64 i), (7, .int .i64 1), (9, .msl 2 1 0 t.length)] [AObj.arr 2 (.map T.encPk T.noPk s), .arr 2 (.map T.encPk T.noPk t)] (q143_1 n Post) := fun s t i n Post h => Go.Ab.awp_sound g143 n _ _ _ _ (kc (by kernel_rfl) h)
theorem v143_12 : ∀ (s t : List T.Pk) (n : Nat) (Post : PT),
  Post (.msl 2 1 0 t.length) [AObj.arr 2 (.map T.encPk T.noPk s), .arr 2 (.map T.encPk T.noPk t)] → AWP prog 95 n c143_12 [(9, .msl 2 1 0 t.length)] [AObj.arr 2 (.map T.encPk T.noPk s), .arr 2 (.map T.encPk T.noPk t)] (q143_1 n Post) := fun s t n Post h => Go.Ab.awp_sound g143 n _ _ _ _ (kc (by kernel_rfl) h)
def q143_2 (n : Nat) (Post : PT) : AQ := seqQ (fun s' H' => awp prog g143 n (codeSnd c143_14) s' H' (q143_0 n Post)) (q143_0 n Post)
def c143_16 : Code := codeSnd (codeFst (codeSnd (codeFst c143_14)))
theorem v143_14 : ∀ (s : List T.Pk) (p : T.Pk) (i : Int) (d c n : Nat) (Post : PT),
  needP ((0 : Int) ≤ IntKind.wrap .i64 (i + (1 : Int)) ∧ IntKind.wrap .i64 (i + (1 : Int)) ≤ (↑(List.length s + 1) : Int)) (condP (decide (IntKind.wrap .i64 (i + (1 : Int)) < (↑(List.length s + 1) : Int))) (needP (overlapsFn prog 183 2) (needP ((0 : Int) ≤ IntKind.wrap .i64 (i + (1 : Int)) ∧ IntKind.wrap .i64 (i + (1 : Int)) ≤ (↑(List.length s + 1) : Int)) (condP (decide (IntKind.wrap .i64 (i + (1 : Int)) < (↑(List.length s + 1) : Int))) (needP (0 ≤ i ∧ i ≤ (↑(List.length s + 1) : Int)) (condP (decide (i < (↑(List.length s + 1) : Int))) (needP (0 + Int.toNat i + min (List.length s + 1 - Int.toNat i) (List.length s + 1 - Int.toNat (IntKind.wrap .i64 (i + (1 : Int)))) ≤ List.length s) (needP (∀ (x : T.Pk), List.all (T.encPk x) oneAV = true) (needP (0 + Int.toNat (IntKind.wrap .i64 (i + (1 : Int))) + (List.length s + 1 - Int.toNat (IntKind.wrap .i64 (i + (1 : Int)))) ≤ List.length s + Seq.len (bads 2 d) ∧ List.length (List.drop (0 + Int.toNat i) (List.take (0 + Int.toNat i + min (List.length s + 1 - Int.toNat i) (List.length s + 1 - Int.toNat (IntKind.wrap .i64 (i + (1 : Int))))) s)) ≤ List.length s + 1 - Int.toNat (IntKind.wrap .i64 (i + (1 : Int)))) (AWP prog 95 n c143_16 [(0, .msl 2 0 0 (List.length s + 1)), (1, .int .i64 i), (2, .sl 2 (.raw [[AV.str ⟨p.1.toArray⟩, .int .i64 p.2]]) .full)] [AObj.arr 2 (copied (.app (.map T.encPk T.noPk s) (bads 2 d)) (0 + Int.toNat (IntKind.wrap .i64 (i + (1 : Int)))) (.map T.encPk T.noPk (List.drop (0 + Int.toNat i) (List.take (0 + Int.toNat i + min (List.length s + 1 - Int.toNat i) (List.length s + 1 - Int.toNat (IntKind.wrap .i64 (i + (1 : Int))))) s)))), .csz 0 2 c] (q143_2 n Post))))) (needP (0 + Int.toNat (IntKind.wrap .i64 (i + (1 : Int))) + (List.length s + 1 - Int.toNat (IntKind.wrap .i64 (i + (1 : Int)))) ≤ List.length s + Seq.len (bads 2 d) ∧ 0 ≤ List.length s + 1 - Int.toNat (IntKind.wrap .i64 (i + (1 : Int)))) (AWP prog 95 n c143_16 [(0, .msl 2 0 0 (List.length s + 1)), (1, .int .i64 i), (2, .sl 2 (.raw [[AV.str ⟨p.1.toArray⟩, .int .i64 p.2]]) .full)] [AObj.arr 2 (copied (.app (.map T.encPk T.noPk s) (bads 2 d)) (0 + Int.toNat (IntKind.wrap .i64 (i + (1 : Int)))) (.raw [])), .csz 0 2 c] (q143_2 n Post))))) (needP (0 ≤ i ∧ i ≤ (↑(List.length s + 1) : Int)) (condP (decide (i < (↑(List.length s + 1) : Int))) False False))))) False) → AWP prog 95 n c143_14 [(0, .msl 2 0 0 (List.length s + 1)), (1, .int .i64 i), (2, .sl 2 (.raw [[AV.str ⟨p.1.toArray⟩, .int .i64 p.2]]) .full), (7, .int .i64 1), (8, .int .i64 s.length)] [AObj.arr 2 (.app (.map T.encPk T.noPk s) (bads 2 d)), .csz 0 2 c] (q143_0 n Post) := fun s p i d c n Post h => Go.Ab.awp_sound g143 n _ _ _ _ (kc (by kernel_rfl) h)
def c143_17 : Code := codeSnd c143_16
theorem v143_16 : ∀ (s : List T.Pk) (p : T.Pk) (i : Int) (n : Nat) (Post : PT),
  needP (0 ≤ i ∧ i ≤ (↑s.length : Int)) (condP (decide (i < (↑s.length : Int))) (needP (0 + Int.toNat i + (List.length s - Int.toNat i) ≤ List.length s ∧ 1 ≤ List.length s - Int.toNat i) (AWP prog 95 n c143_17 [(0, .msl 2 0 0 s.length)] [AObj.arr 2 (copied (.map T.encPk T.noPk s) (0 + Int.toNat i) (.raw [[.str ⟨p.1.toArray⟩, .int .i64 p.2]]))] (q143_2 n Post))) False) → AWP prog 95 n c143_16 [(0, .msl 2 0 0 s.length), (1, .int .i64 i), (2, .sl 2 (.raw [[AV.str ⟨p.1.toArray⟩, .int .i64 p.2]]) .full)] [AObj.arr 2 (.map T.encPk T.noPk s)] (q143_2 n Post) := fun s p i n Post h => Go.Ab.awp_sound g143 n _ _ _ _ (kc (by kernel_rfl) h)
theorem v143_17 : ∀ (s : List T.Pk) (n : Nat) (Post : PT),
  Post (.msl 2 0 0 s.length) [AObj.arr 2 (.map T.encPk T.noPk s)] → AWP prog 95 n c143_17 [(0, .msl 2 0 0 s.length)] [AObj.arr 2 (.map T.encPk T.noPk s)] (q143_2 n Post) := fun s n Post h => Go.Ab.awp_sound g143 n _ _ _ _ (kc (by kernel_rfl) h)
def l124 : Nat → List Nat
  | 2 => [0, 1, 5, 6]
  | _ => []
def u124 : Nat → Bool
  | 2 => true
  | _ => false
def m124 : Nat → Bool
  | _ => false
def g124 : Cfg := { N := 28, live := l124, cut := u124, mu := m124, ret := rets }
def c124 : Code := bodyOf Tryz.f124
def q124_0 (n : Nat) (Post : PT) : AQ := endQ prog (resultsOf Tryz.f124) Post
def q124_1 (n : Nat) (Post : PT) : AQ := scopeQ prog g124 n (codeFst (codeSnd c124)) (q124_0 n Post)
def c124_2 : Code := codeSnd (codeSnd (codeFst (codeSnd c124)))
theorem s124m : ∀ (s : List T.Pk) (x : List UInt8) (Post : PT),
  AWP prog 28 1 c124_2 [(0, .msl 2 0 0 s.length), (1, .str ⟨x.toArray⟩), (5, .int .i64 0), (6, .int .i64 s.length)] [AObj.arr 2 (.map T.encPk T.noPk s)] (q124_1 1 Post) → ASpec prog 124 [.msl 2 0 0 s.length, .str ⟨x.toArray⟩] [AObj.arr 2 (.map T.encPk T.noPk s)] Post := fun s x Post h => ASpec.of_vc g124 Tryz.func124 (by kernel_rfl) (by kernel_rfl) (by kernel_rfl) (kc (by kernel_rfl) h)
theorem s124v : ∀ (s : List T.Pk) (x : List UInt8) (Post : PT),
  AWP prog 28 0 c124_2 [(0, .sl 2 (.map T.encPk T.noPk s) .none), (1, .str ⟨x.toArray⟩), (5, .int .i64 0), (6, .int .i64 s.length)] [] (q124_1 0 Post) → ASpec prog 124 [AV.sl 2 (.map T.encPk T.noPk s) .none, .str ⟨x.toArray⟩] [] Post := fun s x Post h => ASpec.of_vc g124 Tryz.func124 (by kernel_rfl) (by kernel_rfl) (by kernel_rfl) (kc (by kernel_rfl) h)
theorem v124_2m : ∀ (s : List T.Pk) (x : List UInt8) (lo hi : Int) (n : Nat) (Post : PT),
  condP (lo == hi) (Post (.int .i64 lo) [AObj.arr 2 (.map T.encPk T.noPk s)]) (needP ((2 : Int) ≠ (0 : Int)) (needP ((0 : Int) ≤ IntKind.wrap .i64 (Int.tdiv (IntKind.wrap .i64 (lo + hi)) (2 : Int)) ∧ IntKind.wrap .i64 (Int.tdiv (IntKind.wrap .i64 (lo + hi)) (2 : Int)) < (↑s.length : Int)) (needP (0 + Int.toNat (IntKind.wrap .i64 (Int.tdiv (IntKind.wrap .i64 (lo + hi)) (2 : Int))) < List.length s) (condP (Op.bytesLess (ByteArray.toList { data := List.toArray (Prod.fst (s.getD (0 + Int.toNat (IntKind.wrap .i64 (Int.tdiv (IntKind.wrap .i64 (lo + hi)) (2 : Int)))) T.noPk)) }) (ByteArray.toList ⟨x.toArray⟩)) (AWPS prog 28 n (codeFst (codeSnd c124)) (Code.seq Code.skip c124_2) [(0, .msl 2 0 0 s.length), (1, .str ⟨x.toArray⟩), (5, .int .i64 (IntKind.wrap .i64 (IntKind.wrap .i64 (Int.tdiv (IntKind.wrap .i64 (lo + hi)) (2 : Int)) + (1 : Int)))), (6, .int .i64 hi)] [AObj.arr 2 (.map T.encPk T.noPk s)] (q124_0 n Post)) (AWPS prog 28 n (codeFst (codeSnd c124)) (Code.seq Code.skip c124_2) [(0, .msl 2 0 0 s.length), (1, .str ⟨x.toArray⟩), (5, .int .i64 lo), (6, .int .i64 (IntKind.wrap .i64 (Int.tdiv (IntKind.wrap .i64 (lo + hi)) (2 : Int))))] [AObj.arr 2 (.map T.encPk T.noPk s)] (q124_0 n Post)))))) → AWP prog 28 n c124_2 [(0, .msl 2 0 0 s.length), (1, .str ⟨x.toArray⟩), (5, .int .i64 lo), (6, .int .i64 hi)] [AObj.arr 2 (.map T.encPk T.noPk s)] (q124_1 n Post) := fun s x lo hi n Post h => Go.Ab.awp_sound g124 n _ _ _ _ (kc (by kernel_rfl) h)
theorem v124_2v : ∀ (s : List T.Pk) (x : List UInt8) (lo hi : Int) (n : Nat) (Post : PT),
  condP (lo == hi) (Post (.int .i64 lo) []) (needP ((2 : Int) ≠ (0 : Int)) (needP ((0 : Int) ≤ IntKind.wrap .i64 (Int.tdiv (IntKind.wrap .i64 (lo + hi)) (2 : Int)) ∧ IntKind.wrap .i64 (Int.tdiv (IntKind.wrap .i64 (lo + hi)) (2 : Int)) < (↑s.length : Int)) (condP (Op.bytesLess (ByteArray.toList { data := List.toArray (Prod.fst (s.getD (Int.toNat (IntKind.wrap .i64 (Int.tdiv (IntKind.wrap .i64 (lo + hi)) (2 : Int)))) T.noPk)) }) (ByteArray.toList ⟨x.toArray⟩)) (AWPS prog 28 n (codeFst (codeSnd c124)) (Code.seq Code.skip c124_2) [(0, .sl 2 (.map T.encPk T.noPk s) .none), (1, .str ⟨x.toArray⟩), (5, .int .i64 (IntKind.wrap .i64 (IntKind.wrap .i64 (Int.tdiv (IntKind.wrap .i64 (lo + hi)) (2 : Int)) + (1 : Int)))), (6, .int .i64 hi)] [] (q124_0 n Post)) (AWPS prog 28 n (codeFst (codeSnd c124)) (Code.seq Code.skip c124_2) [(0, .sl 2 (.map T.encPk T.noPk s) .none), (1, .str ⟨x.toArray⟩), (5, .int .i64 lo), (6, .int .i64 (IntKind.wrap .i64 (Int.tdiv (IntKind.wrap .i64 (lo + hi)) (2 : Int))))] [] (q124_0 n Post))))) → AWP prog 28 n c124_2 [(0, .sl 2 (.map T.encPk T.noPk s) .none), (1, .str ⟨x.toArray⟩), (5, .int .i64 lo), (6, .int .i64 hi)] [] (q124_1 n Post) := fun s x lo hi n Post h => Go.Ab.awp_sound g124 n _ _ _ _ (kc (by kernel_rfl) h)
def l98 : Nat → List Nat
  | 2 => [3, 5]
  | 3 => [3, 5, 6]
  | 5 => [5]
  | _ => []
def u98 : Nat → Bool
  | 2 => true
  | 3 => true
  | 5 => true
  | _ => false
def m98 : Nat → Bool
  | _ => false
def g98 : Cfg := { N := 37, live := l98, cut := u98, mu := m98, ret := rets }
def c98 : Code := bodyOf Tryz.f98
def q98_0 (n : Nat) (Post : PT) : AQ := endQ prog (resultsOf Tryz.f98) Post
def c98_2 : Code := codeSnd (codeSnd c98)
theorem s98 : ∀ (s : List T.Pk) (p : T.Pk) (Post : PT),
  (ASpec prog 142 [.sl 2 (.map T.encPk T.noPk s) .none] [AObj.cells [.str ⟨p.1.toArray⟩, .int .i64 p.2]] fun r H' => ∃ (x : List T.Pk), r = AV.msl 2 1 0 x.length ∧ H' = [AObj.cells [AV.str ⟨p.1.toArray⟩, .int .i64 p.2], .arr 2 (.map T.encPk T.noPk x)] ∧ AWP prog 37 0 c98_2 [(3, .ptr 0 0), (5, .msl 2 1 0 x.length)] [AObj.cells [AV.str ⟨p.1.toArray⟩, .int .i64 p.2], .arr 2 (.map T.encPk T.noPk x)] (q98_0 0 Post)) → ASpec prog 98 [.sl 2 (.map T.encPk T.noPk s) .none, .agg (T.encPk p)] [] Post := fun s p Post h => ASpec.of_vc g98 Tryz.func98 (by kernel_rfl) (by kernel_rfl) (by kernel_rfl) (kc (by kernel_rfl) h)
def c98_3 : Code := codeSnd c98_2
theorem v98_2 : ∀ (s : List T.Pk) (p : T.Pk) (n : Nat) (Post : PT),
  (ASpec prog 124 [.msl 2 1 0 s.length, .str ⟨p.1.toArray⟩] [AObj.cells [AV.str ⟨p.1.toArray⟩, .int .i64 p.2], .arr 2 (.map T.encPk T.noPk s)] fun r H' => ∃ (x : Int), r = AV.int .i64 x ∧ H' = [AObj.cells [.str ⟨p.1.toArray⟩, .int .i64 p.2], .arr 2 (.map T.encPk T.noPk s)] ∧ AWP prog 37 n c98_3 [(3, .ptr 0 0), (5, .msl 2 1 0 s.length), (6, .int .i64 x)] [AObj.cells [AV.str ⟨p.1.toArray⟩, .int .i64 p.2], .arr 2 (.map T.encPk T.noPk s)] (q98_0 n Post)) → AWP prog 37 n c98_2 [(3, .ptr 0 0), (5, .msl 2 1 0 s.length)] [AObj.cells (T.encPk p), .arr 2 (.map T.encPk T.noPk s)] (q98_0 n Post) := fun s p n Post h => Go.Ab.awp_sound g98 n _ _ _ _ (kc (by kernel_rfl) h)
def q98_1 (n : Nat) (Post : PT) : AQ := seqQ (fun s' H' => awp prog g98 n (codeSnd c98_3) s' H' (q98_0 n Post)) (q98_0 n Post)
def c98_5 : Code := codeSnd (codeFst (codeSnd (codeFst c98_3)))
theorem v98_3 : ∀ (s : List T.Pk) (p : T.Pk) (k : Int) (n : Nat) (Post : PT),
  condP (decide (k < (↑s.length : Int))) (needP (0 ≤ k ∧ k < (↑s.length : Int)) (needP (0 + Int.toNat k < List.length s) (condP (ByteArray.toList ⟨(s.getD (0 + Int.toNat k) T.noPk).1.toArray⟩ == ByteArray.toList ⟨p.1.toArray⟩) (needP (0 ≤ k ∧ k < (↑s.length : Int)) (needP (0 + Int.toNat k < List.length s) (AWP prog 37 n c98_5 [(5, .msl 2 1 0 s.length)] [AObj.cells [AV.str ⟨p.1.toArray⟩, .int .i64 p.2], .arr 2 (.raw (List.set (Seq.toList (.map T.encPk T.noPk s)) (0 + Int.toNat k) [AV.str ⟨p.1.toArray⟩, .int .i64 p.2]))] (q98_1 n Post)))) (ASpec prog 143 [.msl 2 1 0 s.length, .int .i64 k, AV.sl 2 (.raw [[AV.str ⟨p.1.toArray⟩, .int .i64 p.2]]) .full] [AObj.cells [.str ⟨p.1.toArray⟩, .int .i64 p.2], .arr 2 (.map T.encPk T.noPk s)] fun r H' => ∃ (x : List T.Pk), r = AV.sl 2 (.map T.encPk T.noPk x) .none ∧ H' = [AObj.cells [.str ⟨p.1.toArray⟩, .int .i64 p.2], .gone] ∧ Post (.sl 2 (.map T.encPk T.noPk x) .none) [AObj.cells [.str ⟨p.1.toArray⟩, .int .i64 p.2], .gone])))) (ASpec prog 143 [.msl 2 1 0 s.length, .int .i64 k, AV.sl 2 (.raw [[AV.str ⟨p.1.toArray⟩, .int .i64 p.2]]) .full] [AObj.cells [.str ⟨p.1.toArray⟩, .int .i64 p.2], .arr 2 (.map T.encPk T.noPk s)] fun r H' => ∃ (x : List T.Pk), r = AV.sl 2 (.map T.encPk T.noPk x) .none ∧ H' = [AObj.cells [.str ⟨p.1.toArray⟩, .int .i64 p.2], .gone] ∧ Post (.sl 2 (.map T.encPk T.noPk x) .none) [AObj.cells [.str ⟨p.1.toArray⟩, .int .i64 p.2], .gone]) → AWP prog 37 n c98_3 [(3, .ptr 0 0), (5, .msl 2 1 0 s.length), (6, .int .i64 k)] [AObj.cells (T.encPk p), .arr 2 (.map T.encPk T.noPk s)] (q98_0 n Post) := fun s p k n Post h => Go.Ab.awp_sound g98 n _ _ _ _ (kc (by kernel_rfl) h)
theorem v98_5 : ∀ (s : List T.Pk) (p : T.Pk) (n : Nat) (Post : PT),
  Post (.msl 2 1 0 s.length) [AObj.cells [AV.str ⟨p.1.toArray⟩, .int .i64 p.2], .arr 2 (.map T.encPk T.noPk s)] → AWP prog 37 n c98_5 [(5, .msl 2 1 0 s.length)] [AObj.cells (T.encPk p), .arr 2 (.map T.encPk T.noPk s)] (q98_1 n Post) := fun s p n Post h => Go.Ab.awp_sound g98 n _ _ _ _ (kc (by kernel_rfl) h)
def l142 : Nat → List Nat
  | _ => []
def u142 : Nat → Bool
  | _ => false
def m142 : Nat → Bool
  | 7 => true
  | _ => false
def g142 : Cfg := { N := 8, live := l142, cut := u142, mu := m142, ret := rets }
theorem s142s : ∀ (s : List T.Pk) (Post : PT),
  (∀ (b : Bool), (b = true → Seq.toList (.map T.encPk T.noPk s) = []) → condP b (Post (.sl 0 (.raw []) .nil) []) (needP (∀ (x : T.Pk), List.all (T.encPk x) oneAV = true) (needP ((0 + List.length s) * 24 ≤ 140737488351232) (needP (1 ≤ List.length s) (Post (.msl 2 0 0 s.length) [AObj.arr 2 (.map T.encPk T.noPk s)]))))) → ASpec prog 142 [.sl 2 (.map T.encPk T.noPk s) .none] [] Post := fun s Post h => ASpec.of_vc g142 Tryz.func142 (by kernel_rfl) (by kernel_rfl) (by kernel_rfl) (kc (by kernel_rfl) h)
end
end In
end

noncomputable section
open Go Go.Ab Go.Proofs
open Go.Proofs.Tryz (prog)
namespace Inn
noncomputable section
def tokId : List AV → Nat
  | .sl _ _ (.tok id) :: _ => id
  | _ => 1000
def retI : List (Nat × Ret) := [
  (142, ⟨Unit, fun _ H _ => .sl 0 (.raw []) .nil, fun _ H _ => H⟩),
  (142, ⟨Unit, fun _ H _ => .sl 2 (.map T.encPk T.noPk []) (.tok H.length), fun _ H _ => H ++ [.tok]⟩),
  (124, ⟨Int, fun _ _ x => .int .i64 x, fun _ H _ => H⟩),
  (143, ⟨List T.Pk, fun _ _ x => .sl 2 (.map T.encPk T.noPk x) .none, fun a H _ => H.set (tokId a) .gone⟩)]
def rets : FuncId → List Ret := lookupR (retI ++ C.retC ++ V.retL)
def l142 : Nat → List Nat
  | _ => []
def u142 : Nat → Bool
  | _ => false
def m142 : Nat → Bool
  | _ => false
def g142 : Cfg := { N := 8, live := l142, cut := u142, mu := m142, ret := rets }
theorem s142 : ∀ (Post : PT),
  (∀ (b : Bool), (b = true → Seq.toList (.map T.encPk T.noPk []) = []) → condP b (Post (.sl 0 (.raw []) .nil) []) (needP (∀ (x : T.Pk), List.all (T.encPk x) oneAV = true) (needP (0 ≤ 140737488351232) (Post (.sl 2 (.app (.raw []) (.map T.encPk T.noPk [])) (.tok 0)) [AObj.tok])))) → ASpec prog 142 [.sl 2 (.map T.encPk T.noPk []) .none] [] Post := fun Post h => ASpec.of_vc g142 Tryz.func142 (by kernel_rfl) (by kernel_rfl) (by kernel_rfl) (kc (by kernel_rfl) h)
def l143 : Nat → List Nat
  | _ => []
def u143 : Nat → Bool
  | _ => false
def m143 : Nat → Bool
  | _ => false
def g143 : Cfg := { N := 95, live := l143, cut := u143, mu := m143, ret := rets }
theorem s143n : ∀ (p : T.Pk) (Post : PT),
  needP ((0 : Int) ≤ (0 : Int) ∧ (0 : Int) ≤ (0 : Int)) (needP (24 ≤ 140737488351232) (Post (.sl 2 (.app (.raw []) (.raw [[.str ⟨p.1.toArray⟩, .int .i64 p.2]])) (.tok 0)) [AObj.tok])) → ASpec prog 143 [.sl 0 (.raw []) .nil, AV.int .i64 0, .sl 2 (.raw [T.encPk p]) .full] [] Post := fun p Post h => ASpec.of_vc g143 Tryz.func143 (by kernel_rfl) (by kernel_rfl) (by kernel_rfl) (kc (by kernel_rfl) h)
theorem s143t : ∀ (p : T.Pk) (Post : PT),
  needP ((0 : Int) ≤ (0 : Int) ∧ (0 : Int) ≤ (0 : Int)) (needP (24 ≤ 140737488351232) (Post (.sl 2 (.app (.map T.encPk T.noPk []) (.raw [[.str ⟨p.1.toArray⟩, .int .i64 p.2]])) (.tok 1)) [AObj.gone, .tok])) → ASpec prog 143 [.sl 2 (.map T.encPk T.noPk []) (.tok 0), .int .i64 0, .sl 2 (.raw [T.encPk p]) .full] [AObj.tok] Post := fun p Post h => ASpec.of_vc g143 Tryz.func143 (by kernel_rfl) (by kernel_rfl) (by kernel_rfl) (kc (by kernel_rfl) h)
def l98 : Nat → List Nat
  | 2 => [3, 5]
  | 3 => [3, 5, 6]
  | _ => []
def u98 : Nat → Bool
  | 2 => true
  | 3 => true
  | _ => false
def m98 : Nat → Bool
  | _ => false
def g98 : Cfg := { N := 37, live := l98, cut := u98, mu := m98, ret := rets }
def c98 : Code := bodyOf Tryz.f98
def q98_0 (n : Nat) (Post : PT) : AQ := endQ prog (resultsOf Tryz.f98) Post
def c98_2 : Code := codeSnd (codeSnd c98)
theorem s98 : ∀ (p : T.Pk) (Post : PT),
  (ASpec prog 142 [.sl 2 (.map T.encPk T.noPk []) .none] [AObj.cells [.str ⟨p.1.toArray⟩, .int .i64 p.2]] fun r H' => (∃ (x : Unit), r = AV.sl 0 (.raw []) .nil ∧ H' = [AObj.cells [.str ⟨p.1.toArray⟩, .int .i64 p.2]] ∧ AWP prog 37 0 c98_2 [(3, .ptr 0 0), (5, .sl 0 (.raw []) .nil)] [AObj.cells [.str ⟨p.1.toArray⟩, .int .i64 p.2]] (q98_0 0 Post)) ∨ ∃ (x : Unit), r = AV.sl 2 (.map T.encPk T.noPk []) (.tok 1) ∧ H' = [AObj.cells [.str ⟨p.1.toArray⟩, .int .i64 p.2], .tok] ∧ AWP prog 37 0 c98_2 [(3, .ptr 0 0), (5, .sl 2 (.map T.encPk T.noPk []) (.tok 1))] [AObj.cells [.str ⟨p.1.toArray⟩, .int .i64 p.2], .tok] (q98_0 0 Post)) → ASpec prog 98 [.sl 2 (.map T.encPk T.noPk []) .none, .agg (T.encPk p)] [] Post := fun p Post h => ASpec.of_vc g98 Tryz.func98 (by kernel_rfl) (by kernel_rfl) (by kernel_rfl) (kc (by kernel_rfl) h)
def c98_3 : Code := codeSnd c98_2
theorem v98_2n : ∀ (p : T.Pk) (n : Nat) (Post : PT),
  (ASpec prog 124 [.sl 0 (.raw []) .nil, AV.str ⟨p.1.toArray⟩] [AObj.cells [AV.str ⟨p.1.toArray⟩, .int .i64 p.2]] fun r H' => ∃ (x : Int), r = AV.int .i64 x ∧ H' = [AObj.cells [.str ⟨p.1.toArray⟩, .int .i64 p.2]] ∧ AWP prog 37 n c98_3 [(3, .ptr 0 0), (5, .sl 0 (.raw []) .nil), (6, .int .i64 x)] [AObj.cells [.str ⟨p.1.toArray⟩, .int .i64 p.2]] (q98_0 n Post)) → AWP prog 37 n c98_2 [(3, .ptr 0 0), (5, .sl 0 (.raw []) .nil)] [AObj.cells (T.encPk p)] (q98_0 n Post) := fun p n Post h => Go.Ab.awp_sound g98 n _ _ _ _ (kc (by kernel_rfl) h)
theorem v98_2t : ∀ (p : T.Pk) (n : Nat) (Post : PT),
  (ASpec prog 124 [.sl 2 (.map T.encPk T.noPk []) (.tok 1), .str ⟨p.1.toArray⟩] [AObj.cells [AV.str ⟨p.1.toArray⟩, .int .i64 p.2], .tok] fun r H' => ∃ (x : Int), r = AV.int .i64 x ∧ H' = [AObj.cells [.str ⟨p.1.toArray⟩, .int .i64 p.2], .tok] ∧ AWP prog 37 n c98_3 [(3, .ptr 0 0), (5, .sl 2 (.map T.encPk T.noPk []) (.tok 1)), (6, .int .i64 x)] [AObj.cells [.str ⟨p.1.toArray⟩, .int .i64 p.2], .tok] (q98_0 n Post)) → AWP prog 37 n c98_2 [(3, .ptr 0 0), (5, .sl 2 (.map T.encPk T.noPk []) (.tok 1))] [AObj.cells (T.encPk p), .tok] (q98_0 n Post) := fun p n Post h => Go.Ab.awp_sound g98 n _ _ _ _ (kc (by kernel_rfl) h)
theorem v98_3n : ∀ (p : T.Pk) (k : Int) (n : Nat) (Post : PT),
  condP (decide (k < (0 : Int))) (needP (0 ≤ k ∧ k < (0 : Int)) False) (ASpec prog 143 [.sl 0 (.raw []) .nil, AV.int .i64 k, AV.sl 2 (.raw [[.str ⟨p.1.toArray⟩, .int .i64 p.2]]) .full] [AObj.cells [.str ⟨p.1.toArray⟩, .int .i64 p.2]] fun r H' => ∃ (x : List T.Pk), r = AV.sl 2 (.map T.encPk T.noPk x) .none ∧ H' = [AObj.cells [.str ⟨p.1.toArray⟩, .int .i64 p.2]] ∧ Post (.sl 2 (.map T.encPk T.noPk x) .none) [AObj.cells [.str ⟨p.1.toArray⟩, .int .i64 p.2]]) → AWP prog 37 n c98_3 [(3, .ptr 0 0), (5, .sl 0 (.raw []) .nil), (6, .int .i64 k)] [AObj.cells (T.encPk p)] (q98_0 n Post) := fun p k n Post h => Go.Ab.awp_sound g98 n _ _ _ _ (kc (by kernel_rfl) h)
theorem v98_3t : ∀ (p : T.Pk) (k : Int) (n : Nat) (Post : PT),
  condP (decide (k < (0 : Int))) (needP (0 ≤ k ∧ k < (0 : Int)) (condP (ByteArray.toList ⟨(List.getD [] k.toNat T.noPk).1.toArray⟩ == ByteArray.toList ⟨p.1.toArray⟩) (needP (0 ≤ k ∧ k < (0 : Int)) False) (ASpec prog 143 [.sl 2 (.map T.encPk T.noPk []) (.tok 1), .int .i64 k, AV.sl 2 (.raw [[.str ⟨p.1.toArray⟩, .int .i64 p.2]]) .full] [AObj.cells [.str ⟨p.1.toArray⟩, .int .i64 p.2], .tok] fun r H' => ∃ (x : List T.Pk), r = AV.sl 2 (.map T.encPk T.noPk x) .none ∧ H' = [AObj.cells [.str ⟨p.1.toArray⟩, .int .i64 p.2], .gone] ∧ Post (.sl 2 (.map T.encPk T.noPk x) .none) [AObj.cells [.str ⟨p.1.toArray⟩, .int .i64 p.2], .gone]))) (ASpec prog 143 [.sl 2 (.map T.encPk T.noPk []) (.tok 1), .int .i64 k, AV.sl 2 (.raw [[.str ⟨p.1.toArray⟩, .int .i64 p.2]]) .full] [AObj.cells [.str ⟨p.1.toArray⟩, .int .i64 p.2], .tok] fun r H' => ∃ (x : List T.Pk), r = AV.sl 2 (.map T.encPk T.noPk x) .none ∧ H' = [AObj.cells [.str ⟨p.1.toArray⟩, .int .i64 p.2], .gone] ∧ Post (.sl 2 (.map T.encPk T.noPk x) .none) [AObj.cells [.str ⟨p.1.toArray⟩, .int .i64 p.2], .gone]) → AWP prog 37 n c98_3 [(3, .ptr 0 0), (5, .sl 2 (.map T.encPk T.noPk []) (.tok 1)), (6, .int .i64 k)] [AObj.cells (T.encPk p), .tok] (q98_0 n Post) := fun p k n Post h => Go.Ab.awp_sound g98 n _ _ _ _ (kc (by kernel_rfl) h)
end
end Inn
end

noncomputable section
open Go Go.Ab Go.Proofs
open Go.Proofs.Tryz (prog)
namespace S
noncomputable section
def retS : List (Nat × Ret) := [
  (18032, ⟨Unit, fun _ _ _ => .bool true, fun _ H _ => H⟩),
  (18033, ⟨ByteArray × List UInt8 × Int, fun _ _ x => .tup [.str x.1, .sl 1 (.map encB 0 x.2.1) .none, .int .i64 x.2.2], fun _ H _ => H⟩),
  (9045, ⟨ByteArray × ByteArray × Int, fun _ _ x => .tup [.str x.1, .str x.2.1, .int .i64 x.2.2], fun _ H _ => H⟩),
  (9262, ⟨List UInt8, fun _ _ x => .sl 1 (.map encB 0 x) .none, fun _ H _ => H⟩),
  (9325, ⟨ByteArray, fun _ _ x => .str x, fun _ H _ => H⟩),
  (41, ⟨Bool, fun _ _ x => .bool x, fun _ H _ => H⟩),
  (18090, ⟨List UInt8 × Bool, fun _ _ x => .tup [.sl 1 (.map encB 0 x.1) .none, .bool x.2], fun _ H _ => H⟩),
  (51, ⟨Bool, fun _ _ x => .bool x, fun _ H _ => H⟩),
  (9170, ⟨ByteArray × Bool, fun _ _ x => .tup [.str x.1, .bool x.2], fun _ H _ => H⟩),
  (9323, ⟨List UInt8, fun _ _ x => .sl 1 (.map encB 0 x) .none, fun _ H _ => H⟩),
  (9263, ⟨ByteArray, fun _ _ x => .str x, fun _ H _ => H⟩),
  (91, ⟨List Int, fun _ _ x => .sl 1 (.map encI 0 x) .none, fun _ H _ => H⟩),
  (92, ⟨Int, fun _ _ x => .int .i64 x, fun _ H _ => H⟩),
  (9372, ⟨Int, fun _ _ x => .int .u32 x, fun _ H _ => H⟩),
  (100, ⟨Int, fun _ _ x => .int .i64 x, fun _ H _ => H⟩),
  (9324, ⟨Int, fun _ _ x => .int .i64 x, fun _ H _ => H⟩),
  (138, ⟨Int × Int, fun _ _ x => .tup [.int .i64 x.1, .int .i64 x.2], fun _ H _ => H⟩),
  (9393, ⟨Int, fun _ _ x => .int .u32 x, fun _ H _ => H⟩),
  (9373, ⟨Int, fun _ _ x => .int .i64 x, fun _ H _ => H⟩),
  (182, ⟨Int, fun _ _ x => .int .i64 x, fun _ H _ => H⟩)]
def rets : FuncId → List Ret := lookupR (retS ++ V.retL)
def l100 : Nat → List Nat
  | _ => []
def u100 : Nat → Bool
  | _ => false
def m100 : Nat → Bool
  | _ => false
def g100 : Cfg := { N := 27, live := l100, cut := u100, mu := m100, ret := rets }
theorem s100 : ∀ (c : Int) (Post : PT),
  condP (decide (c ≥ (97 : Int))) (condP (decide (c ≤ (122 : Int))) (Post (.int .i64 0) []) (condP (decide (c ≥ (945 : Int))) (condP (decide (c ≤ (969 : Int))) (Post (.int .i64 1) []) (condP (decide (c ≥ (48 : Int))) (condP (decide (c ≤ (57 : Int))) (Post (.int .i64 2) []) (condP (c == (45 : Int)) (Post (.int .i64 3) []) (Post (.int .i64 4) []))) (condP (c == (45 : Int)) (Post (.int .i64 3) []) (Post (.int .i64 4) [])))) (condP (decide (c ≥ (48 : Int))) (condP (decide (c ≤ (57 : Int))) (Post (.int .i64 2) []) (condP (c == (45 : Int)) (Post (.int .i64 3) []) (Post (.int .i64 4) []))) (condP (c == (45 : Int)) (Post (.int .i64 3) []) (Post (.int .i64 4) []))))) (condP (decide (c ≥ (945 : Int))) (condP (decide (c ≤ (969 : Int))) (Post (.int .i64 1) []) (condP (decide (c ≥ (48 : Int))) (condP (decide (c ≤ (57 : Int))) (Post (.int .i64 2) []) (condP (c == (45 : Int)) (Post (.int .i64 3) []) (Post (.int .i64 4) []))) (condP (c == (45 : Int)) (Post (.int .i64 3) []) (Post (.int .i64 4) [])))) (condP (decide (c ≥ (48 : Int))) (condP (decide (c ≤ (57 : Int))) (Post (.int .i64 2) []) (condP (c == (45 : Int)) (Post (.int .i64 3) []) (Post (.int .i64 4) []))) (condP (c == (45 : Int)) (Post (.int .i64 3) []) (Post (.int .i64 4) [])))) → ASpec prog 100 [.int .i32 c] [] Post := fun c Post h => ASpec.of_vc g100 Tryz.func100 (by kernel_rfl) (by kernel_rfl) (by kernel_rfl) (kc (by kernel_rfl) h)
def l92 : Nat → List Nat
  | _ => []
def u92 : Nat → Bool
  | _ => false
def m92 : Nat → Bool
  | _ => false
def g92 : Cfg := { N := 23, live := l92, cut := u92, mu := m92, ret := rets }
theorem s92 : ∀ (c : Int) (Post : PT),
  condP (decide (c ≥ (97 : Int))) (condP (decide (c ≤ (122 : Int))) (Post (.int .i64 0) []) (condP (decide (c ≥ (945 : Int))) (condP (decide (c ≤ (969 : Int))) (Post (.int .i64 1) []) (condP (decide (c ≥ (48 : Int))) (condP (decide (c ≤ (57 : Int))) (Post (.int .i64 2) []) (condP (c == (45 : Int)) (Post (.int .i64 3) []) (Post (.int .i64 4) []))) (condP (c == (45 : Int)) (Post (.int .i64 3) []) (Post (.int .i64 4) [])))) (condP (decide (c ≥ (48 : Int))) (condP (decide (c ≤ (57 : Int))) (Post (.int .i64 2) []) (condP (c == (45 : Int)) (Post (.int .i64 3) []) (Post (.int .i64 4) []))) (condP (c == (45 : Int)) (Post (.int .i64 3) []) (Post (.int .i64 4) []))))) (condP (decide (c ≥ (945 : Int))) (condP (decide (c ≤ (969 : Int))) (Post (.int .i64 1) []) (condP (decide (c ≥ (48 : Int))) (condP (decide (c ≤ (57 : Int))) (Post (.int .i64 2) []) (condP (c == (45 : Int)) (Post (.int .i64 3) []) (Post (.int .i64 4) []))) (condP (c == (45 : Int)) (Post (.int .i64 3) []) (Post (.int .i64 4) [])))) (condP (decide (c ≥ (48 : Int))) (condP (decide (c ≤ (57 : Int))) (Post (.int .i64 2) []) (condP (c == (45 : Int)) (Post (.int .i64 3) []) (Post (.int .i64 4) []))) (condP (c == (45 : Int)) (Post (.int .i64 3) []) (Post (.int .i64 4) [])))) → ASpec prog 92 [.int .i64 c] [] Post := fun c Post h => ASpec.of_vc g92 Tryz.func92 (by kernel_rfl) (by kernel_rfl) (by kernel_rfl) (kc (by kernel_rfl) h)
def l51 : Nat → List Nat
  | 3 => [3, 8]
  | _ => []
def u51 : Nat → Bool
  | _ => false
def m51 : Nat → Bool
  | _ => false
def g51 : Cfg := { N := 32, live := l51, cut := u51, mu := m51, ret := rets }
def c51 : Code := bodyOf Tryz.f51
def q51_0 (n : Nat) (Post : PT) : AQ := endQ prog (resultsOf Tryz.f51) Post
def q51_1 (n : Nat) (Post : PT) : AQ := seqQ (fun s' H' => awp prog g51 n (codeSnd (codeSnd (codeSnd c51))) s' H' (q51_0 n Post)) (q51_0 n Post)
def q51_2 (n : Nat) (Post : PT) : AQ := blockQ 0 (q51_1 n Post)
def c51_3 : Code := codeFst (codeSnd (codeFst (codeSnd (codeSnd c51))))
theorem s51 : ∀ (s : ByteArray) (Post : PT),
  AWP prog 32 0 c51_3 [(3, .int .i64 0), (8, .ptr 0 0)] [AObj.siter s 0] (q51_2 0 Post) → ASpec prog 51 [.str s] [] Post := fun s Post h => ASpec.of_vc g51 Tryz.func51 (by kernel_rfl) (by kernel_rfl) (by kernel_rfl) (kc (by kernel_rfl) h)
theorem v51_3 : ∀ (s : ByteArray) (pos : Nat) (n : Int) (n_1 : Nat) (Post : PT),
  condP (decide (pos < ByteArray.size s)) (ASpec prog 100 [.int .i32 (↑(Utf8.decode s pos).1 : Int)] [AObj.siter s (pos + (Utf8.decode s pos).2)] fun r H' => ∃ (x : Int), r = AV.int .i64 x ∧ H' = [AObj.siter s (pos + (Utf8.decode s pos).2)] ∧ condP (decide (x > (3 : Int))) (Post (.bool false) [AObj.siter s (pos + (Utf8.decode s pos).2)]) (condP (n == (0 : Int)) (condP (decide (x > (1 : Int))) (Post (.bool false) [AObj.siter s (pos + (Utf8.decode s pos).2)]) (condP (n == (12 : Int)) (Post (.bool false) [AObj.siter s (pos + (Utf8.decode s pos).2)]) (AWP prog 32 n_1 c51_3 [(3, .int .i64 (IntKind.wrap .i64 (n + (1 : Int)))), (8, .ptr 0 0)] [AObj.siter s (pos + (Utf8.decode s pos).2)] (q51_2 n_1 Post)))) (condP (n == (12 : Int)) (Post (.bool false) [AObj.siter s (pos + (Utf8.decode s pos).2)]) (AWP prog 32 n_1 c51_3 [(3, .int .i64 (IntKind.wrap .i64 (n + (1 : Int)))), (8, .ptr 0 0)] [AObj.siter s (pos + (Utf8.decode s pos).2)] (q51_2 n_1 Post))))) (Post (.bool (decide (n > (0 : Int)))) [AObj.siter s pos]) → AWP prog 32 n_1 c51_3 [(3, .int .i64 n), (8, .ptr 0 0)] [AObj.siter s pos] (q51_2 n_1 Post) := fun s pos n n Post h => AWP.loop' g51 (Cfg.live g51) c51_3 (by kernel_rfl) (by kernel_rfl) (kc (by kernel_rfl) h)
def l182 : Nat → List Nat
  | 5 => [0, 1, 5, 6]
  | 7 => [0, 1, 5, 6]
  | 9 => [0, 1, 5, 6]
  | 11 => [0, 1, 5, 6]
  | 12 => [0, 1, 5, 6, 7]
  | 16 => [0, 1, 5, 6]
  | _ => []
def u182 : Nat → Bool
  | 5 => true
  | 7 => true
  | 9 => true
  | 11 => true
  | 16 => true
  | _ => false
def m182 : Nat → Bool
  | _ => false
def g182 : Cfg := { N := 96, live := l182, cut := u182, mu := m182, ret := rets }
def c182 : Code := bodyOf Tryz.f182
def q182_0 (n : Nat) (Post : PT) : AQ := endQ prog (resultsOf Tryz.f182) Post
def c182_5 : Code := codeSnd (codeSnd (codeSnd (codeSnd c182)))
theorem s182 : ∀ (s : ByteArray) (p : Int) (Post : PT),
  needP (0 ≤ p ∧ p < (↑(ByteArray.size s) : Int)) (condP (decide (IntKind.wrap .i64 (↑(UInt8.toNat (List.getD (Array.toList (ByteArray.data s)) p.toNat (0 : UInt8))) : Int) ≥ (194 : Int))) (condP (decide (IntKind.wrap .i64 (↑(UInt8.toNat (List.getD (Array.toList (ByteArray.data s)) p.toNat (0 : UInt8))) : Int) ≤ (223 : Int))) (AWP prog 96 0 c182_5 [(0, .str s), (1, .int .i64 p), (5, .int .i64 2), (6, .int .i64 (IntKind.wrap .i64 (↑(UInt8.toNat (List.getD (Array.toList (ByteArray.data s)) p.toNat (0 : UInt8))) : Int)))] [] (q182_0 0 Post)) (AWP prog 96 0 c182_5 [(0, .str s), (1, .int .i64 p), (5, .int .i64 0), (6, .int .i64 (IntKind.wrap .i64 (↑(UInt8.toNat (List.getD (Array.toList (ByteArray.data s)) p.toNat (0 : UInt8))) : Int)))] [] (q182_0 0 Post))) (AWP prog 96 0 c182_5 [(0, .str s), (1, .int .i64 p), (5, .int .i64 0), (6, .int .i64 (IntKind.wrap .i64 (↑(UInt8.toNat (List.getD (Array.toList (ByteArray.data s)) p.toNat (0 : UInt8))) : Int)))] [] (q182_0 0 Post))) → ASpec prog 182 [.str s, AV.int .i64 p] [] Post := fun s p Post h => ASpec.of_vc g182 Tryz.func182 (by kernel_rfl) (by kernel_rfl) (by kernel_rfl) (kc (by kernel_rfl) h)
def c182_7 : Code := codeSnd c182_5
theorem v182_5 : ∀ (s : ByteArray) (p n c : Int) (n_1 : Nat) (Post : PT),
  condP (decide (c ≥ (224 : Int))) (condP (decide (c ≤ (239 : Int))) (AWP prog 96 n_1 c182_7 [(0, .str s), (1, .int .i64 p), (5, .int .i64 3), (6, .int .i64 c)] [] (q182_0 n_1 Post)) (AWP prog 96 n_1 c182_7 [(0, .str s), (1, .int .i64 p), (5, .int .i64 n), (6, .int .i64 c)] [] (q182_0 n_1 Post))) (AWP prog 96 n_1 c182_7 [(0, .str s), (1, .int .i64 p), (5, .int .i64 n), (6, .int .i64 c)] [] (q182_0 n_1 Post)) → AWP prog 96 n_1 c182_5 [(0, .str s), (1, .int .i64 p), (5, .int .i64 n), (6, .int .i64 c)] [] (q182_0 n_1 Post) := fun s p n c n Post h => Go.Ab.awp_sound g182 n _ _ _ _ (kc (by kernel_rfl) h)
def c182_9 : Code := codeSnd c182_7
theorem v182_7 : ∀ (s : ByteArray) (p n c : Int) (n_1 : Nat) (Post : PT),
  condP (decide (c ≥ (240 : Int))) (condP (decide (c ≤ (244 : Int))) (AWP prog 96 n_1 c182_9 [(0, .str s), (1, .int .i64 p), (5, .int .i64 4), (6, .int .i64 c)] [] (q182_0 n_1 Post)) (AWP prog 96 n_1 c182_9 [(0, .str s), (1, .int .i64 p), (5, .int .i64 n), (6, .int .i64 c)] [] (q182_0 n_1 Post))) (AWP prog 96 n_1 c182_9 [(0, .str s), (1, .int .i64 p), (5, .int .i64 n), (6, .int .i64 c)] [] (q182_0 n_1 Post)) → AWP prog 96 n_1 c182_7 [(0, .str s), (1, .int .i64 p), (5, .int .i64 n), (6, .int .i64 c)] [] (q182_0 n_1 Post) := fun s p n c n Post h => Go.Ab.awp_sound g182 n _ _ _ _ (kc (by kernel_rfl) h)
def c182_11 : Code := codeSnd c182_9
theorem v182_9 : ∀ (s : ByteArray) (p n c : Int) (n_1 : Nat) (Post : PT),
  condP (n == (0 : Int)) (Post (.int .i64 0) []) (condP (decide (IntKind.wrap .i64 ((↑(ByteArray.size s) : Int) - p) < n)) (Post (.int .i64 0) []) (AWP prog 96 n_1 c182_11 [(0, .str s), (1, .int .i64 p), (5, .int .i64 n), (6, .int .i64 c)] [] (q182_0 n_1 Post))) → AWP prog 96 n_1 c182_9 [(0, .str s), (1, .int .i64 p), (5, .int .i64 n), (6, .int .i64 c)] [] (q182_0 n_1 Post) := fun s p n c n Post h => Go.Ab.awp_sound g182 n _ _ _ _ (kc (by kernel_rfl) h)
def c182_16 : Code := codeSnd c182_11
def q182_1 (n : Nat) (Post : PT) : AQ := seqQ (fun (s' : Slots) (H' : List AObj) => AWP prog (Cfg.N g182) n c182_16 (restrict s' (Cfg.live g182 16)) H' (q182_0 n Post)) (q182_0 n Post)
def q182_2 (n : Nat) (Post : PT) : AQ := blockQ 0 (q182_1 n Post)
def c182_12 : Code := codeFst (codeSnd (codeFst c182_11))
theorem v182_11 : ∀ (s : ByteArray) (p n c : Int) (n_1 : Nat) (Post : PT),
  AWP prog 96 n_1 c182_12 [(0, .str s), (1, .int .i64 p), (5, .int .i64 n), (6, .int .i64 c), (7, .int .i64 1)] [] (q182_2 n_1 Post) → AWP prog 96 n_1 c182_11 [(0, .str s), (1, .int .i64 p), (5, .int .i64 n), (6, .int .i64 c)] [] (q182_0 n_1 Post) := fun s p n c n Post h => Go.Ab.awp_sound g182 n _ _ _ _ (kc (by kernel_rfl) h)
theorem v182_16 : ∀ (s : ByteArray) (p n c : Int) (n_1 : Nat) (Post : PT),
  needP ((0 : Int) ≤ IntKind.wrap .i64 (p + (1 : Int)) ∧ IntKind.wrap .i64 (p + (1 : Int)) < (↑(ByteArray.size s) : Int)) (condP (c == (224 : Int)) (condP (decide (IntKind.wrap .i64 (↑(UInt8.toNat (List.getD (Array.toList (ByteArray.data s)) (Int.toNat (IntKind.wrap .i64 (p + (1 : Int)))) (0 : UInt8))) : Int) < (160 : Int))) (Post (.int .i64 0) []) (condP (c == (237 : Int)) (condP (decide (IntKind.wrap .i64 (↑(UInt8.toNat (List.getD (Array.toList (ByteArray.data s)) (Int.toNat (IntKind.wrap .i64 (p + (1 : Int)))) (0 : UInt8))) : Int) > (159 : Int))) (Post (.int .i64 0) []) (condP (c == (240 : Int)) (condP (decide (IntKind.wrap .i64 (↑(UInt8.toNat (List.getD (Array.toList (ByteArray.data s)) (Int.toNat (IntKind.wrap .i64 (p + (1 : Int)))) (0 : UInt8))) : Int) < (144 : Int))) (Post (.int .i64 0) []) (condP (c == (244 : Int)) (condP (decide (IntKind.wrap .i64 (↑(UInt8.toNat (List.getD (Array.toList (ByteArray.data s)) (Int.toNat (IntKind.wrap .i64 (p + (1 : Int)))) (0 : UInt8))) : Int) > (143 : Int))) (Post (.int .i64 0) []) (Post (.int .i64 n) [])) (Post (.int .i64 n) []))) (condP (c == (244 : Int)) (condP (decide (IntKind.wrap .i64 (↑(UInt8.toNat (List.getD (Array.toList (ByteArray.data s)) (Int.toNat (IntKind.wrap .i64 (p + (1 : Int)))) (0 : UInt8))) : Int) > (143 : Int))) (Post (.int .i64 0) []) (Post (.int .i64 n) [])) (Post (.int .i64 n) [])))) (condP (c == (240 : Int)) (condP (decide (IntKind.wrap .i64 (↑(UInt8.toNat (List.getD (Array.toList (ByteArray.data s)) (Int.toNat (IntKind.wrap .i64 (p + (1 : Int)))) (0 : UInt8))) : Int) < (144 : Int))) (Post (.int .i64 0) []) (condP (c == (244 : Int)) (condP (decide (IntKind.wrap .i64 (↑(UInt8.toNat (List.getD (Array.toList (ByteArray.data s)) (Int.toNat (IntKind.wrap .i64 (p + (1 : Int)))) (0 : UInt8))) : Int) > (143 : Int))) (Post (.int .i64 0) []) (Post (.int .i64 n) [])) (Post (.int .i64 n) []))) (condP (c == (244 : Int)) (condP (decide (IntKind.wrap .i64 (↑(UInt8.toNat (List.getD (Array.toList (ByteArray.data s)) (Int.toNat (IntKind.wrap .i64 (p + (1 : Int)))) (0 : UInt8))) : Int) > (143 : Int))) (Post (.int .i64 0) []) (Post (.int .i64 n) [])) (Post (.int .i64 n) []))))) (condP (c == (237 : Int)) (condP (decide (IntKind.wrap .i64 (↑(UInt8.toNat (List.getD (Array.toList (ByteArray.data s)) (Int.toNat (IntKind.wrap .i64 (p + (1 : Int)))) (0 : UInt8))) : Int) > (159 : Int))) (Post (.int .i64 0) []) (condP (c == (240 : Int)) (condP (decide (IntKind.wrap .i64 (↑(UInt8.toNat (List.getD (Array.toList (ByteArray.data s)) (Int.toNat (IntKind.wrap .i64 (p + (1 : Int)))) (0 : UInt8))) : Int) < (144 : Int))) (Post (.int .i64 0) []) (condP (c == (244 : Int)) (condP (decide (IntKind.wrap .i64 (↑(UInt8.toNat (List.getD (Array.toList (ByteArray.data s)) (Int.toNat (IntKind.wrap .i64 (p + (1 : Int)))) (0 : UInt8))) : Int) > (143 : Int))) (Post (.int .i64 0) []) (Post (.int .i64 n) [])) (Post (.int .i64 n) []))) (condP (c == (244 : Int)) (condP (decide (IntKind.wrap .i64 (↑(UInt8.toNat (List.getD (Array.toList (ByteArray.data s)) (Int.toNat (IntKind.wrap .i64 (p + (1 : Int)))) (0 : UInt8))) : Int) > (143 : Int))) (Post (.int .i64 0) []) (Post (.int .i64 n) [])) (Post (.int .i64 n) [])))) (condP (c == (240 : Int)) (condP (decide (IntKind.wrap .i64 (↑(UInt8.toNat (List.getD (Array.toList (ByteArray.data s)) (Int.toNat (IntKind.wrap .i64 (p + (1 : Int)))) (0 : UInt8))) : Int) < (144 : Int))) (Post (.int .i64 0) []) (condP (c == (244 : Int)) (condP (decide (IntKind.wrap .i64 (↑(UInt8.toNat (List.getD (Array.toList (ByteArray.data s)) (Int.toNat (IntKind.wrap .i64 (p + (1 : Int)))) (0 : UInt8))) : Int) > (143 : Int))) (Post (.int .i64 0) []) (Post (.int .i64 n) [])) (Post (.int .i64 n) []))) (condP (c == (244 : Int)) (condP (decide (IntKind.wrap .i64 (↑(UInt8.toNat (List.getD (Array.toList (ByteArray.data s)) (Int.toNat (IntKind.wrap .i64 (p + (1 : Int)))) (0 : UInt8))) : Int) > (143 : Int))) (Post (.int .i64 0) []) (Post (.int .i64 n) [])) (Post (.int .i64 n) []))))) → AWP prog 96 n_1 c182_16 [(0, .str s), (1, .int .i64 p), (5, .int .i64 n), (6, .int .i64 c)] [] (q182_0 n_1 Post) := fun s p n c n Post h => Go.Ab.awp_sound g182 n _ _ _ _ (kc (by kernel_rfl) h)
theorem v182_12 : ∀ (s : ByteArray) (p n c i : Int) (n_1 : Nat) (Post : PT),
  condP (decide (i < n)) (needP ((0 : Int) ≤ IntKind.wrap .i64 (p + i) ∧ IntKind.wrap .i64 (p + i) < (↑(ByteArray.size s) : Int)) (condP (decide ((↑(UInt8.toNat (List.getD (Array.toList (ByteArray.data s)) (Int.toNat (IntKind.wrap .i64 (p + i))) (0 : UInt8))) : Int) < (128 : Int))) (Post (.int .i64 0) []) (needP ((0 : Int) ≤ IntKind.wrap .i64 (p + i) ∧ IntKind.wrap .i64 (p + i) < (↑(ByteArray.size s) : Int)) (condP (decide ((↑(UInt8.toNat (List.getD (Array.toList (ByteArray.data s)) (Int.toNat (IntKind.wrap .i64 (p + i))) (0 : UInt8))) : Int) > (191 : Int))) (Post (.int .i64 0) []) (AWP prog 96 n_1 c182_12 [(0, .str s), (1, .int .i64 p), (5, .int .i64 n), (6, .int .i64 c), (7, .int .i64 (IntKind.wrap .i64 (i + (1 : Int))))] [] (q182_2 n_1 Post)))))) (AWP prog 96 n_1 c182_16 [(0, .str s), (1, .int .i64 p), (5, .int .i64 n), (6, .int .i64 c)] [] (q182_0 n_1 Post)) → AWP prog 96 n_1 c182_12 [(0, .str s), (1, .int .i64 p), (5, .int .i64 n), (6, .int .i64 c), (7, .int .i64 i)] [] (q182_2 n_1 Post) := fun s p n c i n Post h => AWP.loop' g182 (Cfg.live g182) c182_12 (by kernel_rfl) (by kernel_rfl) (kc (by kernel_rfl) h)
def l138 : Nat → List Nat
  | 9 => [0, 1, 6, 7]
  | 11 => [0, 1, 6, 7]
  | 12 => [0, 1, 6, 7, 8]
  | _ => []
def u138 : Nat → Bool
  | 9 => true
  | 11 => true
  | _ => false
def m138 : Nat → Bool
  | _ => false
def g138 : Cfg := { N := 58, live := l138, cut := u138, mu := m138, ret := rets }
def c138 : Code := bodyOf Tryz.f138
def q138_0 (n : Nat) (Post : PT) : AQ := endQ prog (resultsOf Tryz.f138) Post
def c138_9 : Code := codeSnd (codeSnd (codeSnd (codeSnd (codeSnd (codeSnd c138)))))
theorem s138 : ∀ (s : ByteArray) (p : Int) (Post : PT),
  needP (0 ≤ p ∧ p < (↑(ByteArray.size s) : Int)) (condP (decide ((↑(UInt8.toNat (List.getD (Array.toList (ByteArray.data s)) p.toNat (0 : UInt8))) : Int) < (128 : Int))) (needP (0 ≤ p ∧ p < (↑(ByteArray.size s) : Int)) (Post (.tup [.int .i64 (IntKind.wrap .i64 (↑(UInt8.toNat (List.getD (Array.toList (ByteArray.data s)) p.toNat (0 : UInt8))) : Int)), .int .i64 1]) [])) (ASpec prog 182 [.str s, AV.int .i64 p] [] fun r H' => ∃ (x : Int), r = AV.int .i64 x ∧ H' = [] ∧ condP (x == (0 : Int)) (Post (.tup [.int .i64 65533, .int .i64 1]) []) (needP (0 ≤ p ∧ p < (↑(ByteArray.size s) : Int)) (needP ((32 : Int) ≠ (0 : Int)) (condP (x == (3 : Int)) (needP (0 ≤ p ∧ p < (↑(ByteArray.size s) : Int)) (needP ((16 : Int) ≠ (0 : Int)) (AWP prog 58 0 c138_9 [(0, .str s), (1, .int .i64 p), (6, .int .i64 x), (7, AV.int .i64 (Int.tmod (IntKind.wrap .i64 (↑(UInt8.toNat (List.getD (Array.toList (ByteArray.data s)) p.toNat (0 : UInt8))) : Int)) (16 : Int)))] [] (q138_0 0 Post)))) (AWP prog 58 0 c138_9 [(0, .str s), (1, .int .i64 p), (6, .int .i64 x), (7, AV.int .i64 (Int.tmod (IntKind.wrap .i64 (↑(UInt8.toNat (List.getD (Array.toList (ByteArray.data s)) p.toNat (0 : UInt8))) : Int)) (32 : Int)))] [] (q138_0 0 Post))))))) → ASpec prog 138 [.str s, AV.int .i64 p] [] Post := fun s p Post h => ASpec.of_vc g138 Tryz.func138 (by kernel_rfl) (by kernel_rfl) (by kernel_rfl) (kc (by kernel_rfl) h)
def c138_11 : Code := codeSnd c138_9
theorem v138_9 : ∀ (s : ByteArray) (p n x : Int) (n_1 : Nat) (Post : PT),
  condP (n == (4 : Int)) (needP (0 ≤ p ∧ p < (↑(ByteArray.size s) : Int)) (needP ((8 : Int) ≠ (0 : Int)) (AWP prog 58 n_1 c138_11 [(0, .str s), (1, .int .i64 p), (6, .int .i64 n), (7, .int .i64 (Int.tmod (IntKind.wrap .i64 (↑(UInt8.toNat (List.getD (Array.toList (ByteArray.data s)) p.toNat (0 : UInt8))) : Int)) (8 : Int)))] [] (q138_0 n_1 Post)))) (AWP prog 58 n_1 c138_11 [(0, .str s), (1, .int .i64 p), (6, .int .i64 n), (7, .int .i64 x)] [] (q138_0 n_1 Post)) → AWP prog 58 n_1 c138_9 [(0, .str s), (1, .int .i64 p), (6, .int .i64 n), (7, .int .i64 x)] [] (q138_0 n_1 Post) := fun s p n x n Post h => Go.Ab.awp_sound g138 n _ _ _ _ (kc (by kernel_rfl) h)
def q138_1 (n : Nat) (Post : PT) : AQ := seqQ (fun s' H' => awp prog g138 n (codeSnd c138_11) s' H' (q138_0 n Post)) (q138_0 n Post)
def q138_2 (n : Nat) (Post : PT) : AQ := blockQ 0 (q138_1 n Post)
def c138_12 : Code := codeFst (codeSnd (codeFst c138_11))
theorem v138_11 : ∀ (s : ByteArray) (p n x : Int) (n_1 : Nat) (Post : PT),
  AWP prog 58 n_1 c138_12 [(0, .str s), (1, .int .i64 p), (6, .int .i64 n), (7, .int .i64 x), (8, .int .i64 1)] [] (q138_2 n_1 Post) → AWP prog 58 n_1 c138_11 [(0, .str s), (1, .int .i64 p), (6, .int .i64 n), (7, .int .i64 x)] [] (q138_0 n_1 Post) := fun s p n x n Post h => Go.Ab.awp_sound g138 n _ _ _ _ (kc (by kernel_rfl) h)
theorem v138_12 : ∀ (s : ByteArray) (p n x i : Int) (n_1 : Nat) (Post : PT),
  condP (decide (i < n)) (needP ((0 : Int) ≤ IntKind.wrap .i64 (p + i) ∧ IntKind.wrap .i64 (p + i) < (↑(ByteArray.size s) : Int)) (needP ((64 : Int) ≠ (0 : Int)) (AWP prog 58 n_1 c138_12 [(0, .str s), (1, .int .i64 p), (6, .int .i64 n), (7, AV.int .i64 (IntKind.wrap .i64 (IntKind.wrap .i64 (x * (64 : Int)) + Int.tmod (IntKind.wrap .i64 (↑(UInt8.toNat (List.getD (Array.toList (ByteArray.data s)) (Int.toNat (IntKind.wrap .i64 (p + i))) (0 : UInt8))) : Int)) (64 : Int)))), (8, .int .i64 (IntKind.wrap .i64 (i + (1 : Int))))] [] (q138_2 n_1 Post)))) (Post (.tup [.int .i64 x, AV.int .i64 n]) []) → AWP prog 58 n_1 c138_12 [(0, .str s), (1, .int .i64 p), (6, .int .i64 n), (7, .int .i64 x), (8, .int .i64 i)] [] (q138_2 n_1 Post) := fun s p n x i n Post h => AWP.loop' g138 (Cfg.live g138) c138_12 (by kernel_rfl) (by kernel_rfl) (kc (by kernel_rfl) h)
def l91 : Nat → List Nat
  | 3 => [0, 3, 4]
  | _ => []
def u91 : Nat → Bool
  | _ => false
def m91 : Nat → Bool
  | _ => false
def g91 : Cfg := { N := 25, live := l91, cut := u91, mu := m91, ret := rets }
def c91 : Code := bodyOf Tryz.f91
def q91_0 (n : Nat) (Post : PT) : AQ := endQ prog (resultsOf Tryz.f91) Post
def q91_1 (n : Nat) (Post : PT) : AQ := seqQ (fun s' H' => awp prog g91 n (codeSnd (codeSnd (codeSnd (codeSnd c91)))) s' H' (q91_0 n Post)) (q91_0 n Post)
def q91_2 (n : Nat) (Post : PT) : AQ := blockQ 0 (q91_1 n Post)
def c91_3 : Code := codeFst (codeFst (codeSnd (codeSnd (codeSnd c91))))
theorem s91 : ∀ (s : ByteArray) (Post : PT),
  AWP prog 25 0 c91_3 [(0, .str s), (3, .sl 0 (.raw []) .nil), (4, .int .i64 0)] [] (q91_2 0 Post) → ASpec prog 91 [.str s] [] Post := fun s Post h => ASpec.of_vc g91 Tryz.func91 (by kernel_rfl) (by kernel_rfl) (by kernel_rfl) (kc (by kernel_rfl) h)
theorem v91_3 : ∀ (s : ByteArray) (l : List Int) (p : Int) (n : Nat) (Post : PT),
  condP (decide (p < (↑(ByteArray.size s) : Int))) (ASpec prog 138 [.str s, AV.int .i64 p] [AObj.tok] fun r H' => ∃ (x : Int × Int), r = AV.tup [.int .i64 x.1, .int .i64 x.2] ∧ H' = [AObj.tok] ∧ needP ((List.length l + 1) * 8 ≤ 140737488351232) (AWP prog 25 n c91_3 [(0, .str s), (3, .sl 1 (.app (.map encI 0 l) (.raw [[.int .i64 x.1]])) (.tok 1)), (4, .int .i64 (IntKind.wrap .i64 (p + Prod.snd x)))] [AObj.gone, .tok] (q91_2 n Post))) (Post (.sl 1 (.map encI 0 l) (.tok 0)) [AObj.tok]) → AWP prog 25 n c91_3 [(0, .str s), (3, .sl 1 (.map encI 0 l) (.tok 0)), (4, .int .i64 p)] [AObj.tok] (q91_2 n Post) := fun s l p n Post h => AWP.loop' g91 (Cfg.live g91) c91_3 (by kernel_rfl) (by kernel_rfl) (kc (by kernel_rfl) h)
def l41 : Nat → List Nat
  | 5 => [3, 4]
  | _ => []
def u41 : Nat → Bool
  | _ => false
def m41 : Nat → Bool
  | _ => false
def g41 : Cfg := { N := 42, live := l41, cut := u41, mu := m41, ret := rets }
def c41 : Code := bodyOf Tryz.f41
def q41_0 (n : Nat) (Post : PT) : AQ := endQ prog (resultsOf Tryz.f41) Post
def q41_1 (n : Nat) (Post : PT) : AQ := seqQ (fun s' H' => awp prog g41 n (codeSnd (codeSnd (codeSnd (codeSnd c41)))) s' H' (q41_0 n Post)) (q41_0 n Post)
def q41_2 (n : Nat) (Post : PT) : AQ := blockQ 0 (q41_1 n Post)
def c41_5 : Code := codeFst (codeSnd (codeFst (codeSnd (codeSnd (codeSnd c41)))))
theorem s41 : ∀ (s : ByteArray) (Post : PT),
  condP (decide ((↑(ByteArray.size s) : Int) > (100 : Int))) (Post (.bool false) []) (ASpec prog 91 [.str s] [] fun r H' => ∃ (x : List Int), r = AV.sl 1 (.map encI 0 x) .none ∧ H' = [] ∧ AWP prog 42 0 c41_5 [(3, .sl 1 (.map encI 0 x) .none), (4, .int .i64 0)] [] (q41_2 0 Post)) → ASpec prog 41 [.str s] [] Post := fun s Post h => ASpec.of_vc g41 Tryz.func41 (by kernel_rfl) (by kernel_rfl) (by kernel_rfl) (kc (by kernel_rfl) h)
theorem v41_5 : ∀ (l : List Int) (i : Int) (n : Nat) (Post : PT),
  condP (decide (i < (↑l.length : Int))) (needP (0 ≤ i ∧ i < (↑l.length : Int)) (ASpec prog 92 [AV.int .i64 (l.getD i.toNat (0 : Int))] [] fun r H' => ∃ (x : Int), r = AV.int .i64 x ∧ H' = [] ∧ condP (x == (4 : Int)) (Post (.bool false) []) (condP (i == (0 : Int)) (needP (0 ≤ i ∧ i < (↑l.length : Int)) (ASpec prog 92 [AV.int .i64 (l.getD i.toNat (0 : Int))] [] fun r H' => ∃ (x : Int), r = AV.int .i64 x ∧ H' = [] ∧ condP (decide (x > (1 : Int))) (Post (.bool false) []) (AWP prog 42 n c41_5 [(3, .sl 1 (.map encI 0 l) .none), (4, .int .i64 (IntKind.wrap .i64 (i + (1 : Int))))] [] (q41_2 n Post)))) (AWP prog 42 n c41_5 [(3, .sl 1 (.map encI 0 l) .none), (4, .int .i64 (IntKind.wrap .i64 (i + (1 : Int))))] [] (q41_2 n Post))))) (condP (decide ((↑l.length : Int) ≥ (1 : Int))) (Post (.bool (decide ((↑l.length : Int) ≤ (12 : Int)))) []) (Post (.bool false) [])) → AWP prog 42 n c41_5 [(3, .sl 1 (.map encI 0 l) .none), (4, .int .i64 i)] [] (q41_2 n Post) := fun l i n Post h => AWP.loop' g41 (Cfg.live g41) c41_5 (by kernel_rfl) (by kernel_rfl) (kc (by kernel_rfl) h)
end
end S
end

noncomputable section
open Go Go.Ab Go.Proofs
open Go.Proofs.Tryz (prog)
namespace Dk
noncomputable section
def rowD : List AV → Nat
  | .msl _ id _ _ :: _ => id
  | _ => 1000
def retD : List (Nat × Ret) := [
  (30, ⟨Bool, fun _ _ x => .bool x, fun _ H _ => H⟩),
  (159, ⟨Bool, fun _ _ x => .bool x, fun _ H _ => H⟩),
  (207, ⟨Bool, fun _ _ x => .bool x, fun _ H _ => H⟩),
  (31, ⟨Bool, fun _ _ x => .bool x, fun _ H _ => H⟩),
  (9020, ⟨Bool, fun _ _ x => .bool x, fun _ H _ => H⟩),
  (9043, ⟨Bool, fun _ _ x => .bool x, fun _ H _ => H⟩),
  (29, ⟨Bool, fun _ _ x => .bool x, fun _ H _ => H⟩),
  (51, ⟨Bool, fun _ _ x => .bool x, fun _ H _ => H⟩),
  (41, ⟨Bool, fun _ _ x => .bool x, fun _ H _ => H⟩),
  (74, ⟨Bool, fun _ _ x => .bool x, fun _ H _ => H⟩),
  (9047, ⟨Bool, fun _ _ x => .bool x, fun _ H _ => H⟩),
  (76, ⟨Int × Bool, fun _ _ x => .tup [.int .i64 x.1, .bool x.2], fun _ H _ => H⟩),
  (81, ⟨Int × Bool, fun _ _ x => .tup [.int .i64 x.1, .bool x.2], fun _ H _ => H⟩),
  (124, ⟨Int, fun _ _ x => .int .i64 x, fun _ H _ => H⟩),
  (193, ⟨Int, fun _ _ x => .int .i64 x, fun _ H _ => H⟩),
  (9024, ⟨List T.Pk, fun _ _ x => .sl 2 (.map T.encPk T.noPk x) .none, fun _ H _ => H⟩),
  (148, ⟨List T.Pk, fun _ _ x => .sl 2 (.map T.encPk T.noPk x) .none, fun _ H _ => H⟩),
  (98, ⟨List T.Pk, fun _ _ x => .sl 2 (.map T.encPk T.noPk x) .none, fun _ H _ => H⟩),
  (114, ⟨List T.Pk, fun _ _ x => .sl 2 (.map T.encPk T.noPk x) .none, fun _ H _ => H⟩),
  (9054, ⟨ByteArray, fun _ _ x => .str x, fun _ H _ => H⟩),
  (9031, ⟨ByteArray, fun _ _ x => .str x, fun _ H _ => H⟩),
  (9055, ⟨ByteArray, fun _ _ x => .str x, fun _ H _ => H⟩),
  (9017, ⟨Unit, fun _ _ _ => .bool true, fun _ H _ => H⟩),
  (9030, ⟨List T.Pk × Bool, fun _ _ x => .tup [.sl 2 (.map T.encPk T.noPk x.1) .none, .bool x.2], fun _ H _ => H⟩),
  (142, ⟨List T.Pk, fun _ H x => .msl 2 H.length 0 x.length, fun _ H x => H ++ [.arr 2 (.map T.encPk T.noPk x)]⟩),
  (142, ⟨Unit, fun _ _ _ => .sl 2 (.map T.encPk T.noPk []) .none, fun _ H _ => H⟩),
  (9045, ⟨List T.Pk, fun _ _ x => .sl 2 (.map T.encPk T.noPk x) .none, fun a H _ => H.set (rowD a) .gone⟩)]
def rets : FuncId → List Ret := lookupR retD
def l30 : Nat → List Nat
  | 4 => [0, 3]
  | _ => []
def u30 : Nat → Bool
  | _ => false
def m30 : Nat → Bool
  | _ => false
def g30 : Cfg := { N := 20, live := l30, cut := u30, mu := m30, ret := rets }
def c30 : Code := bodyOf Tryz.f30
def q30_0 (n : Nat) (Post : PT) : AQ := endQ prog (resultsOf Tryz.f30) Post
def q30_1 (n : Nat) (Post : PT) : AQ := seqQ (fun s' H' => awp prog g30 n (codeSnd (codeSnd (codeSnd c30))) s' H' (q30_0 n Post)) (q30_0 n Post)
def q30_2 (n : Nat) (Post : PT) : AQ := blockQ 0 (q30_1 n Post)
def c30_4 : Code := codeFst (codeSnd (codeFst (codeSnd (codeSnd c30))))
theorem s30 : ∀ (s : List T.Pk) (Post : PT),
  condP (decide ((↑s.length : Int) > (60 : Int))) (Post (.bool true) []) (AWP prog 20 0 c30_4 [(0, .sl 2 (.map T.encPk T.noPk s) .none), (3, .int .i64 0)] [] (q30_2 0 Post)) → ASpec prog 30 [.sl 2 (.map T.encPk T.noPk s) .none] [] Post := fun s Post h => ASpec.of_vc g30 Tryz.func30 (by kernel_rfl) (by kernel_rfl) (by kernel_rfl) (kc (by kernel_rfl) h)
theorem v30_4 : ∀ (s : List T.Pk) (i : Int) (n : Nat) (Post : PT),
  condP (decide (i < (↑s.length : Int))) (needP (0 ≤ i ∧ i < (↑s.length : Int)) (condP (decide ((↑(ByteArray.size ⟨(s.getD i.toNat T.noPk).1.toArray⟩) : Int) > (200 : Int))) (Post (.bool true) []) (AWP prog 20 n c30_4 [(0, .sl 2 (.map T.encPk T.noPk s) .none), (3, .int .i64 (IntKind.wrap .i64 (i + (1 : Int))))] [] (q30_2 n Post)))) (Post (.bool false) []) → AWP prog 20 n c30_4 [(0, .sl 2 (.map T.encPk T.noPk s) .none), (3, .int .i64 i)] [] (q30_2 n Post) := fun s i n Post h => AWP.loop' g30 (Cfg.live g30) c30_4 (by kernel_rfl) (by kernel_rfl) (kc (by kernel_rfl) h)
def l207 : Nat → List Nat
  | _ => []
def u207 : Nat → Bool
  | _ => false
def m207 : Nat → Bool
  | _ => false
def g207 : Cfg := { N := 16, live := l207, cut := u207, mu := m207, ret := rets }
theorem s207 : ∀ (p : T.Pk) (Post : PT),
  (ASpec prog 51 [.str ⟨p.1.toArray⟩] [AObj.cells [AV.str ⟨p.1.toArray⟩, .int .i64 p.2]] fun r H' => ∃ (x : Bool), r = AV.bool x ∧ H' = [AObj.cells [.str ⟨p.1.toArray⟩, .int .i64 p.2]] ∧ condP x (condP (decide (Prod.snd p ≥ (0 : Int))) (Post (.bool (decide (Prod.snd p < (1000000000 : Int)))) [AObj.cells [.str ⟨p.1.toArray⟩, .int .i64 p.2]]) (Post (.bool false) [AObj.cells [.str ⟨p.1.toArray⟩, .int .i64 p.2]])) (Post (.bool false) [AObj.cells [.str ⟨p.1.toArray⟩, .int .i64 p.2]])) → ASpec prog 207 [.agg (T.encPk p)] [] Post := fun p Post h => ASpec.of_vc g207 Tryz.func207 (by kernel_rfl) (by kernel_rfl) (by kernel_rfl) (kc (by kernel_rfl) h)
def l159 : Nat → List Nat
  | 2 => [0, 5, 6, 7]
  | _ => []
def u159 : Nat → Bool
  | _ => false
def m159 : Nat → Bool
  | _ => false
def g159 : Cfg := { N := 31, live := l159, cut := u159, mu := m159, ret := rets }
def c159 : Code := bodyOf Tryz.f159
def q159_0 (n : Nat) (Post : PT) : AQ := endQ prog (resultsOf Tryz.f159) Post
def q159_1 (n : Nat) (Post : PT) : AQ := seqQ (fun s' H' => awp prog g159 n (codeSnd (codeSnd c159)) s' H' (q159_0 n Post)) (q159_0 n Post)
def q159_2 (n : Nat) (Post : PT) : AQ := blockQ 0 (q159_1 n Post)
def c159_2 : Code := codeFst (codeSnd (codeFst (codeSnd c159)))
theorem v159_2 : ∀ (s t : List T.Pk) (n i : Int) (n_1 : Nat) (Post : PT),
  condP (decide (i < n)) (needP (0 ≤ i ∧ i < (↑t.length : Int)) (ASpec prog 207 [AV.agg [AV.str ⟨(t.getD i.toNat T.noPk).1.toArray⟩, .int .i64 (t.getD i.toNat T.noPk).2]] [AObj.cells [AV.str ⟨(t.getD i.toNat T.noPk).1.toArray⟩, .int .i64 (t.getD i.toNat T.noPk).2]] fun r H' => ∃ (x : Bool), r = AV.bool x ∧ H' = [AObj.cells [.str ⟨(t.getD i.toNat T.noPk).1.toArray⟩, .int .i64 (t.getD i.toNat T.noPk).2]] ∧ condP (!x) (Post (.bool false) [AObj.cells [.str ⟨(t.getD i.toNat T.noPk).1.toArray⟩, .int .i64 (t.getD i.toNat T.noPk).2]]) (condP (decide (i > (0 : Int))) (needP ((0 : Int) ≤ IntKind.wrap .i64 (i - (1 : Int)) ∧ IntKind.wrap .i64 (i - (1 : Int)) < (↑s.length : Int)) (condP (Op.bytesLess (ByteArray.toList ⟨(t.getD i.toNat T.noPk).1.toArray⟩) (ByteArray.toList { data := List.toArray (Prod.fst (s.getD (Int.toNat (IntKind.wrap .i64 (i - (1 : Int)))) T.noPk)) }) || ByteArray.toList ⟨(t.getD i.toNat T.noPk).1.toArray⟩ == ByteArray.toList { data := List.toArray (Prod.fst (s.getD (Int.toNat (IntKind.wrap .i64 (i - (1 : Int)))) T.noPk)) }) (Post (.bool false) [AObj.cells [.str ⟨(t.getD i.toNat T.noPk).1.toArray⟩, .int .i64 (t.getD i.toNat T.noPk).2]]) (AWP prog 31 n_1 c159_2 [(0, .sl 2 (.map T.encPk T.noPk s) .none), (5, .sl 2 (.map T.encPk T.noPk t) .none), (6, .int .i64 n), (7, .int .i64 (IntKind.wrap .i64 (i + (1 : Int))))] [AObj.cells [.str ⟨(t.getD i.toNat T.noPk).1.toArray⟩, .int .i64 (t.getD i.toNat T.noPk).2]] (q159_2 n_1 Post)))) (AWP prog 31 n_1 c159_2 [(0, .sl 2 (.map T.encPk T.noPk s) .none), (5, .sl 2 (.map T.encPk T.noPk t) .none), (6, .int .i64 n), (7, .int .i64 (IntKind.wrap .i64 (i + (1 : Int))))] [AObj.cells [.str ⟨(t.getD i.toNat T.noPk).1.toArray⟩, .int .i64 (t.getD i.toNat T.noPk).2]] (q159_2 n_1 Post))))) (Post (.bool true) []) → AWP prog 31 n_1 c159_2 [(0, .sl 2 (.map T.encPk T.noPk s) .none), (5, .sl 2 (.map T.encPk T.noPk t) .none), (6, .int .i64 n), (7, .int .i64 i)] [] (q159_2 n_1 Post) := fun s t n i n Post h => AWP.loop' g159 (Cfg.live g159) c159_2 (by kernel_rfl) (by kernel_rfl) (kc (by kernel_rfl) h)
def l31 : Nat → List Nat
  | 2 => [0, 3]
  | _ => []
def u31 : Nat → Bool
  | _ => false
def m31 : Nat → Bool
  | _ => false
def g31 : Cfg := { N := 44, live := l31, cut := u31, mu := m31, ret := rets }
def c31 : Code := bodyOf Tryz.f31
def q31_0 (n : Nat) (Post : PT) : AQ := endQ prog (resultsOf Tryz.f31) Post
def q31_1 (n : Nat) (Post : PT) : AQ := seqQ (fun s' H' => awp prog g31 n (codeSnd (codeSnd c31)) s' H' (q31_0 n Post)) (q31_0 n Post)
def q31_2 (n : Nat) (Post : PT) : AQ := blockQ 0 (q31_1 n Post)
def c31_2 : Code := codeFst (codeSnd (codeFst (codeSnd c31)))
theorem s31 : ∀ (s : List T.Pk) (Post : PT),
  AWP prog 44 0 c31_2 [(0, .sl 2 (.map T.encPk T.noPk s) .none), (3, .int .i64 0)] [] (q31_2 0 Post) → ASpec prog 31 [.sl 2 (.map T.encPk T.noPk s) .none] [] Post := fun s Post h => ASpec.of_vc g31 Tryz.func31 (by kernel_rfl) (by kernel_rfl) (by kernel_rfl) (kc (by kernel_rfl) h)
theorem v31_2 : ∀ (s : List T.Pk) (i : Int) (n : Nat) (Post : PT),
  condP (decide (i < (↑s.length : Int))) (needP (0 ≤ i ∧ i < (↑s.length : Int)) (ASpec prog 41 [AV.str ⟨(s.getD i.toNat T.noPk).1.toArray⟩] [] fun r H' => ∃ (x : Bool), r = AV.bool x ∧ H' = [] ∧ condP (!x) (Post (.bool false) []) (needP (0 ≤ i ∧ i < (↑s.length : Int)) (ASpec prog 74 [AV.int .i64 (s.getD i.toNat T.noPk).2] [] fun r H' => ∃ (x : Bool), r = AV.bool x ∧ H' = [] ∧ condP (!x) (Post (.bool false) []) (condP (decide (i > (0 : Int))) (needP (0 ≤ i ∧ i < (↑s.length : Int)) (needP ((0 : Int) ≤ IntKind.wrap .i64 (i - (1 : Int)) ∧ IntKind.wrap .i64 (i - (1 : Int)) < (↑s.length : Int)) (condP (Op.bytesLess (ByteArray.toList ⟨(s.getD i.toNat T.noPk).1.toArray⟩) (ByteArray.toList { data := List.toArray (Prod.fst (s.getD (Int.toNat (IntKind.wrap .i64 (i - (1 : Int)))) T.noPk)) }) || ByteArray.toList ⟨(s.getD i.toNat T.noPk).1.toArray⟩ == ByteArray.toList { data := List.toArray (Prod.fst (s.getD (Int.toNat (IntKind.wrap .i64 (i - (1 : Int)))) T.noPk)) }) (Post (.bool false) []) (AWP prog 44 n c31_2 [(0, .sl 2 (.map T.encPk T.noPk s) .none), (3, .int .i64 (IntKind.wrap .i64 (i + (1 : Int))))] [] (q31_2 n Post))))) (AWP prog 44 n c31_2 [(0, .sl 2 (.map T.encPk T.noPk s) .none), (3, .int .i64 (IntKind.wrap .i64 (i + (1 : Int))))] [] (q31_2 n Post))))))) (Post (.bool true) []) → AWP prog 44 n c31_2 [(0, .sl 2 (.map T.encPk T.noPk s) .none), (3, .int .i64 i)] [] (q31_2 n Post) := fun s i n Post h => AWP.loop' g31 (Cfg.live g31) c31_2 (by kernel_rfl) (by kernel_rfl) (kc (by kernel_rfl) h)
def l76 : Nat → List Nat
  | _ => []
def u76 : Nat → Bool
  | _ => false
def m76 : Nat → Bool
  | _ => false
def g76 : Cfg := { N := 28, live := l76, cut := u76, mu := m76, ret := rets }
theorem s76 : ∀ (s : List T.Pk) (x : List UInt8) (Post : PT),
  (ASpec prog 124 [.sl 2 (.map T.encPk T.noPk s) .none, .str ⟨x.toArray⟩] [] fun r H' => ∃ (x_1 : Int), r = AV.int .i64 x_1 ∧ H' = [] ∧ condP (x_1 == (↑s.length : Int)) (Post (.tup [AV.int .i64 0, .bool false]) []) (needP (0 ≤ x_1 ∧ x_1 < (↑s.length : Int)) (condP (!ByteArray.toList ⟨(s.getD x_1.toNat T.noPk).1.toArray⟩ == ByteArray.toList ⟨x.toArray⟩) (Post (.tup [AV.int .i64 0, .bool false]) []) (needP (0 ≤ x_1 ∧ x_1 < (↑s.length : Int)) (Post (.tup [AV.int .i64 (s.getD x_1.toNat T.noPk).2, .bool true]) []))))) → ASpec prog 76 [.sl 2 (.map T.encPk T.noPk s) .none, .str ⟨x.toArray⟩] [] Post := fun s x Post h => ASpec.of_vc g76 Tryz.func76 (by kernel_rfl) (by kernel_rfl) (by kernel_rfl) (kc (by kernel_rfl) h)
def l81 : Nat → List Nat
  | 2 => [0, 1, 6]
  | _ => []
def u81 : Nat → Bool
  | _ => false
def m81 : Nat → Bool
  | _ => false
def g81 : Cfg := { N := 25, live := l81, cut := u81, mu := m81, ret := rets }
def c81 : Code := bodyOf Tryz.f81
def q81_0 (n : Nat) (Post : PT) : AQ := endQ prog (resultsOf Tryz.f81) Post
def q81_1 (n : Nat) (Post : PT) : AQ := seqQ (fun s' H' => awp prog g81 n (codeSnd (codeSnd c81)) s' H' (q81_0 n Post)) (q81_0 n Post)
def q81_2 (n : Nat) (Post : PT) : AQ := blockQ 0 (q81_1 n Post)
def c81_2 : Code := codeFst (codeSnd (codeFst (codeSnd c81)))
theorem s81 : ∀ (s : List T.Pk) (x : List UInt8) (Post : PT),
  AWP prog 25 0 c81_2 [(0, .sl 2 (.map T.encPk T.noPk s) .none), (1, .str ⟨x.toArray⟩), (6, .int .i64 0)] [] (q81_2 0 Post) → ASpec prog 81 [.sl 2 (.map T.encPk T.noPk s) .none, .str ⟨x.toArray⟩] [] Post := fun s x Post h => ASpec.of_vc g81 Tryz.func81 (by kernel_rfl) (by kernel_rfl) (by kernel_rfl) (kc (by kernel_rfl) h)
theorem v81_2 : ∀ (s : List T.Pk) (x : List UInt8) (i : Int) (n : Nat) (Post : PT),
  condP (decide (i < (↑s.length : Int))) (needP (0 ≤ i ∧ i < (↑s.length : Int)) (condP (ByteArray.toList ⟨(s.getD i.toNat T.noPk).1.toArray⟩ == ByteArray.toList ⟨x.toArray⟩) (needP (0 ≤ i ∧ i < (↑s.length : Int)) (Post (.tup [AV.int .i64 (s.getD i.toNat T.noPk).2, .bool true]) [])) (AWP prog 25 n c81_2 [(0, .sl 2 (.map T.encPk T.noPk s) .none), (1, .str ⟨x.toArray⟩), (6, .int .i64 (IntKind.wrap .i64 (i + (1 : Int))))] [] (q81_2 n Post)))) (Post (.tup [.int .i64 0, .bool false]) []) → AWP prog 25 n c81_2 [(0, .sl 2 (.map T.encPk T.noPk s) .none), (1, .str ⟨x.toArray⟩), (6, .int .i64 i)] [] (q81_2 n Post) := fun s x i n Post h => AWP.loop' g81 (Cfg.live g81) c81_2 (by kernel_rfl) (by kernel_rfl) (kc (by kernel_rfl) h)
def l148 : Nat → List Nat
  | 3 => [0, 1, 5, 6]
  | _ => []
def u148 : Nat → Bool
  | _ => false
def m148 : Nat → Bool
  | _ => false
def g148 : Cfg := { N := 28, live := l148, cut := u148, mu := m148, ret := rets }
def c148 : Code := bodyOf Tryz.f148
def q148_0 (n : Nat) (Post : PT) : AQ := endQ prog (resultsOf Tryz.f148) Post
def q148_1 (n : Nat) (Post : PT) : AQ := seqQ (fun s' H' => awp prog g148 n (codeSnd (codeSnd (codeSnd c148))) s' H' (q148_0 n Post)) (q148_0 n Post)
def q148_2 (n : Nat) (Post : PT) : AQ := blockQ 0 (q148_1 n Post)
def c148_3 : Code := codeFst (codeSnd (codeFst (codeSnd (codeSnd c148))))
theorem s148 : ∀ (s : List T.Pk) (x : List UInt8) (Post : PT),
  AWP prog 28 0 c148_3 [(0, .sl 2 (.map T.encPk T.noPk s) .none), (1, .str ⟨x.toArray⟩), (5, .sl 0 (.raw []) .nil), (6, .int .i64 0)] [] (q148_2 0 Post) → ASpec prog 148 [.sl 2 (.map T.encPk T.noPk s) .none, .str ⟨x.toArray⟩] [] Post := fun s x Post h => ASpec.of_vc g148 Tryz.func148 (by kernel_rfl) (by kernel_rfl) (by kernel_rfl) (kc (by kernel_rfl) h)
theorem v148_3 : ∀ (s o : List T.Pk) (x : List UInt8) (i : Int) (n : Nat) (Post : PT),
  condP (decide (i < (↑s.length : Int))) (needP (0 ≤ i ∧ i < (↑s.length : Int)) (condP (!ByteArray.toList ⟨(s.getD i.toNat T.noPk).1.toArray⟩ == ByteArray.toList ⟨x.toArray⟩) (needP (0 ≤ i ∧ i < (↑s.length : Int)) (needP ((List.length o + 1) * 24 ≤ 140737488351232) (AWP prog 28 n c148_3 [(0, .sl 2 (.map T.encPk T.noPk s) .none), (1, .str ⟨x.toArray⟩), (5, AV.sl 2 (.app (.map T.encPk T.noPk o) (.raw [[.str ⟨(s.getD i.toNat T.noPk).1.toArray⟩, .int .i64 (s.getD i.toNat T.noPk).2]])) (.tok 1)), (6, .int .i64 (IntKind.wrap .i64 (i + (1 : Int))))] [AObj.gone, .tok] (q148_2 n Post)))) (AWP prog 28 n c148_3 [(0, .sl 2 (.map T.encPk T.noPk s) .none), (1, .str ⟨x.toArray⟩), (5, .sl 2 (.map T.encPk T.noPk o) (.tok 0)), (6, .int .i64 (IntKind.wrap .i64 (i + (1 : Int))))] [AObj.tok] (q148_2 n Post)))) (Post (.sl 2 (.map T.encPk T.noPk o) (.tok 0)) [AObj.tok]) → AWP prog 28 n c148_3 [(0, .sl 2 (.map T.encPk T.noPk s) .none), (1, .str ⟨x.toArray⟩), (5, .sl 2 (.map T.encPk T.noPk o) (.tok 0)), (6, .int .i64 i)] [AObj.tok] (q148_2 n Post) := fun s o x i n Post h => AWP.loop' g148 (Cfg.live g148) c148_3 (by kernel_rfl) (by kernel_rfl) (kc (by kernel_rfl) h)
end
end Dk
end

noncomputable section
open Go Go.Ab Go.Proofs
open Go.Proofs.Tryz (prog)
namespace Sg
noncomputable section
def addH (args : List AV) (H : List AObj) (o : AObj) : List AObj := match args with
  | .msl _ id _ _ :: _ => H.set id o
  | _ => H
def addG (args : List AV) (H : List AObj) (o : AObj) : List AObj := match args with
  | .msl _ id _ _ :: _ => H.set id .gone ++ [o]
  | _ => H
def headV : List AV → AV
  | v :: _ => v
  | [] => .bad
def retG : List (Nat × Ret) := [
  (185, ⟨Int × Bool, fun _ _ x => .tup [.int .i64 x.1, .bool x.2], fun _ H _ => H⟩), (186, ⟨Int, fun _ _ x => .int .i64 x, fun _ H _ => H⟩), (144, ⟨Int, fun _ _ x => .int .i64 x, fun _ H _ => H⟩), (101, ⟨Bool, fun _ _ x => .bool x, fun _ H _ => H⟩), (150, ⟨Int, fun _ _ x => .int .i64 x, fun _ H _ => H⟩),
  (151, ⟨T.Span, fun _ H x => .msl 2 H.length 0 1, fun _ H x => H ++ [.arr 2 (.map T.encS (0, 0) [x])]⟩),
  (151, ⟨List T.Span, fun a _ x => headV a, fun a H x => addH a H (.arr 2 (.map T.encS (0, 0) x))⟩),
  (151, ⟨List T.Span, fun a H x => .msl 2 H.length 0 x.length, fun a H x => addG a H (.arr 2 (.map T.encS (0, 0) x))⟩),
  (117, ⟨List T.Span, fun _ _ x => .sl 2 (.map T.encS (0, 0) x) .none, fun _ H _ => H⟩), (65, ⟨List T.Span, fun _ _ x => .sl 2 (.map T.encS (0, 0) x) .none, fun _ H _ => H⟩), (118, ⟨Bool, fun _ _ x => .bool x, fun _ H _ => H⟩), (141, ⟨Bool, fun _ _ x => .bool x, fun _ H _ => H⟩), (82, ⟨List T.Span, fun _ _ x => .sl 2 (.map T.encS (0, 0) x) .none, fun _ H _ => H⟩), (55, ⟨List T.Span, fun _ _ x => .sl 2 (.map T.encS (0, 0) x) .none, fun _ H _ => H⟩), (104, ⟨List T.Span, fun _ _ x => .sl 2 (.map T.encS (0, 0) x) .none, fun _ H _ => H⟩),
  (120, ⟨List T.Span, fun _ _ x => .sl 2 (.map T.encS (0, 0) x) .none, fun _ H _ => H⟩), (68, ⟨List T.Span, fun _ _ x => .sl 2 (.map T.encS (0, 0) x) .none, fun _ H _ => H⟩), (147, ⟨Bool, fun _ _ x => .bool x, fun _ H _ => H⟩), (119, ⟨Bool, fun _ _ x => .bool x, fun _ H _ => H⟩), (153, ⟨Bool, fun _ _ x => .bool x, fun _ H _ => H⟩), (152, ⟨List Int, fun _ _ x => .sl 1 (.map encI 0 x) .none, fun _ H _ => H⟩), (192, ⟨List Int, fun _ _ x => .sl 1 (.map encI 0 x) .none, fun _ H _ => H⟩),
  (140, ⟨T.Term, fun _ _ x => .agg (T.encT x), fun _ H _ => H⟩), (95, ⟨T.Term, fun _ _ x => .agg (T.encT x), fun _ H _ => H⟩), (96, ⟨Bool, fun _ _ x => .bool x, fun _ H _ => H⟩), (52, ⟨Bool, fun _ _ x => .bool x, fun _ H _ => H⟩), (94, ⟨Bool, fun _ _ x => .bool x, fun _ H _ => H⟩), (93, ⟨Bool, fun _ _ x => .bool x, fun _ H _ => H⟩), (145, ⟨T.Term, fun _ _ x => .agg (T.encT x), fun _ H _ => H⟩), (113, ⟨Bool, fun _ _ x => .bool x, fun _ H _ => H⟩), (111, ⟨Bool, fun _ _ x => .bool x, fun _ H _ => H⟩), (9036, ⟨Bool, fun _ _ x => .bool x, fun _ H _ => H⟩), (56, ⟨Bool, fun _ _ x => .bool x, fun _ H _ => H⟩)]
def rets : FuncId → List Ret := lookupR (retG ++ C.retC ++ V.retL)
def l185 : Nat → List Nat
  | 3 => [0, 1, 2, 8, 9, 10]
  | _ => []
def u185 : Nat → Bool
  | _ => false
def m185 : Nat → Bool
  | _ => false
def g185 : Cfg := { N := 49, live := l185, cut := u185, mu := m185, ret := rets }
def c185 : Code := bodyOf Tryz.f185
def q185_0 (n : Nat) (Post : PT) : AQ := endQ prog (resultsOf Tryz.f185) Post
def q185_1 (n : Nat) (Post : PT) : AQ := seqQ (fun s' H' => awp prog g185 n (codeSnd (codeSnd (codeSnd (codeSnd c185)))) s' H' (q185_0 n Post)) (q185_0 n Post)
def q185_2 (n : Nat) (Post : PT) : AQ := blockQ 0 (q185_1 n Post)
def c185_3 : Code := codeFst (codeFst (codeSnd (codeSnd (codeSnd c185))))
theorem s185 : ∀ (l : List T.Span) (p : Int) (Post : PT),
  AWP prog 49 0 c185_3 [(0, .sl 2 (.map T.encS (0, 0) l) .none), (1, .int .i64 p), (2, .fn (186 : FuncId) []), (8, .int .i64 l.length), (9, .int .i64 0), (10, .int .i64 l.length)] [] (q185_2 0 Post) → ASpec prog 185 [AV.sl 2 (.map T.encS (0, 0) l) .none, .int .i64 p, AV.fn (186 : FuncId) []] [] Post := fun l p Post h => ASpec.of_vc g185 Tryz.func185 (by kernel_rfl) (by kernel_rfl) (by kernel_rfl) (kc (by kernel_rfl) h)
theorem v185_3 : ∀ (l : List T.Span) (p n i j : Int) (n_1 : Nat) (Post : PT),
  condP (decide (i < j)) (needP ((0 : Int) ≤ (1 : Int)) (needP ((0 : Int) ≤ IntKind.wrap .i64 (Int.fdiv (IntKind.wrap .u64 (IntKind.wrap .i64 (i + j))) (2 : Int)) ∧ IntKind.wrap .i64 (Int.fdiv (IntKind.wrap .u64 (IntKind.wrap .i64 (i + j))) (2 : Int)) < (↑l.length : Int)) (ASpec prog 186 [AV.agg [AV.int .i64 (Prod.fst (l.getD (Int.toNat (IntKind.wrap .i64 (Int.fdiv (IntKind.wrap .u64 (IntKind.wrap .i64 (i + j))) (2 : Int)))) ((0 : Int), (0 : Int)))), AV.int .i64 (Prod.snd (l.getD (Int.toNat (IntKind.wrap .i64 (Int.fdiv (IntKind.wrap .u64 (IntKind.wrap .i64 (i + j))) (2 : Int)))) ((0 : Int), (0 : Int))))], AV.int .i64 p] [] fun r H' => ∃ (x : Int), r = AV.int .i64 x ∧ H' = [] ∧ condP (decide (x < (0 : Int))) (AWP prog 49 n_1 c185_3 [(0, .sl 2 (.map T.encS (0, 0) l) .none), (1, .int .i64 p), (2, .fn (186 : FuncId) []), (8, .int .i64 n), (9, AV.int .i64 (IntKind.wrap .i64 (IntKind.wrap .i64 (Int.fdiv (IntKind.wrap .u64 (IntKind.wrap .i64 (i + j))) (2 : Int)) + (1 : Int)))), (10, .int .i64 j)] [] (q185_2 n_1 Post)) (AWP prog 49 n_1 c185_3 [(0, .sl 2 (.map T.encS (0, 0) l) .none), (1, .int .i64 p), (2, .fn (186 : FuncId) []), (8, .int .i64 n), (9, .int .i64 i), (10, .int .i64 (IntKind.wrap .i64 (Int.fdiv (IntKind.wrap .u64 (IntKind.wrap .i64 (i + j))) (2 : Int))))] [] (q185_2 n_1 Post))))) (condP (decide (i < n)) (needP (0 ≤ i ∧ i < (↑l.length : Int)) (ASpec prog 186 [AV.agg [AV.int .i64 (l.getD i.toNat ((0 : Int), (0 : Int))).1, .int .i64 (l.getD i.toNat ((0 : Int), (0 : Int))).2], AV.int .i64 p] [] fun r H' => ∃ (x : Int), r = AV.int .i64 x ∧ H' = [] ∧ Post (.tup [.int .i64 i, AV.bool (x == (0 : Int))]) [])) (Post (.tup [.int .i64 i, AV.bool false]) [])) → AWP prog 49 n_1 c185_3 [(0, .sl 2 (.map T.encS (0, 0) l) .none), (1, .int .i64 p), (2, .fn (186 : FuncId) []), (8, .int .i64 n), (9, .int .i64 i), (10, .int .i64 j)] [] (q185_2 n_1 Post) := fun l p n i j n Post h => AWP.loop' g185 (Cfg.live g185) c185_3 (by kernel_rfl) (by kernel_rfl) (kc (by kernel_rfl) h)
def l186 : Nat → List Nat
  | _ => []
def u186 : Nat → Bool
  | _ => false
def m186 : Nat → Bool
  | _ => false
def g186 : Cfg := { N := 9, live := l186, cut := u186, mu := m186, ret := rets }
theorem s186 : ∀ (x : T.Span) (p : Int) (Post : PT),
  condP (decide (Prod.snd x ≤ p)) (Post (.int .i64 (-1)) [AObj.cells [.int .i64 x.1, .int .i64 x.2]]) (Post (.int .i64 1) [AObj.cells [.int .i64 x.1, .int .i64 x.2]]) → ASpec prog 186 [.agg (T.encS x), .int .i64 p] [] Post := fun x p Post h => ASpec.of_vc g186 Tryz.func186 (by kernel_rfl) (by kernel_rfl) (by kernel_rfl) (kc (by kernel_rfl) h)
def l144 : Nat → List Nat
  | _ => []
def u144 : Nat → Bool
  | _ => false
def m144 : Nat → Bool
  | _ => false
def g144 : Cfg := { N := 14, live := l144, cut := u144, mu := m144, ret := rets }
theorem s144 : ∀ (l : List T.Span) (p : Int) (Post : PT),
  (ASpec prog 185 [.sl 2 (.map T.encS (0, 0) l) .none, .int .i64 p, AV.fn 186 []] [] fun r H' => ∃ (x : Int × Bool), r = AV.tup [.int .i64 x.1, .bool x.2] ∧ H' = [] ∧ Post (.int .i64 x.1) []) → ASpec prog 144 [.sl 2 (.map T.encS (0, 0) l) .none, .int .i64 p] [] Post := fun l p Post h => ASpec.of_vc g144 Tryz.func144 (by kernel_rfl) (by kernel_rfl) (by kernel_rfl) (kc (by kernel_rfl) h)
def l101 : Nat → List Nat
  | _ => []
def u101 : Nat → Bool
  | _ => false
def m101 : Nat → Bool
  | _ => false
def g101 : Cfg := { N := 22, live := l101, cut := u101, mu := m101, ret := rets }
theorem s101 : ∀ (l : List T.Span) (p : Int) (Post : PT),
  (ASpec prog 144 [.sl 2 (.map T.encS (0, 0) l) .none, .int .i64 p] [] fun r H' => ∃ (x : Int), r = AV.int .i64 x ∧ H' = [] ∧ condP (decide (x < (↑l.length : Int))) (needP (0 ≤ x ∧ x < (↑l.length : Int)) (Post (.bool (decide ((l.getD x.toNat ((0 : Int), (0 : Int))).1 ≤ p))) [])) (Post (.bool false) [])) → ASpec prog 101 [.sl 2 (.map T.encS (0, 0) l) .none, .int .i64 p] [] Post := fun l p Post h => ASpec.of_vc g101 Tryz.func101 (by kernel_rfl) (by kernel_rfl) (by kernel_rfl) (kc (by kernel_rfl) h)
def l150 : Nat → List Nat
  | _ => []
def u150 : Nat → Bool
  | _ => false
def m150 : Nat → Bool
  | _ => false
def g150 : Cfg := { N := 32, live := l150, cut := u150, mu := m150, ret := rets }
theorem s150 : ∀ (l : List T.Span) (p : Int) (Post : PT),
  (ASpec prog 144 [.sl 2 (.map T.encS (0, 0) l) .none, .int .i64 p] [] fun r H' => ∃ (x : Int), r = AV.int .i64 x ∧ H' = [] ∧ condP (x == (↑l.length : Int)) (Post (.int .i64 1000000000) []) (needP (0 ≤ x ∧ x < (↑l.length : Int)) (condP (decide ((l.getD x.toNat ((0 : Int), (0 : Int))).1 > p)) (needP (0 ≤ x ∧ x < (↑l.length : Int)) (Post (.int .i64 (l.getD x.toNat ((0 : Int), (0 : Int))).1) [])) (needP (0 ≤ x ∧ x < (↑l.length : Int)) (Post (.int .i64 (l.getD x.toNat ((0 : Int), (0 : Int))).2) []))))) → ASpec prog 150 [.sl 2 (.map T.encS (0, 0) l) .none, .int .i64 p] [] Post := fun l p Post h => ASpec.of_vc g150 Tryz.func150 (by kernel_rfl) (by kernel_rfl) (by kernel_rfl) (kc (by kernel_rfl) h)
def l151 : Nat → List Nat
  | _ => []
def u151 : Nat → Bool
  | _ => false
def m151 : Nat → Bool
  | 37 => true
  | _ => false
def g151 : Cfg := { N := 38, live := l151, cut := u151, mu := m151, ret := rets }
theorem s151n : ∀ (s : T.Span) (Post : PT),
  needP (16 ≤ 140737488351232) (needP (1 ≤ 1) (Post (.msl 2 1 0 1) [AObj.cells [.int .i64 s.1, .int .i64 s.2], .arr 2 (.raw [[.int .i64 s.1, .int .i64 s.2]])])) → ASpec prog 151 [.sl 0 (.raw []) .nil, AV.agg (T.encS s)] [] Post := fun s Post h => ASpec.of_vc g151 Tryz.func151 (by kernel_rfl) (by kernel_rfl) (by kernel_rfl) (kc (by kernel_rfl) h)
abbrev hps151m0 (s : T.Span) (o : List T.Span) : List AObj := [AObj.gone, .cells [.int .i64 s.1, .int .i64 s.2], .arr 2 (.app (.map T.encS (0, 0) o) (.raw [[.int .i64 s.1, .int .i64 s.2]]))]
theorem s151m : ∀ (o : List T.Span) (k : Nat) (s : T.Span) (Post : PT),
  condP (decide (IntKind.wrap .i64 ((↑k : Int) - (1 : Int)) ≥ (0 : Int))) (needP ((0 : Int) ≤ IntKind.wrap .i64 ((↑k : Int) - (1 : Int)) ∧ IntKind.wrap .i64 ((↑k : Int) - (1 : Int)) < (↑k : Int)) (needP (0 + Int.toNat (IntKind.wrap .i64 ((↑k : Int) - (1 : Int))) < List.length o) (condP (decide (Prod.fst s ≤ Prod.snd (o.getD (0 + Int.toNat (IntKind.wrap .i64 ((↑k : Int) - (1 : Int)))) ((0 : Int), (0 : Int))))) (needP ((0 : Int) ≤ IntKind.wrap .i64 ((↑k : Int) - (1 : Int)) ∧ IntKind.wrap .i64 ((↑k : Int) - (1 : Int)) < (↑k : Int)) (needP (0 + Int.toNat (IntKind.wrap .i64 ((↑k : Int) - (1 : Int))) < List.length o) (needP ((0 : Int) ≤ IntKind.wrap .i64 ((↑k : Int) - (1 : Int)) ∧ IntKind.wrap .i64 ((↑k : Int) - (1 : Int)) < (↑k : Int)) (needP (0 + Int.toNat (IntKind.wrap .i64 ((↑k : Int) - (1 : Int))) < List.length o) (Post (.msl 2 0 0 k) [AObj.arr 2 (.raw (List.set (Seq.toList (.map T.encS (0, 0) o)) (0 + Int.toNat (IntKind.wrap .i64 ((↑k : Int) - (1 : Int)))) [.int .i64 (Prod.fst (o.getD (0 + Int.toNat (IntKind.wrap .i64 ((↑k : Int) - (1 : Int)))) ((0 : Int), (0 : Int)))), AV.int .i64 (if Prod.snd s > Prod.snd (o.getD (0 + Int.toNat (IntKind.wrap .i64 ((↑k : Int) - (1 : Int)))) ((0 : Int), (0 : Int))) then Prod.snd s else Prod.snd (o.getD (0 + Int.toNat (IntKind.wrap .i64 ((↑k : Int) - (1 : Int)))) ((0 : Int), (0 : Int))))])), .cells [.int .i64 s.1, .int .i64 s.2]]))))) (needP (k = List.length o ∧ (k + 1) * 16 ≤ 140737488351232) (Post (.msl 2 2 0 (k + 1)) (hps151m0 s o)))))) (needP (k = List.length o ∧ (k + 1) * 16 ≤ 140737488351232) (Post (.msl 2 2 0 (k + 1)) (hps151m0 s o))) → ASpec prog 151 [.msl 2 0 0 k, AV.agg (T.encS s)] [AObj.arr 2 (.map T.encS (0, 0) o)] Post := fun o k s Post h => ASpec.of_vc g151 Tryz.func151 (by kernel_rfl) (by kernel_rfl) (by kernel_rfl) (kc (by kernel_rfl) h)
def l117 : Nat → List Nat
  | 3 => [0, 1, 2, 7, 8]
  | 8 => [7]
  | _ => []
def u117 : Nat → Bool
  | 8 => true
  | _ => false
def m117 : Nat → Bool
  | _ => false
def g117 : Cfg := { N := 34, live := l117, cut := u117, mu := m117, ret := rets }
def c117 : Code := bodyOf Tryz.f117
def q117_0 (n : Nat) (Post : PT) : AQ := endQ prog (resultsOf Tryz.f117) Post
def c117_8 : Code := codeSnd (codeSnd (codeSnd c117))
def q117_1 (n : Nat) (Post : PT) : AQ := seqQ (fun (s' : Slots) (H' : List AObj) => AWP prog (Cfg.N g117) n c117_8 (restrict s' (Cfg.live g117 8)) H' (q117_0 n Post)) (q117_0 n Post)
def q117_2 (n : Nat) (Post : PT) : AQ := blockQ 0 (q117_1 n Post)
def c117_3 : Code := codeFst (codeSnd (codeFst (codeSnd (codeSnd c117))))
theorem s117 : ∀ (a b : List T.Span) (Post : PT),
  AWP prog 34 0 c117_3 [(0, .sl 2 (.map T.encS (0, 0) a) .none), (1, .sl 2 (.map T.encS (0, 0) b) .none), (2, .fn (118 : FuncId) []), (7, .sl 0 (.raw []) .nil), (8, .int .i64 0)] [] (q117_2 0 Post) → ASpec prog 117 [.sl 2 (.map T.encS (0, 0) a) .none, .sl 2 (.map T.encS (0, 0) b) .none, .fn (118 : FuncId) []] [] Post := fun a b Post h => ASpec.of_vc g117 Tryz.func117 (by kernel_rfl) (by kernel_rfl) (by kernel_rfl) (kc (by kernel_rfl) h)
theorem v117_3n : ∀ (a b : List T.Span) (p : Int) (n : Nat) (Post : PT),
  condP (decide (p < (1000000000 : Int))) (ASpec prog 150 [.sl 2 (.map T.encS (0, 0) a) .none, .int .i64 p] [] fun r H' => ∃ (x : Int), r = AV.int .i64 x ∧ H' = [] ∧ ASpec prog 150 [.sl 2 (.map T.encS (0, 0) b) .none, .int .i64 p] [] fun r H' => ∃ (x_1 : Int), r = AV.int .i64 x_1 ∧ H' = [] ∧ ASpec prog 101 [.sl 2 (.map T.encS (0, 0) a) .none, .int .i64 p] [] fun r H' => ∃ (x_2 : Bool), r = AV.bool x_2 ∧ H' = [] ∧ ASpec prog 101 [.sl 2 (.map T.encS (0, 0) b) .none, .int .i64 p] [] fun r H' => ∃ (x_3 : Bool), r = AV.bool x_3 ∧ H' = [] ∧ ASpec prog 118 [.bool x_2, .bool x_3] [] fun r H' => ∃ (x_4 : Bool), r = AV.bool x_4 ∧ H' = [] ∧ condP x_4 (ASpec prog 151 [.sl 0 (.raw []) .nil, AV.agg [.int .i64 p, AV.int .i64 (if x_1 < x then x_1 else x)]] [] fun r H' => (∃ (x_5 : Int × Int), r = AV.msl 2 0 0 1 ∧ H' = [AObj.arr 2 (.map T.encS (0, 0) [x_5])] ∧ AWP prog 34 n c117_3 [(0, .sl 2 (.map T.encS (0, 0) a) .none), (1, .sl 2 (.map T.encS (0, 0) b) .none), (2, .fn (118 : FuncId) []), (7, .msl 2 0 0 1), (8, .int .i64 (if x_1 < x then x_1 else x))] [AObj.arr 2 (.map T.encS (0, 0) [x_5])] (q117_2 n Post)) ∨ (∃ (x_5 : List T.Span), r = AV.sl 0 (.raw []) .nil ∧ H' = [] ∧ AWP prog 34 n c117_3 [(0, .sl 2 (.map T.encS (0, 0) a) .none), (1, .sl 2 (.map T.encS (0, 0) b) .none), (2, .fn (118 : FuncId) []), (7, .sl 0 (.raw []) .nil), (8, .int .i64 (if x_1 < x then x_1 else x))] [] (q117_2 n Post)) ∨ ∃ (x_5 : List T.Span), r = AV.msl 2 0 0 x_5.length ∧ H' = [] ∧ AWP prog 34 n c117_3 [(0, .sl 2 (.map T.encS (0, 0) a) .none), (1, .sl 2 (.map T.encS (0, 0) b) .none), (2, .fn (118 : FuncId) []), (7, .msl 2 0 0 x_5.length), (8, .int .i64 (if x_1 < x then x_1 else x))] [] (q117_2 n Post)) (AWP prog 34 n c117_3 [(0, .sl 2 (.map T.encS (0, 0) a) .none), (1, .sl 2 (.map T.encS (0, 0) b) .none), (2, .fn (118 : FuncId) []), (7, .sl 0 (.raw []) .nil), (8, .int .i64 (if x_1 < x then x_1 else x))] [] (q117_2 n Post))) (AWP prog 34 n c117_8 [(7, .sl 0 (.raw []) .nil)] [] (q117_0 n Post)) → AWP prog 34 n c117_3 [(0, .sl 2 (.map T.encS (0, 0) a) .none), (1, .sl 2 (.map T.encS (0, 0) b) .none), (2, .fn (118 : FuncId) []), (7, .sl 0 (.raw []) .nil), (8, .int .i64 p)] [] (q117_2 n Post) := fun a b p n Post h => AWP.loop' g117 (Cfg.live g117) c117_3 (by kernel_rfl) (by kernel_rfl) (kc (by kernel_rfl) h)
theorem v117_3m : ∀ (a b o : List T.Span) (k : Nat) (p : Int) (n : Nat) (Post : PT),
  condP (decide (p < (1000000000 : Int))) (ASpec prog 150 [.sl 2 (.map T.encS (0, 0) a) .none, .int .i64 p] [AObj.arr 2 (.map T.encS (0, 0) o)] fun r H' => ∃ (x : Int), r = AV.int .i64 x ∧ H' = [AObj.arr 2 (.map T.encS (0, 0) o)] ∧ ASpec prog 150 [.sl 2 (.map T.encS (0, 0) b) .none, .int .i64 p] [AObj.arr 2 (.map T.encS (0, 0) o)] fun r H' => ∃ (x_1 : Int), r = AV.int .i64 x_1 ∧ H' = [AObj.arr 2 (.map T.encS (0, 0) o)] ∧ ASpec prog 101 [.sl 2 (.map T.encS (0, 0) a) .none, .int .i64 p] [AObj.arr 2 (.map T.encS (0, 0) o)] fun r H' => ∃ (x_2 : Bool), r = AV.bool x_2 ∧ H' = [AObj.arr 2 (.map T.encS (0, 0) o)] ∧ ASpec prog 101 [.sl 2 (.map T.encS (0, 0) b) .none, .int .i64 p] [AObj.arr 2 (.map T.encS (0, 0) o)] fun r H' => ∃ (x_3 : Bool), r = AV.bool x_3 ∧ H' = [AObj.arr 2 (.map T.encS (0, 0) o)] ∧ ASpec prog 118 [.bool x_2, .bool x_3] [AObj.arr 2 (.map T.encS (0, 0) o)] fun r H' => ∃ (x_4 : Bool), r = AV.bool x_4 ∧ H' = [AObj.arr 2 (.map T.encS (0, 0) o)] ∧ condP x_4 (ASpec prog 151 [.msl 2 0 0 k, AV.agg [.int .i64 p, AV.int .i64 (if x_1 < x then x_1 else x)]] [AObj.arr 2 (.map T.encS (0, 0) o)] fun r H' => (∃ (x_5 : Int × Int), r = AV.msl 2 1 0 1 ∧ H' = [AObj.arr 2 (.map T.encS (0, 0) o), .arr 2 (.map T.encS (0, 0) [x_5])] ∧ AWP prog 34 n c117_3 [(0, .sl 2 (.map T.encS (0, 0) a) .none), (1, .sl 2 (.map T.encS (0, 0) b) .none), (2, .fn (118 : FuncId) []), (7, .msl 2 1 0 1), (8, .int .i64 (if x_1 < x then x_1 else x))] [AObj.arr 2 (.map T.encS (0, 0) o), .arr 2 (.map T.encS (0, 0) [x_5])] (q117_2 n Post)) ∨ (∃ (x_5 : List T.Span), r = AV.msl 2 0 0 k ∧ H' = [AObj.arr 2 (.map T.encS (0, 0) x_5)] ∧ AWP prog 34 n c117_3 [(0, .sl 2 (.map T.encS (0, 0) a) .none), (1, .sl 2 (.map T.encS (0, 0) b) .none), (2, .fn (118 : FuncId) []), (7, .msl 2 0 0 k), (8, .int .i64 (if x_1 < x then x_1 else x))] [AObj.arr 2 (.map T.encS (0, 0) x_5)] (q117_2 n Post)) ∨ ∃ (x_5 : List T.Span), r = AV.msl 2 1 0 x_5.length ∧ H' = [AObj.gone, .arr 2 (.map T.encS (0, 0) x_5)] ∧ AWP prog 34 n c117_3 [(0, .sl 2 (.map T.encS (0, 0) a) .none), (1, .sl 2 (.map T.encS (0, 0) b) .none), (2, .fn (118 : FuncId) []), (7, .msl 2 1 0 x_5.length), (8, .int .i64 (if x_1 < x then x_1 else x))] [AObj.gone, .arr 2 (.map T.encS (0, 0) x_5)] (q117_2 n Post)) (AWP prog 34 n c117_3 [(0, .sl 2 (.map T.encS (0, 0) a) .none), (1, .sl 2 (.map T.encS (0, 0) b) .none), (2, .fn (118 : FuncId) []), (7, .msl 2 0 0 k), (8, .int .i64 (if x_1 < x then x_1 else x))] [AObj.arr 2 (.map T.encS (0, 0) o)] (q117_2 n Post))) (AWP prog 34 n c117_8 [(7, .msl 2 0 0 k)] [AObj.arr 2 (.map T.encS (0, 0) o)] (q117_0 n Post)) → AWP prog 34 n c117_3 [(0, .sl 2 (.map T.encS (0, 0) a) .none), (1, .sl 2 (.map T.encS (0, 0) b) .none), (2, .fn (118 : FuncId) []), (7, .msl 2 0 0 k), (8, .int .i64 p)] [AObj.arr 2 (.map T.encS (0, 0) o)] (q117_2 n Post) := fun a b o k p n Post h => AWP.loop' g117 (Cfg.live g117) c117_3 (by kernel_rfl) (by kernel_rfl) (kc (by kernel_rfl) h)
theorem v117_8n : ∀ (n : Nat) (Post : PT), Post (.sl 0 (.raw []) .nil) [] → AWP prog 34 n c117_8 [(7, .sl 0 (.raw []) .nil)] [] (q117_0 n Post) := fun n Post h => Go.Ab.awp_sound g117 n _ _ _ _ (kc (by kernel_rfl) h)
theorem v117_8s : ∀ (o : List T.Span) (n : Nat) (Post : PT),
  Post (.sl 2 (.map T.encS (0, 0) o) .none) [] → AWP prog 34 n c117_8 [(7, .sl 2 (.map T.encS (0, 0) o) .none)] [] (q117_0 n Post) := fun o n Post h => Go.Ab.awp_sound g117 n _ _ _ _ (kc (by kernel_rfl) h)
def l65 : Nat → List Nat
  | _ => []
def u65 : Nat → Bool
  | _ => false
def m65 : Nat → Bool
  | _ => false
def g65 : Cfg := { N := 8, live := l65, cut := u65, mu := m65, ret := rets }
theorem s65 : ∀ (a b : List T.Span) (Post : PT),
  (ASpec prog 117 [.sl 2 (.map T.encS (0, 0) a) .none, .sl 2 (.map T.encS (0, 0) b) .none, .fn 118 []] [] fun r H' => ∃ (x : List T.Span), r = AV.sl 2 (.map T.encS (0, 0) x) .none ∧ H' = [] ∧ Post (.sl 2 (.map T.encS (0, 0) x) .none) []) → ASpec prog 65 [.sl 2 (.map T.encS (0, 0) a) .none, .sl 2 (.map T.encS (0, 0) b) .none] [] Post := fun a b Post h => ASpec.of_vc g65 Tryz.func65 (by kernel_rfl) (by kernel_rfl) (by kernel_rfl) (kc (by kernel_rfl) h)
def l118 : Nat → List Nat
  | _ => []
def u118 : Nat → Bool
  | _ => false
def m118 : Nat → Bool
  | _ => false
def g118 : Cfg := { N := 9, live := l118, cut := u118, mu := m118, ret := rets }
theorem s118 : ∀ (x y : Bool) (Post : PT), condP x (Post (.bool y) []) (Post (.bool false) []) → ASpec prog 118 [.bool x, AV.bool y] [] Post := fun x y Post h => ASpec.of_vc g118 Tryz.func118 (by kernel_rfl) (by kernel_rfl) (by kernel_rfl) (kc (by kernel_rfl) h)
def l141 : Nat → List Nat
  | 2 => [1, 8, 9, 10]
  | _ => []
def l120 : Nat → List Nat
  | 4 => [0, 1, 2, 7, 8, 9]
  | 7 => [0, 1, 2, 7, 8, 9]
  | 11 => [7]
  | _ => []
def u120 : Nat → Bool
  | 7 => true
  | 11 => true
  | _ => false
def m120 : Nat → Bool
  | 79 => true
  | _ => false
def g120 : Cfg := { N := 81, live := l120, cut := u120, mu := m120, ret := rets }
def c120 : Code := bodyOf Tryz.f120
def q120_0 (n : Nat) (Post : PT) : AQ := endQ prog (resultsOf Tryz.f120) Post
def c120_11 : Code := codeSnd (codeSnd (codeSnd (codeSnd c120)))
def q120_1 (n : Nat) (Post : PT) : AQ := seqQ (fun (s' : Slots) (H' : List AObj) => AWP prog (Cfg.N g120) n c120_11 (restrict s' (Cfg.live g120 11)) H' (q120_0 n Post)) (q120_0 n Post)
def q120_2 (n : Nat) (Post : PT) : AQ := blockQ 0 (q120_1 n Post)
def c120_4 : Code := codeFst (codeSnd (codeFst (codeSnd (codeSnd (codeSnd c120)))))
theorem s120 : ∀ (op : Int) (a b : List T.Span) (Post : PT),
  (ASpec prog 152 [.sl 2 (.map T.encS (0, 0) a) .none, .sl 2 (.map T.encS (0, 0) b) .none] [] fun r H' => ∃ (x : List Int), r = AV.sl 1 (.map encI 0 x) .none ∧ H' = [] ∧ AWP prog 81 0 c120_4 [(0, .int .i64 op), (1, .sl 2 (.map T.encS (0, 0) a) .none), (2, .sl 2 (.map T.encS (0, 0) b) .none), (7, .sl 0 (.raw []) .nil), (8, .sl 1 (.map encI 0 x) .none), (9, .int .i64 0)] [] (q120_2 0 Post)) → ASpec prog 120 [.int .i64 op, AV.sl 2 (.map T.encS (0, 0) a) .none, .sl 2 (.map T.encS (0, 0) b) .none] [] Post := fun op a b Post h => ASpec.of_vc g120 Tryz.func120 (by kernel_rfl) (by kernel_rfl) (by kernel_rfl) (kc (by kernel_rfl) h)
def q120_3 (n : Nat) (Post : PT) : AQ := loopQ prog 81 n c120_4 (q120_2 n Post) (Cfg.live g120)
def q120_4 (n : Nat) (Post : PT) : AQ := seqQ (fun s' H' => awp prog g120 n (codeSnd (codeSnd (codeFst c120_4))) s' H' (q120_3 n Post)) (q120_3 n Post)
def q120_5 (n : Nat) (Post : PT) : AQ := blockQ 1 (q120_4 n Post)
def c120_7 : Code := codeSnd (codeFst (codeFst (codeSnd (codeFst c120_4))))
theorem v120_4n : ∀ (op : Int) (a b : List T.Span) (l : List Int) (i : Int) (n : Nat) (Post : PT),
  condP (decide (IntKind.wrap .i64 (i + (1 : Int)) < (↑l.length : Int))) (needP (0 ≤ i ∧ i < (↑l.length : Int)) (needP (0 ≤ i ∧ i < (↑l.length : Int)) (ASpec prog 119 [AV.sl 2 (.map T.encS (0, 0) a) .none, .int .i64 (l.getD i.toNat (0 : Int))] [] fun r H' => ∃ (x : Bool), r = AV.bool x ∧ H' = [] ∧ (AV.int .i64 (l.getD i.toNat (0 : Int)) = AV.int .i64 (l.getD i.toNat (0 : Int)) ∧ ([] : List AObj) = []) ∧ ASpec prog 119 [.sl 2 (.map T.encS (0, 0) b) .none, .int .i64 (l.getD i.toNat (0 : Int))] [] fun r H' => ∃ (x_1 : Bool), r = AV.bool x_1 ∧ H' = [] ∧ ASpec prog 153 [.int .i64 op, AV.bool x, AV.bool x_1] [] fun r H' => ∃ (x : Bool), r = AV.bool x ∧ H' = [] ∧ condP (!x) (AWP prog 81 n c120_4 [(0, .int .i64 op), (1, .sl 2 (.map T.encS (0, 0) a) .none), (2, .sl 2 (.map T.encS (0, 0) b) .none), (7, .sl 0 (.raw []) .nil), (8, .sl 1 (.map encI 0 l) .none), (9, .int .i64 (IntKind.wrap .i64 (i + (1 : Int))))] [] (q120_2 n Post)) (AWP prog 81 n c120_7 [(0, .int .i64 op), (1, .sl 2 (.map T.encS (0, 0) a) .none), (2, .sl 2 (.map T.encS (0, 0) b) .none), (7, .sl 0 (.raw []) .nil), (8, .sl 1 (.map encI 0 l) .none), (9, .int .i64 i)] [] (q120_5 n Post))))) (AWP prog 81 n c120_11 [(7, .sl 0 (.raw []) .nil)] [] (q120_0 n Post)) → AWP prog 81 n c120_4 [(0, .int .i64 op), (1, .sl 2 (.map T.encS (0, 0) a) .none), (2, .sl 2 (.map T.encS (0, 0) b) .none), (7, .sl 0 (.raw []) .nil), (8, .sl 1 (.map encI 0 l) .none), (9, .int .i64 i)] [] (q120_2 n Post) := fun op a b l i n Post h => AWP.loop' g120 (Cfg.live g120) c120_4 (by kernel_rfl) (by kernel_rfl) (kc (by kernel_rfl) h)
theorem v120_4m : ∀ (op : Int) (a b o : List T.Span) (k : Nat) (l : List Int) (i : Int) (n : Nat) (Post : PT),
  condP (decide (IntKind.wrap .i64 (i + (1 : Int)) < (↑l.length : Int))) (needP (0 ≤ i ∧ i < (↑l.length : Int)) (needP (0 ≤ i ∧ i < (↑l.length : Int)) (ASpec prog 119 [AV.sl 2 (.map T.encS (0, 0) a) .none, .int .i64 (l.getD i.toNat (0 : Int))] [AObj.arr 2 (.map T.encS (0, 0) o)] fun r H' => ∃ (x : Bool), r = AV.bool x ∧ H' = [AObj.arr 2 (.map T.encS (0, 0) o)] ∧ (AV.int .i64 (l.getD i.toNat (0 : Int)) = AV.int .i64 (l.getD i.toNat (0 : Int)) ∧ [AObj.arr 2 (.map T.encS (0, 0) o)] = [AObj.arr 2 (.map T.encS (0, 0) o)]) ∧ ASpec prog 119 [.sl 2 (.map T.encS (0, 0) b) .none, .int .i64 (l.getD i.toNat (0 : Int))] [AObj.arr 2 (.map T.encS (0, 0) o)] fun r H' => ∃ (x_1 : Bool), r = AV.bool x_1 ∧ H' = [AObj.arr 2 (.map T.encS (0, 0) o)] ∧ ASpec prog 153 [.int .i64 op, AV.bool x, AV.bool x_1] [AObj.arr 2 (.map T.encS (0, 0) o)] fun r H' => ∃ (x : Bool), r = AV.bool x ∧ H' = [AObj.arr 2 (.map T.encS (0, 0) o)] ∧ condP (!x) (AWP prog 81 n c120_4 [(0, .int .i64 op), (1, .sl 2 (.map T.encS (0, 0) a) .none), (2, .sl 2 (.map T.encS (0, 0) b) .none), (7, .msl 2 0 0 k), (8, .sl 1 (.map encI 0 l) .none), (9, .int .i64 (IntKind.wrap .i64 (i + (1 : Int))))] [AObj.arr 2 (.map T.encS (0, 0) o)] (q120_2 n Post)) (AWP prog 81 n c120_7 [(0, .int .i64 op), (1, .sl 2 (.map T.encS (0, 0) a) .none), (2, .sl 2 (.map T.encS (0, 0) b) .none), (7, .msl 2 0 0 k), (8, .sl 1 (.map encI 0 l) .none), (9, .int .i64 i)] [AObj.arr 2 (.map T.encS (0, 0) o)] (q120_5 n Post))))) (AWP prog 81 n c120_11 [(7, .msl 2 0 0 k)] [AObj.arr 2 (.map T.encS (0, 0) o)] (q120_0 n Post)) → AWP prog 81 n c120_4 [(0, .int .i64 op), (1, .sl 2 (.map T.encS (0, 0) a) .none), (2, .sl 2 (.map T.encS (0, 0) b) .none), (7, .msl 2 0 0 k), (8, .sl 1 (.map encI 0 l) .none), (9, .int .i64 i)] [AObj.arr 2 (.map T.encS (0, 0) o)] (q120_2 n Post) := fun op a b o k l i n Post h => AWP.loop' g120 (Cfg.live g120) c120_4 (by kernel_rfl) (by kernel_rfl) (kc (by kernel_rfl) h)
theorem v120_7n : ∀ (op : Int) (a b : List T.Span) (l : List Int) (i : Int) (n : Nat) (Post : PT),
  needP (0 ≤ i ∧ i < (↑l.length : Int)) (needP ((0 : Int) ≤ IntKind.wrap .i64 (i + (1 : Int)) ∧ IntKind.wrap .i64 (i + (1 : Int)) < (↑l.length : Int)) (needP (16 ≤ 140737488351232) (needP (1 ≤ 1) (AWP prog 81 n c120_4 [(0, .int .i64 op), (1, .sl 2 (.map T.encS (0, 0) a) .none), (2, .sl 2 (.map T.encS (0, 0) b) .none), (7, .msl 2 0 0 1), (8, .sl 1 (.map encI 0 l) .none), (9, .int .i64 (IntKind.wrap .i64 (i + (1 : Int))))] [AObj.arr 2 (.raw [[.int .i64 (l.getD i.toNat (0 : Int)), .int .i64 (l.getD (Int.toNat (IntKind.wrap .i64 (i + (1 : Int)))) (0 : Int))]])] (q120_2 n Post))))) → AWP prog 81 n c120_7 [(0, .int .i64 op), (1, .sl 2 (.map T.encS (0, 0) a) .none), (2, .sl 2 (.map T.encS (0, 0) b) .none), (7, .sl 0 (.raw []) .nil), (8, .sl 1 (.map encI 0 l) .none), (9, .int .i64 i)] [] (q120_5 n Post) := fun op a b l i n Post h => Go.Ab.awp_sound g120 n _ _ _ _ (kc (by kernel_rfl) h)
theorem v120_7m : ∀ (op : Int) (a b o : List T.Span) (k : Nat) (l : List Int) (i : Int) (n : Nat) (Post : PT),
  condP (decide (IntKind.wrap .i64 ((↑k : Int) - (1 : Int)) ≥ (0 : Int))) (needP ((0 : Int) ≤ IntKind.wrap .i64 ((↑k : Int) - (1 : Int)) ∧ IntKind.wrap .i64 ((↑k : Int) - (1 : Int)) < (↑k : Int)) (needP (0 + Int.toNat (IntKind.wrap .i64 ((↑k : Int) - (1 : Int))) < List.length o) (needP (0 ≤ i ∧ i < (↑l.length : Int)) (condP (Prod.snd (o.getD (0 + Int.toNat (IntKind.wrap .i64 ((↑k : Int) - (1 : Int)))) ((0 : Int), (0 : Int))) == List.getD l i.toNat (0 : Int)) (needP ((0 : Int) ≤ IntKind.wrap .i64 ((↑k : Int) - (1 : Int)) ∧ IntKind.wrap .i64 ((↑k : Int) - (1 : Int)) < (↑k : Int)) (needP (0 + Int.toNat (IntKind.wrap .i64 ((↑k : Int) - (1 : Int))) < List.length o) (needP ((0 : Int) ≤ IntKind.wrap .i64 (i + (1 : Int)) ∧ IntKind.wrap .i64 (i + (1 : Int)) < (↑l.length : Int)) (needP ((0 : Int) ≤ IntKind.wrap .i64 ((↑k : Int) - (1 : Int)) ∧ IntKind.wrap .i64 ((↑k : Int) - (1 : Int)) < (↑k : Int)) (needP (0 + Int.toNat (IntKind.wrap .i64 ((↑k : Int) - (1 : Int))) < List.length o) (AWP prog 81 n c120_4 [(0, .int .i64 op), (1, .sl 2 (.map T.encS (0, 0) a) .none), (2, .sl 2 (.map T.encS (0, 0) b) .none), (7, .msl 2 0 0 k), (8, .sl 1 (.map encI 0 l) .none), (9, .int .i64 (IntKind.wrap .i64 (i + (1 : Int))))] [AObj.arr 2 (.raw (List.set (Seq.toList (.map T.encS (0, 0) o)) (0 + Int.toNat (IntKind.wrap .i64 ((↑k : Int) - (1 : Int)))) [.int .i64 (Prod.fst (o.getD (0 + Int.toNat (IntKind.wrap .i64 ((↑k : Int) - (1 : Int)))) ((0 : Int), (0 : Int)))), AV.int .i64 (l.getD (Int.toNat (IntKind.wrap .i64 (i + (1 : Int)))) (0 : Int))]))] (q120_2 n Post))))))) (needP (0 ≤ i ∧ i < (↑l.length : Int)) (needP ((0 : Int) ≤ IntKind.wrap .i64 (i + (1 : Int)) ∧ IntKind.wrap .i64 (i + (1 : Int)) < (↑l.length : Int)) (needP (k = List.length o ∧ (k + 1) * 16 ≤ 140737488351232) (AWP prog 81 n c120_4 [(0, .int .i64 op), (1, .sl 2 (.map T.encS (0, 0) a) .none), (2, .sl 2 (.map T.encS (0, 0) b) .none), (7, .msl 2 1 0 (k + 1)), (8, .sl 1 (.map encI 0 l) .none), (9, .int .i64 (IntKind.wrap .i64 (i + (1 : Int))))] [AObj.gone, .arr 2 (.app (.map T.encS (0, 0) o) (.raw [[.int .i64 (l.getD i.toNat (0 : Int)), .int .i64 (l.getD (Int.toNat (IntKind.wrap .i64 (i + (1 : Int)))) (0 : Int))]]))] (q120_2 n Post))))))))) (needP (0 ≤ i ∧ i < (↑l.length : Int)) (needP ((0 : Int) ≤ IntKind.wrap .i64 (i + (1 : Int)) ∧ IntKind.wrap .i64 (i + (1 : Int)) < (↑l.length : Int)) (needP (k = List.length o ∧ (k + 1) * 16 ≤ 140737488351232) (AWP prog 81 n c120_4 [(0, .int .i64 op), (1, .sl 2 (.map T.encS (0, 0) a) .none), (2, .sl 2 (.map T.encS (0, 0) b) .none), (7, .msl 2 1 0 (k + 1)), (8, .sl 1 (.map encI 0 l) .none), (9, .int .i64 (IntKind.wrap .i64 (i + (1 : Int))))] [AObj.gone, .arr 2 (.app (.map T.encS (0, 0) o) (.raw [[.int .i64 (l.getD i.toNat (0 : Int)), .int .i64 (l.getD (Int.toNat (IntKind.wrap .i64 (i + (1 : Int)))) (0 : Int))]]))] (q120_2 n Post))))) → AWP prog 81 n c120_7 [(0, .int .i64 op), (1, .sl 2 (.map T.encS (0, 0) a) .none), (2, .sl 2 (.map T.encS (0, 0) b) .none), (7, .msl 2 0 0 k), (8, .sl 1 (.map encI 0 l) .none), (9, .int .i64 i)] [AObj.arr 2 (.map T.encS (0, 0) o)] (q120_5 n Post) := fun op a b o k l i n Post h => Go.Ab.awp_sound g120 n _ _ _ _ (kc (by kernel_rfl) h)
theorem v120_11n : ∀ (n : Nat) (Post : PT), Post (.sl 0 (.raw []) .nil) [] → AWP prog 81 n c120_11 [(7, .sl 0 (.raw []) .nil)] [] (q120_0 n Post) := fun n Post h => Go.Ab.awp_sound g120 n _ _ _ _ (kc (by kernel_rfl) h)
theorem v120_11s : ∀ (o : List T.Span) (n : Nat) (Post : PT),
  Post (.sl 2 (.map T.encS (0, 0) o) .none) [] → AWP prog 81 n c120_11 [(7, .sl 2 (.map T.encS (0, 0) o) .none)] [] (q120_0 n Post) := fun o n Post h => Go.Ab.awp_sound g120 n _ _ _ _ (kc (by kernel_rfl) h)
def l68 : Nat → List Nat
  | _ => []
def u68 : Nat → Bool
  | _ => false
def m68 : Nat → Bool
  | _ => false
def g68 : Cfg := { N := 8, live := l68, cut := u68, mu := m68, ret := rets }
theorem s68 : ∀ (a b : List T.Span) (Post : PT),
  (ASpec prog 120 [.int .i64 1, .sl 2 (.map T.encS (0, 0) a) .none, .sl 2 (.map T.encS (0, 0) b) .none] [] fun r H' => ∃ (x : List T.Span), r = AV.sl 2 (.map T.encS (0, 0) x) .none ∧ H' = [] ∧ Post (.sl 2 (.map T.encS (0, 0) x) .none) []) → ASpec prog 68 [.sl 2 (.map T.encS (0, 0) a) .none, .sl 2 (.map T.encS (0, 0) b) .none] [] Post := fun a b Post h => ASpec.of_vc g68 Tryz.func68 (by kernel_rfl) (by kernel_rfl) (by kernel_rfl) (kc (by kernel_rfl) h)
def l119 : Nat → List Nat
  | 2 => [0, 1, 5]
  | _ => []
def u119 : Nat → Bool
  | _ => false
def m119 : Nat → Bool
  | _ => false
def g119 : Cfg := { N := 34, live := l119, cut := u119, mu := m119, ret := rets }
def c119 : Code := bodyOf Tryz.f119
def q119_0 (n : Nat) (Post : PT) : AQ := endQ prog (resultsOf Tryz.f119) Post
def q119_1 (n : Nat) (Post : PT) : AQ := seqQ (fun s' H' => awp prog g119 n (codeSnd (codeSnd c119)) s' H' (q119_0 n Post)) (q119_0 n Post)
def q119_2 (n : Nat) (Post : PT) : AQ := blockQ 0 (q119_1 n Post)
def c119_2 : Code := codeFst (codeSnd (codeFst (codeSnd c119)))
theorem s119 : ∀ (l : List T.Span) (p : Int) (Post : PT),
  AWP prog 34 0 c119_2 [(0, .sl 2 (.map T.encS (0, 0) l) .none), (1, .int .i64 p), (5, .int .i64 0)] [] (q119_2 0 Post) → ASpec prog 119 [.sl 2 (.map T.encS (0, 0) l) .none, .int .i64 p] [] Post := fun l p Post h => ASpec.of_vc g119 Tryz.func119 (by kernel_rfl) (by kernel_rfl) (by kernel_rfl) (kc (by kernel_rfl) h)
theorem v119_2 : ∀ (l : List T.Span) (p i : Int) (n : Nat) (Post : PT),
  condP (decide (i < (↑l.length : Int))) (needP (0 ≤ i ∧ i < (↑l.length : Int)) (condP (decide ((l.getD i.toNat ((0 : Int), (0 : Int))).1 ≤ p)) (needP (0 ≤ i ∧ i < (↑l.length : Int)) (condP (decide (p < (l.getD i.toNat ((0 : Int), (0 : Int))).2)) (condP (decide (p ≥ (0 : Int))) (Post (.bool (decide (p < (1000000000 : Int)))) []) (Post (.bool false) [])) (AWP prog 34 n c119_2 [(0, .sl 2 (.map T.encS (0, 0) l) .none), (1, .int .i64 p), (5, .int .i64 (IntKind.wrap .i64 (i + (1 : Int))))] [] (q119_2 n Post)))) (AWP prog 34 n c119_2 [(0, .sl 2 (.map T.encS (0, 0) l) .none), (1, .int .i64 p), (5, .int .i64 (IntKind.wrap .i64 (i + (1 : Int))))] [] (q119_2 n Post)))) (Post (.bool false) []) → AWP prog 34 n c119_2 [(0, .sl 2 (.map T.encS (0, 0) l) .none), (1, .int .i64 p), (5, .int .i64 i)] [] (q119_2 n Post) := fun l p i n Post h => AWP.loop' g119 (Cfg.live g119) c119_2 (by kernel_rfl) (by kernel_rfl) (kc (by kernel_rfl) h)
def l153 : Nat → List Nat
  | _ => []
def u153 : Nat → Bool
  | _ => false
def m153 : Nat → Bool
  | _ => false
def g153 : Cfg := { N := 21, live := l153, cut := u153, mu := m153, ret := rets }
theorem s153 : ∀ (op : Int) (x y : Bool) (Post : PT),
  condP (op == (0 : Int)) (condP x (Post (.bool true) []) (Post (.bool y) [])) (condP (op == (1 : Int)) (condP x (Post (.bool y) []) (Post (.bool false) [])) (Post (.bool !x) [])) → ASpec prog 153 [.int .i64 op, AV.bool x, AV.bool y] [] Post := fun op x y Post h => ASpec.of_vc g153 Tryz.func153 (by kernel_rfl) (by kernel_rfl) (by kernel_rfl) (kc (by kernel_rfl) h)
def l192 : Nat → List Nat
  | 5 => [0, 1, 5, 6, 7]
  | 11 => [0, 1, 5, 6, 7]
  | 12 => [1, 5, 6]
  | _ => []
def u192 : Nat → Bool
  | 11 => true
  | 12 => true
  | _ => false
def m192 : Nat → Bool
  | _ => false
def g192 : Cfg := { N := 51, live := l192, cut := u192, mu := m192, ret := rets }
def c192 : Code := bodyOf Tryz.f192
def q192_0 (n : Nat) (Post : PT) : AQ := endQ prog (resultsOf Tryz.f192) Post
def c192_12 : Code := codeSnd (codeSnd (codeSnd (codeSnd (codeSnd c192))))
def q192_1 (n : Nat) (Post : PT) : AQ := seqQ (fun (s' : Slots) (H' : List AObj) => AWP prog (Cfg.N g192) n c192_12 (restrict s' (Cfg.live g192 12)) H' (q192_0 n Post)) (q192_0 n Post)
def q192_2 (n : Nat) (Post : PT) : AQ := blockQ 0 (q192_1 n Post)
def c192_5 : Code := codeFst (codeSnd (codeFst (codeSnd (codeSnd (codeSnd (codeSnd c192))))))
theorem s192 : ∀ (l : List Int) (p : Int) (Post : PT),
  AWP prog 51 0 c192_5 [(0, .sl 1 (.map encI 0 l) .none), (1, .int .i64 (if (1000000000 : Int) < if (0 : Int) > p then (0 : Int) else p then (1000000000 : Int) else if (0 : Int) > p then (0 : Int) else p)), (5, .sl 0 (.raw []) .nil), (6, .bool false), (7, .int .i64 0)] [] (q192_2 0 Post) → ASpec prog 192 [.sl 1 (.map encI 0 l) .none, .int .i64 p] [] Post := fun l p Post h => ASpec.of_vc g192 Tryz.func192 (by kernel_rfl) (by kernel_rfl) (by kernel_rfl) (kc (by kernel_rfl) h)
def q192_3 (n : Nat) (Post : PT) : AQ := loopQ prog 51 n c192_5 (q192_2 n Post) (Cfg.live g192)
def q192_4 (n : Nat) (Post : PT) : AQ := seqQ (fun s' H' => awp prog g192 n (codeSnd (codeSnd (codeFst c192_5))) s' H' (q192_3 n Post)) (q192_3 n Post)
def q192_5 (n : Nat) (Post : PT) : AQ := blockQ 1 (q192_4 n Post)
def c192_11 : Code := codeSnd (codeFst (codeFst (codeSnd (codeFst c192_5))))
theorem v192_5 : ∀ (l : List Int) (p : Int) (o : List Int) (z : Bool) (i : Int) (n : Nat) (Post : PT),
  condP (decide (i < (↑l.length : Int))) (condP (!z) (needP (0 ≤ i ∧ i < (↑l.length : Int)) (condP (decide (p ≤ List.getD l i.toNat (0 : Int))) (needP ((List.length o + 1) * 8 ≤ 140737488351232) (needP (0 ≤ i ∧ i < (↑l.length : Int)) (condP (p == List.getD l i.toNat (0 : Int)) (AWP prog 51 n c192_5 [(0, .sl 1 (.map encI 0 l) .none), (1, .int .i64 p), (5, .sl 1 (.app (.map encI 0 o) (.raw [[.int .i64 p]])) (.tok 1)), (6, .bool true), (7, .int .i64 (IntKind.wrap .i64 (i + (1 : Int))))] [AObj.gone, .tok] (q192_2 n Post)) (AWP prog 51 n c192_11 [(0, .sl 1 (.map encI 0 l) .none), (1, .int .i64 p), (5, .sl 1 (.app (.map encI 0 o) (.raw [[.int .i64 p]])) (.tok 1)), (6, .bool true), (7, .int .i64 i)] [AObj.gone, .tok] (q192_5 n Post))))) (AWP prog 51 n c192_11 [(0, .sl 1 (.map encI 0 l) .none), (1, .int .i64 p), (5, .sl 1 (.map encI 0 o) (.tok 0)), (6, .bool z), (7, .int .i64 i)] [AObj.tok] (q192_5 n Post)))) (AWP prog 51 n c192_11 [(0, .sl 1 (.map encI 0 l) .none), (1, .int .i64 p), (5, .sl 1 (.map encI 0 o) (.tok 0)), (6, .bool z), (7, .int .i64 i)] [AObj.tok] (q192_5 n Post))) (AWP prog 51 n c192_12 [(1, .int .i64 p), (5, .sl 1 (.map encI 0 o) (.tok 0)), (6, .bool z)] [AObj.tok] (q192_0 n Post)) → AWP prog 51 n c192_5 [(0, .sl 1 (.map encI 0 l) .none), (1, .int .i64 p), (5, .sl 1 (.map encI 0 o) (.tok 0)), (6, .bool z), (7, .int .i64 i)] [AObj.tok] (q192_2 n Post) := fun l p o z i n Post h => AWP.loop' g192 (Cfg.live g192) c192_5 (by kernel_rfl) (by kernel_rfl) (kc (by kernel_rfl) h)
theorem v192_11 : ∀ (l : List Int) (p : Int) (o : List Int) (z : Bool) (i : Int) (n : Nat) (Post : PT),
  needP (0 ≤ i ∧ i < (↑l.length : Int)) (needP ((List.length o + 1) * 8 ≤ 140737488351232) (AWP prog 51 n c192_5 [(0, .sl 1 (.map encI 0 l) .none), (1, .int .i64 p), (5, .sl 1 (.app (.map encI 0 o) (.raw [[.int .i64 (l.getD i.toNat (0 : Int))]])) (.tok 1)), (6, .bool z), (7, .int .i64 (IntKind.wrap .i64 (i + (1 : Int))))] [AObj.gone, .tok] (q192_2 n Post))) → AWP prog 51 n c192_11 [(0, .sl 1 (.map encI 0 l) .none), (1, .int .i64 p), (5, .sl 1 (.map encI 0 o) (.tok 0)), (6, .bool z), (7, .int .i64 i)] [AObj.tok] (q192_5 n Post) := fun l p o z i n Post h => Go.Ab.awp_sound g192 n _ _ _ _ (kc (by kernel_rfl) h)
theorem v192_12 : ∀ (p : Int) (o : List Int) (z : Bool) (n : Nat) (Post : PT),
  condP (!z) (needP ((List.length o + 1) * 8 ≤ 140737488351232) (Post (.sl 1 (.app (.map encI 0 o) (.raw [[.int .i64 p]])) (.tok 1)) [AObj.gone, .tok])) (Post (.sl 1 (.map encI 0 o) (.tok 0)) [AObj.tok]) → AWP prog 51 n c192_12 [(1, .int .i64 p), (5, .sl 1 (.map encI 0 o) (.tok 0)), (6, .bool z)] [AObj.tok] (q192_0 n Post) := fun p o z n Post h => Go.Ab.awp_sound g192 n _ _ _ _ (kc (by kernel_rfl) h)
def l152 : Nat → List Nat
  | 3 => [0, 1, 5, 6]
  | 6 => [1, 5]
  | 7 => [1, 5, 7]
  | _ => []
def u152 : Nat → Bool
  | 6 => true
  | _ => false
def m152 : Nat → Bool
  | _ => false
def g152 : Cfg := { N := 48, live := l152, cut := u152, mu := m152, ret := rets }
def c152 : Code := bodyOf Tryz.f152
def q152_0 (n : Nat) (Post : PT) : AQ := endQ prog (resultsOf Tryz.f152) Post
def c152_6 : Code := codeSnd (codeSnd (codeSnd c152))
def q152_1 (n : Nat) (Post : PT) : AQ := seqQ (fun (s' : Slots) (H' : List AObj) => AWP prog (Cfg.N g152) n c152_6 (restrict s' (Cfg.live g152 6)) H' (q152_0 n Post)) (q152_0 n Post)
def q152_2 (n : Nat) (Post : PT) : AQ := blockQ 0 (q152_1 n Post)
def c152_3 : Code := codeFst (codeSnd (codeFst (codeSnd (codeSnd c152))))
theorem s152 : ∀ (a b : List T.Span) (Post : PT),
  AWP prog 48 0 c152_3 [(0, .sl 2 (.map T.encS (0, 0) a) .none), (1, .sl 2 (.map T.encS (0, 0) b) .none), (5, .sl 1 (.raw [[.int .i64 0], [.int .i64 1000000000]]) .full), (6, .int .i64 0)] [] (q152_2 0 Post) → ASpec prog 152 [.sl 2 (.map T.encS (0, 0) a) .none, .sl 2 (.map T.encS (0, 0) b) .none] [] Post := fun a b Post h => ASpec.of_vc g152 Tryz.func152 (by kernel_rfl) (by kernel_rfl) (by kernel_rfl) (kc (by kernel_rfl) h)
theorem v152_3 : ∀ (a b : List T.Span) (l : List Int) (i : Int) (n : Nat) (Post : PT),
  condP (decide (i < (↑a.length : Int))) (needP (0 ≤ i ∧ i < (↑a.length : Int)) (needP (0 ≤ i ∧ i < (↑a.length : Int)) (ASpec prog 192 [AV.sl 1 (.map encI 0 l) .none, .int .i64 (a.getD i.toNat ((0 : Int), (0 : Int))).1] [] fun r H' => ∃ (x : List Int), r = AV.sl 1 (.map encI 0 x) .none ∧ H' = [] ∧ (AV.int .i64 (a.getD i.toNat ((0 : Int), (0 : Int))).2 = AV.int .i64 (a.getD i.toNat ((0 : Int), (0 : Int))).2 ∧ ([] : List AObj) = []) ∧ ASpec prog 192 [.sl 1 (.map encI 0 x) .none, .int .i64 (a.getD i.toNat ((0 : Int), (0 : Int))).2] [] fun r H' => ∃ (x : List Int), r = AV.sl 1 (.map encI 0 x) .none ∧ H' = [] ∧ AWP prog 48 n c152_3 [(0, .sl 2 (.map T.encS (0, 0) a) .none), (1, .sl 2 (.map T.encS (0, 0) b) .none), (5, .sl 1 (.map encI 0 x) .none), (6, .int .i64 (IntKind.wrap .i64 (i + (1 : Int))))] [] (q152_2 n Post)))) (AWP prog 48 n c152_6 [(1, .sl 2 (.map T.encS (0, 0) b) .none), (5, .sl 1 (.map encI 0 l) .none)] [] (q152_0 n Post)) → AWP prog 48 n c152_3 [(0, .sl 2 (.map T.encS (0, 0) a) .none), (1, .sl 2 (.map T.encS (0, 0) b) .none), (5, .sl 1 (.map encI 0 l) .none), (6, .int .i64 i)] [] (q152_2 n Post) := fun a b l i n Post h => AWP.loop' g152 (Cfg.live g152) c152_3 (by kernel_rfl) (by kernel_rfl) (kc (by kernel_rfl) h)
def q152_3 (n : Nat) (Post : PT) : AQ := seqQ (fun s' H' => awp prog g152 n (codeSnd c152_6) s' H' (q152_0 n Post)) (q152_0 n Post)
def q152_4 (n : Nat) (Post : PT) : AQ := blockQ 2 (q152_3 n Post)
def c152_7 : Code := codeFst (codeSnd (codeFst c152_6))
theorem v152_6 : ∀ (b : List T.Span) (l : List Int) (n : Nat) (Post : PT),
  AWP prog 48 n c152_7 [(1, .sl 2 (.map T.encS (0, 0) b) .none), (5, .sl 1 (.map encI 0 l) .none), (7, .int .i64 0)] [] (q152_4 n Post) → AWP prog 48 n c152_6 [(1, .sl 2 (.map T.encS (0, 0) b) .none), (5, .sl 1 (.map encI 0 l) .none)] [] (q152_0 n Post) := fun b l n Post h => Go.Ab.awp_sound g152 n _ _ _ _ (kc (by kernel_rfl) h)
theorem v152_7 : ∀ (b : List T.Span) (l : List Int) (i : Int) (n : Nat) (Post : PT),
  condP (decide (i < (↑b.length : Int))) (needP (0 ≤ i ∧ i < (↑b.length : Int)) (needP (0 ≤ i ∧ i < (↑b.length : Int)) (ASpec prog 192 [AV.sl 1 (.map encI 0 l) .none, .int .i64 (b.getD i.toNat ((0 : Int), (0 : Int))).1] [] fun r H' => ∃ (x : List Int), r = AV.sl 1 (.map encI 0 x) .none ∧ H' = [] ∧ (AV.int .i64 (b.getD i.toNat ((0 : Int), (0 : Int))).2 = AV.int .i64 (b.getD i.toNat ((0 : Int), (0 : Int))).2 ∧ ([] : List AObj) = []) ∧ ASpec prog 192 [.sl 1 (.map encI 0 x) .none, .int .i64 (b.getD i.toNat ((0 : Int), (0 : Int))).2] [] fun r H' => ∃ (x : List Int), r = AV.sl 1 (.map encI 0 x) .none ∧ H' = [] ∧ AWP prog 48 n c152_7 [(1, .sl 2 (.map T.encS (0, 0) b) .none), (5, .sl 1 (.map encI 0 x) .none), (7, .int .i64 (IntKind.wrap .i64 (i + (1 : Int))))] [] (q152_4 n Post)))) (Post (.sl 1 (.map encI 0 l) .none) []) → AWP prog 48 n c152_7 [(1, .sl 2 (.map T.encS (0, 0) b) .none), (5, .sl 1 (.map encI 0 l) .none), (7, .int .i64 i)] [] (q152_4 n Post) := fun b l i n Post h => AWP.loop' g152 (Cfg.live g152) c152_7 (by kernel_rfl) (by kernel_rfl) (kc (by kernel_rfl) h)
end
end Sg
end

noncomputable section
open Go Go.Ab Go.Proofs
namespace T
abbrev Ch := List Need × List Pk
def encCh (x : Ch) : List AV := [.sl 2 (.map encN ([], []) x.1) .none, .sl 2 (.map encPk noPk x.2) .none]
end T
end

noncomputable section
open Go Go.Ab Go.Proofs
open Go.Proofs.Tryz (prog)
namespace Ft
noncomputable section
def retFt : List (Nat × Ret) := [
  (160, ⟨Bool, fun _ _ x => .bool x, fun _ H _ => H⟩),
  (162, ⟨Bool, fun _ _ x => .bool x, fun _ H _ => H⟩),
  (164, ⟨Bool, fun _ _ x => .bool x, fun _ H _ => H⟩),
  (165, ⟨Bool, fun _ _ x => .bool x, fun _ H _ => H⟩),
  (166, ⟨Bool, fun _ _ x => .bool x, fun _ H _ => H⟩),
  (168, ⟨Bool, fun _ _ x => .bool x, fun _ H _ => H⟩),
  (193, ⟨Int, fun _ _ x => .int .i64 x, fun _ H _ => H⟩),
  (126, ⟨Int, fun _ _ x => .int .i64 x, fun _ H _ => H⟩),
  (132, ⟨ByteArray × Bool, fun _ _ x => .tup [.str x.1, .bool x.2], fun _ H _ => H⟩),
  (133, ⟨ByteArray × Bool, fun _ _ x => .tup [.str x.1, .bool x.2], fun _ H _ => H⟩),
  (134, ⟨ByteArray × Bool, fun _ _ x => .tup [.str x.1, .bool x.2], fun _ H _ => H⟩),
  (135, ⟨ByteArray × Bool, fun _ _ x => .tup [.str x.1, .bool x.2], fun _ H _ => H⟩),
  (136, ⟨ByteArray × Bool, fun _ _ x => .tup [.str x.1, .bool x.2], fun _ H _ => H⟩),
  (161, ⟨ByteArray × Bool, fun _ _ x => .tup [.str x.1, .bool x.2], fun _ H _ => H⟩),
  (163, ⟨T.Rel × Bool, fun _ _ x => .tup [.agg (T.encR x.1), .bool x.2], fun _ H _ => H⟩),
  (125, ⟨T.Rel × Bool, fun _ _ x => .tup [.agg (T.encR x.1), .bool x.2], fun _ H _ => H⟩),
  (76, ⟨Int × Bool, fun _ _ x => .tup [.int .i64 x.1, .bool x.2], fun _ H _ => H⟩),
  (124, ⟨Int, fun _ _ x => .int .i64 x, fun _ H _ => H⟩),
  (159, ⟨Bool, fun _ _ x => .bool x, fun _ H _ => H⟩),
  (207, ⟨Bool, fun _ _ x => .bool x, fun _ H _ => H⟩),
  (156, ⟨Int × Bool, fun _ _ x => .tup [.int .i64 x.1, .bool x.2], fun _ H _ => H⟩),
  (195, ⟨Int, fun _ _ x => .int .i64 x, fun _ H _ => H⟩),
  (101, ⟨Bool, fun _ _ x => .bool x, fun _ H _ => H⟩),
  (39, ⟨Bool, fun _ _ x => .bool x, fun _ H _ => H⟩),
  (167, ⟨List (List UInt8), fun _ _ x => .sl 1 (.map T.encL [] x) .none, fun _ H _ => H⟩),
  (148, ⟨List T.Pk, fun _ _ x => .sl 2 (.map T.encPk T.noPk x) .none, fun _ H _ => H⟩),
  (30, ⟨Bool, fun _ _ x => .bool x, fun _ H _ => H⟩),
  (194, ⟨Int × Bool, fun _ _ x => .tup [.int .i64 x.1, .bool x.2], fun _ H _ => H⟩),
  (89, ⟨Int × ByteArray, fun _ _ x => .tup [.int .i64 x.1, .str x.2], fun _ H _ => H⟩),
  (208, ⟨List (List UInt8), fun _ _ _ => .tup [], fun _ H x => H.set 5 (.mp (.typed T.EB (T.seenM x)))⟩),
  (99, ⟨T.Rel, fun _ _ x => .agg (T.encR x), fun _ H _ => H⟩),
  (9031, ⟨Unit, fun _ _ _ => .bool true, fun _ H _ => H⟩)]
def rets : FuncId → List Ret := fun f => match lookupR retFt f with
  | [] => (match Wn.rets f with | [] => Rc.rets f | l => l)
  | l => l
def m124 : Nat → Bool
  | _ => false
def l195 : Nat → List Nat
  | _ => []
def u195 : Nat → Bool
  | _ => false
def m195 : Nat → Bool
  | _ => false
def g195 : Cfg := { N := 9, live := l195, cut := u195, mu := m195, ret := rets }
theorem s195 : ∀ (x : T.Rel) (v : Int) (Post : PT),
  Post (.int .i64 (IntKind.wrap .i64 (Prod.fst x - v))) [AObj.cells [.int .i64 x.1, .sl 2 (.map T.encN ([], []) x.2) .none]] → ASpec prog 195 [.agg (T.encR x), .int .i64 v] [] Post := fun x v Post h => ASpec.of_vc g195 Tryz.func195 (by kernel_rfl) (by kernel_rfl) (by kernel_rfl) (kc (by kernel_rfl) h)
def l194 : Nat → List Nat
  | 3 => [0, 1, 2, 8, 9, 10]
  | _ => []
def u194 : Nat → Bool
  | _ => false
def m194 : Nat → Bool
  | _ => false
def g194 : Cfg := { N := 49, live := l194, cut := u194, mu := m194, ret := rets }
def c194 : Code := bodyOf Tryz.f194
def q194_0 (n : Nat) (Post : PT) : AQ := endQ prog (resultsOf Tryz.f194) Post
def q194_1 (n : Nat) (Post : PT) : AQ := seqQ (fun s' H' => awp prog g194 n (codeSnd (codeSnd (codeSnd (codeSnd c194)))) s' H' (q194_0 n Post)) (q194_0 n Post)
def q194_2 (n : Nat) (Post : PT) : AQ := blockQ 0 (q194_1 n Post)
def c194_3 : Code := codeFst (codeFst (codeSnd (codeSnd (codeSnd c194))))
theorem s194 : ∀ (rs : List T.Rel) (v : Int) (Post : PT),
  AWP prog 49 0 c194_3 [(0, .sl 2 (.map T.encR (0, []) rs) .none), (1, .int .i64 v), (2, .fn (195 : FuncId) []), (8, .int .i64 rs.length), (9, .int .i64 0), (10, .int .i64 rs.length)] [] (q194_2 0 Post) → ASpec prog 194 [AV.sl 2 (.map T.encR (0, []) rs) .none, .int .i64 v, AV.fn (195 : FuncId) []] [] Post := fun rs v Post h => ASpec.of_vc g194 Tryz.func194 (by kernel_rfl) (by kernel_rfl) (by kernel_rfl) (kc (by kernel_rfl) h)
theorem v194_3 : ∀ (rs : List T.Rel) (v n i j : Int) (n_1 : Nat) (Post : PT),
  condP (decide (i < j)) (needP ((0 : Int) ≤ (1 : Int)) (needP ((0 : Int) ≤ IntKind.wrap .i64 (Int.fdiv (IntKind.wrap .u64 (IntKind.wrap .i64 (i + j))) (2 : Int)) ∧ IntKind.wrap .i64 (Int.fdiv (IntKind.wrap .u64 (IntKind.wrap .i64 (i + j))) (2 : Int)) < (↑rs.length : Int)) (ASpec prog 195 [AV.agg [.int .i64 (Prod.fst (rs.getD (Int.toNat (IntKind.wrap .i64 (Int.fdiv (IntKind.wrap .u64 (IntKind.wrap .i64 (i + j))) (2 : Int)))) ((0 : Int), []))), AV.sl 2 (.map T.encN ([], []) (Prod.snd (rs.getD (Int.toNat (IntKind.wrap .i64 (Int.fdiv (IntKind.wrap .u64 (IntKind.wrap .i64 (i + j))) (2 : Int)))) ((0 : Int), [])))) .none], AV.int .i64 v] [] fun r H' => ∃ (x : Int), r = AV.int .i64 x ∧ H' = [] ∧ condP (decide (x < (0 : Int))) (AWP prog 49 n_1 c194_3 [(0, .sl 2 (.map T.encR (0, []) rs) .none), (1, .int .i64 v), (2, .fn (195 : FuncId) []), (8, .int .i64 n), (9, AV.int .i64 (IntKind.wrap .i64 (IntKind.wrap .i64 (Int.fdiv (IntKind.wrap .u64 (IntKind.wrap .i64 (i + j))) (2 : Int)) + (1 : Int)))), (10, .int .i64 j)] [] (q194_2 n_1 Post)) (AWP prog 49 n_1 c194_3 [(0, .sl 2 (.map T.encR (0, []) rs) .none), (1, .int .i64 v), (2, .fn (195 : FuncId) []), (8, .int .i64 n), (9, .int .i64 i), (10, .int .i64 (IntKind.wrap .i64 (Int.fdiv (IntKind.wrap .u64 (IntKind.wrap .i64 (i + j))) (2 : Int))))] [] (q194_2 n_1 Post))))) (condP (decide (i < n)) (needP (0 ≤ i ∧ i < (↑rs.length : Int)) (ASpec prog 195 [AV.agg [.int .i64 (rs.getD i.toNat ((0 : Int), [])).1, AV.sl 2 (.map T.encN ([], []) (rs.getD i.toNat ((0 : Int), [])).2) .none], AV.int .i64 v] [] fun r H' => ∃ (x : Int), r = AV.int .i64 x ∧ H' = [] ∧ Post (.tup [.int .i64 i, AV.bool (x == (0 : Int))]) [])) (Post (.tup [.int .i64 i, AV.bool false]) [])) → AWP prog 49 n_1 c194_3 [(0, .sl 2 (.map T.encR (0, []) rs) .none), (1, .int .i64 v), (2, .fn (195 : FuncId) []), (8, .int .i64 n), (9, .int .i64 i), (10, .int .i64 j)] [] (q194_2 n_1 Post) := fun rs v n i j n Post h => AWP.loop' g194 (Cfg.live g194) c194_3 (by kernel_rfl) (by kernel_rfl) (kc (by kernel_rfl) h)
def l156 : Nat → List Nat
  | _ => []
def u156 : Nat → Bool
  | _ => false
def m156 : Nat → Bool
  | _ => false
def g156 : Cfg := { N := 12, live := l156, cut := u156, mu := m156, ret := rets }
theorem s156 : ∀ (m : T.Mani) (v : Int) (Post : PT),
  (ASpec prog 194 [.sl 2 (.map T.encR (0, []) m.2) .none, .int .i64 v, AV.fn 195 []] [AObj.cells [.str ⟨m.1.toArray⟩, .sl 2 (.map T.encR (0, []) m.2) .none]] fun r H' => ∃ (x : Int × Bool), r = AV.tup [.int .i64 x.1, .bool x.2] ∧ H' = [AObj.cells [.str ⟨m.1.toArray⟩, .sl 2 (.map T.encR (0, []) m.2) .none]] ∧ Post (.tup [.int .i64 x.1, .bool x.2]) [AObj.cells [.str ⟨m.1.toArray⟩, .sl 2 (.map T.encR (0, []) m.2) .none]]) → ASpec prog 156 [.agg (T.encM m), .int .i64 v] [] Post := fun m v Post h => ASpec.of_vc g156 Tryz.func156 (by kernel_rfl) (by kernel_rfl) (by kernel_rfl) (kc (by kernel_rfl) h)
def l125 : Nat → List Nat
  | _ => []
def u125 : Nat → Bool
  | _ => false
def m125 : Nat → Bool
  | _ => false
def g125 : Cfg := { N := 30, live := l125, cut := u125, mu := m125, ret := rets }
abbrev hps1250 (m : T.Mani) : List AObj := [AObj.cells [.str ⟨m.1.toArray⟩, .sl 2 (.map T.encR (0, []) m.2) .none], .cells [.int .i64 0, .sl 0 (.raw []) .nil]]
theorem s125 : ∀ (m : T.Mani) (v : Int) (Post : PT),
  condP (decide (v < (0 : Int))) (Post (.tup [.agg [.int .i64 0, .sl 0 (.raw []) .nil], .bool false]) (hps1250 m)) (condP (decide (v ≥ (1000000000 : Int))) (Post (.tup [.agg [.int .i64 0, .sl 0 (.raw []) .nil], .bool false]) (hps1250 m)) (ASpec prog 156 [.agg [.str ⟨m.1.toArray⟩, .sl 2 (.map T.encR (0, []) m.2) .none], .int .i64 v] (hps1250 m) fun r H' => ∃ (x : Int × Bool), r = AV.tup [.int .i64 x.1, .bool x.2] ∧ H' = (hps1250 m) ∧ condP (!Prod.snd x) (Post (.tup [.agg [.int .i64 0, .sl 0 (.raw []) .nil], .bool false]) (hps1250 m)) (needP ((0 : Int) ≤ Prod.fst x ∧ Prod.fst x < (↑m.2.length : Int)) (ASpec prog 99 [AV.agg [.int .i64 (m.2.getD x.1.toNat ((0 : Int), [])).1, AV.sl 2 (.map T.encN ([], []) (m.2.getD x.1.toNat ((0 : Int), [])).2) .none]] (hps1250 m) fun r H' => ∃ (x : Int × List T.Need), r = AV.agg [.int .i64 x.1, .sl 2 (.map T.encN ([], []) x.2) .none] ∧ H' = (hps1250 m) ∧ Post (.tup [.agg [.int .i64 x.1, .sl 2 (.map T.encN ([], []) x.2) .none], .bool true]) [AObj.cells [.str ⟨m.1.toArray⟩, .sl 2 (.map T.encR (0, []) m.2) .none], .cells [.int .i64 x.1, .sl 2 (.map T.encN ([], []) x.2) .none]])))) → ASpec prog 125 [.agg (T.encM m), .int .i64 v] [] Post := fun m v Post h => ASpec.of_vc g125 Tryz.func125 (by kernel_rfl) (by kernel_rfl) (by kernel_rfl) (kc (by kernel_rfl) h)
end
end Ft
end
