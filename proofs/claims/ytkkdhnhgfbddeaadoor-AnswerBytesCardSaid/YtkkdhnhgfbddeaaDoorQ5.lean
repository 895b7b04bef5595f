/- Q5: several of this proof's own texts, one behind the other: what each proves stands at its head. -/
import Derived.Test.YtkkdhnhgfbddeaaDoorProg
import Derived.Test.YtkkdhnhgfbddeaaDoorA3
section
/- Printed: what the code of functions 90, 91, 104, 105, 93, 94, 96, 95, 136, 99, 100, 101, 103, 135, 137 asks for, by the framework's own reading of it; each line is checked against the code. -/

set_option linter.unusedVariables false
set_option maxRecDepth 100000
set_option maxHeartbeats 4000000
open Go Go.Ab Go.Proofs
namespace V
noncomputable section

noncomputable def rd (bs : List UInt8) (p e : Int) : AObj := .cells [.sl 1 (.map encB 0 bs) .none, .int .i64 p, .int .i64 e]
noncomputable def upd3 (args : List AV) (H : List AObj) (p e : Int) : List AObj := match args with
  | .ptr id _ :: _ => match H[id]? with
    | some (.cells [b, _, _]) => H.set id (.cells [b, .int .i64 p, .int .i64 e])
    | _ => H
  | _ => H
noncomputable def upd2 (args : List AV) (H : List AObj) (s : ByteArray) (e : Int) : List AObj := match args with
  | .ptr id _ :: _ => H.set id (.cells [.str s, .int .i64 e])
  | _ => H
noncomputable def retL : List (Nat × Ret) := [
  (18016, ⟨Unit, fun _ _ _ => .bool true, fun _ H _ => H⟩),
  (90, ⟨List UInt8, fun _ H l => .sl 1 (.map encB 0 l) (.tok H.length), fun _ H _ => H ++ [.tok]⟩),
  (91, ⟨List UInt8, fun _ H l => .sl 1 (.map encB 0 l) (.tok H.length), fun _ H _ => H ++ [.tok]⟩),
  (18019, ⟨ByteArray, fun _ _ s => .str s, fun _ H _ => H⟩),
  (105, ⟨ByteArray, fun _ _ s => .str s, fun _ H _ => H⟩),
  (93, ⟨List UInt8, fun _ H _ => .ptr H.length 0, fun _ H l => H ++ [rd l 0 0]⟩),
  (94, ⟨Int × Int × Int, fun _ _ x => .int .i64 x.1, fun a H x => upd3 a H x.2.1 x.2.2⟩),
  (96, ⟨ByteArray × Int × Int, fun _ _ x => .str x.1, fun a H x => upd3 a H x.2.1 x.2.2⟩),
  (95, ⟨Int, fun _ _ x => .int .i64 x, fun _ H _ => H⟩),
  (136, ⟨Int, fun _ _ x => .int .i64 x, fun _ H _ => H⟩),
  (100, ⟨Int × ByteArray × Int, fun _ _ x => .int .i64 x.1, fun a H x => upd2 a H x.2.1 x.2.2⟩),
  (101, ⟨ByteArray × ByteArray × Int, fun _ _ x => .str x.1, fun a H x => upd2 a H x.2.1 x.2.2⟩),
  (18028, ⟨Int × Int, fun _ _ x => .tup [], fun a H x => upd3 a H x.1 x.2⟩),
  (18029, ⟨ByteArray × Int, fun _ _ x => .tup [], fun a H x => upd2 a H x.1 x.2⟩),
  (99, ⟨Int, fun _ _ x => .int .i64 x, fun _ H _ => H⟩),
  (103, ⟨Int, fun _ _ x => .int .i64 x, fun _ H _ => H⟩),
  (104, ⟨ByteArray, fun _ _ s => .str s, fun _ H _ => H⟩),
  (135, ⟨Int × Int × Int × Int, fun _ _ x => .tup [.int .i64 x.1, .int .i64 x.2.1], fun a H x => upd3 a H x.2.2.1 x.2.2.2⟩),
  (137, ⟨Int × Int × Int, fun _ _ x => .tup [.int .i64 x.1, .int .i64 x.2.1, .int .i64 x.2.2], fun _ H _ => H⟩)]
noncomputable def rets : FuncId → List Ret := lookupR retL

-- 90
noncomputable def l90 : Nat → List Nat
  | 3 => [5, 12, 13, 14]
  | 7 => [5, 7, 8, 12, 13, 14]
  | 9 => [5, 7, 8, 12, 13, 14]
  | _ => []
noncomputable def u90 : Nat → Bool
  | _ => false
noncomputable def m90 : Nat → Bool
  | _ => false
noncomputable def g90 : Cfg := { N := 48, live := l90, cut := u90, mu := m90, ret := rets }
noncomputable def c90 : Go.Code := Go.Ab.bodyOf Go.Proofs.Tryd.f90
noncomputable def q90_0 : Nat → (AV → List AObj → Prop) → AQ := fun (n : Nat) (Post : AV → List AObj → Prop) => endQ Tryd.prog (resultsOf Tryd.f90) Post
noncomputable def q90_1 : Nat → (AV → List AObj → Prop) → AQ := fun (n : Nat) (Post : AV → List AObj → Prop) => seqQ (fun (s' : Slots) (H' : List AObj) => awp Tryd.prog g90 n (codeSnd (codeSnd (codeSnd c90))) s' H' (q90_0 n Post)) (q90_0 n Post)
noncomputable def q90_2 : Nat → (AV → List AObj → Prop) → AQ := fun (n : Nat) (Post : AV → List AObj → Prop) => blockQ 0 (q90_1 n Post)
noncomputable def c90_3 : Go.Code := codeFst (codeSnd (codeFst (codeSnd (codeSnd c90))))
theorem s90 : ∀ (bs : List UInt8) (tip : Tip) (ns : List Int) (tip2 : Tip) (Post : AV → List AObj → Prop),
  needP (∀ (x : UInt8), List.all (encB x) oneAV = true)
      (needP ((0 + List.length bs) * 1 ≤ 140737488351232)
        (AWP Tryd.prog 48 0 c90_3
         [(5, AV.sl 1 (Seq.app (Seq.raw []) (Seq.map encB (0 : UInt8) bs)) (Tip.tok 0)), (12, AV.sl 1 (Seq.map encI (0 : Int) ns) tip2),
         (13, AV.int IntKind.i64 (↑(List.length ns) : Int)), (14, AV.int IntKind.i64 (0 : Int))]
         [AObj.tok] (q90_2 0 Post))) →
    ASpec Tryd.prog 90 [AV.sl 1 (Seq.map encB (0 : UInt8) bs) tip, AV.sl 1 (Seq.map encI (0 : Int) ns) tip2] [] Post := fun bs tip ns tip2 Post h => Go.Ab.ASpec.of_vc g90 Go.Proofs.Tryd.func90 (by kernel_rfl) (by kernel_rfl) (by kernel_rfl) (Go.Ab.kc (by kernel_rfl) h)
noncomputable def q90_3 : Nat → (AV → List AObj → Prop) → AQ := fun (n : Nat) (Post : AV → List AObj → Prop) => loopQ Tryd.prog 48 n c90_3 (q90_2 n Post) (Cfg.live g90)
noncomputable def q90_4 : Nat → (AV → List AObj → Prop) → AQ := fun (n : Nat) (Post : AV → List AObj → Prop) => seqQ (fun (s' : Slots) (H' : List AObj) => awp Tryd.prog g90 n (codeSnd (codeSnd (codeSnd (codeFst c90_3)))) s' H' (q90_3 n Post)) (q90_3 n Post)
noncomputable def q90_5 : Nat → (AV → List AObj → Prop) → AQ := fun (n : Nat) (Post : AV → List AObj → Prop) => blockQ 1 (q90_4 n Post)
noncomputable def q90_6 : Nat → (AV → List AObj → Prop) → AQ := fun (n : Nat) (Post : AV → List AObj → Prop) => seqQ (fun (s' : Slots) (H' : List AObj) => awp Tryd.prog g90 n (codeSnd (codeSnd (codeSnd (codeSnd (codeFst (codeFst (codeSnd (codeSnd (codeFst c90_3))))))))) s' H' (q90_5 n Post)) (q90_5 n Post)
noncomputable def q90_7 : Nat → (AV → List AObj → Prop) → AQ := fun (n : Nat) (Post : AV → List AObj → Prop) => blockQ 2 (q90_6 n Post)
noncomputable def c90_7 : Go.Code := codeFst (codeFst (codeSnd (codeSnd (codeSnd (codeFst (codeFst (codeSnd (codeSnd (codeFst c90_3)))))))))
theorem v90_3 : ∀ (l : List UInt8) (ns : List Int) (tip2 : Tip) (k : Nat) (i : Int) (n : Nat) (Post : AV → List AObj → Prop),
  condP (decide (i < (↑k : Int)))
      (needP ((0 : Int) ≤ i ∧ i < (↑(List.length ns) : Int))
        (AWP Tryd.prog 48 n c90_7
         [(5, AV.sl 1 (Seq.map encB (0 : UInt8) l) (Tip.tok 0)),
         (7,
         AV.int IntKind.i64
         (if (1099511627776 : Int) < if (0 : Int) > List.getD ns (Int.toNat i) (0 : Int) then (0 : Int) else List.getD ns (Int.toNat i) (0 : Int) then (1099511627776 : Int)
         else if (0 : Int) > List.getD ns (Int.toNat i) (0 : Int) then (0 : Int) else List.getD ns (Int.toNat i) (0 : Int))),
         (8, AV.int IntKind.i64 (1 : Int)), (12, AV.sl 1 (Seq.map encI (0 : Int) ns) tip2), (13, AV.int IntKind.i64 (↑k : Int)), (14, AV.int IntKind.i64 i)]
         [AObj.tok] (q90_7 n Post)))
      (Post (AV.sl 1 (Seq.map encB (0 : UInt8) l) (Tip.tok 0)) [AObj.tok]) →
    AWP Tryd.prog 48 n c90_3
      [(5, AV.sl 1 (Seq.map encB (0 : UInt8) l) (Tip.tok 0)), (12, AV.sl 1 (Seq.map encI (0 : Int) ns) tip2), (13, AV.int IntKind.i64 (↑k : Int)),
        (14, AV.int IntKind.i64 i)]
      [AObj.tok] (q90_2 n Post) := fun l ns tip2 k i n Post h => Go.Ab.AWP.loop' g90 (Cfg.live g90) c90_3 (by kernel_rfl) (by kernel_rfl) (Go.Ab.kc (by kernel_rfl) h)
noncomputable def q90_8 : Nat → (AV → List AObj → Prop) → AQ := fun (n : Nat) (Post : AV → List AObj → Prop) => seqQ (fun (s' : Slots) (H' : List AObj) => awp Tryd.prog g90 n (codeSnd (codeSnd (codeSnd (codeSnd (codeSnd (codeFst (codeFst (codeSnd (codeSnd (codeFst c90_3)))))))))) s' H' (q90_5 n Post)) (q90_5 n Post)
noncomputable def q90_9 : Nat → (AV → List AObj → Prop) → AQ := fun (n : Nat) (Post : AV → List AObj → Prop) => blockQ 4 (q90_8 n Post)
noncomputable def c90_9 : Go.Code := codeFst (codeFst (codeSnd (codeSnd (codeSnd (codeSnd (codeFst (codeFst (codeSnd (codeSnd (codeFst c90_3))))))))))
theorem v90_7 : ∀ (l : List UInt8) (v w : Int) (ns : List Int) (tip2 : Tip) (k : Nat) (i : Int) (n : Nat) (Post : AV → List AObj → Prop),
  needP (w ≠ (0 : Int))
      (condP (decide (IntKind.wrap IntKind.i64 (Int.tdiv v w) ≥ (128 : Int)))
        (AWP Tryd.prog 48 n c90_7
         [(5, AV.sl 1 (Seq.map encB (0 : UInt8) l) (Tip.tok 0)), (7, AV.int IntKind.i64 v),
         (8, AV.int IntKind.i64 (IntKind.wrap IntKind.i64 (w * (128 : Int)))), (12, AV.sl 1 (Seq.map encI (0 : Int) ns) tip2), (13, AV.int IntKind.i64 (↑k : Int)),
         (14, AV.int IntKind.i64 i)]
         [AObj.tok] (q90_7 n Post))
        (AWP Tryd.prog 48 n c90_9
         [(5, AV.sl 1 (Seq.map encB (0 : UInt8) l) (Tip.tok 0)), (7, AV.int IntKind.i64 v), (8, AV.int IntKind.i64 w),
         (12, AV.sl 1 (Seq.map encI (0 : Int) ns) tip2), (13, AV.int IntKind.i64 (↑k : Int)), (14, AV.int IntKind.i64 i)]
         [AObj.tok] (q90_9 n Post))) →
    AWP Tryd.prog 48 n c90_7
      [(5, AV.sl 1 (Seq.map encB (0 : UInt8) l) (Tip.tok 0)), (7, AV.int IntKind.i64 v), (8, AV.int IntKind.i64 w),
        (12, AV.sl 1 (Seq.map encI (0 : Int) ns) tip2), (13, AV.int IntKind.i64 (↑k : Int)), (14, AV.int IntKind.i64 i)]
      [AObj.tok] (q90_7 n Post) := fun l v w ns tip2 k i n Post h => Go.Ab.AWP.loop' g90 (Cfg.live g90) c90_7 (by kernel_rfl) (by kernel_rfl) (Go.Ab.kc (by kernel_rfl) h)
theorem v90_9 : ∀ (l : List UInt8) (v w : Int) (ns : List Int) (tip2 : Tip) (k : Nat) (i : Int) (n : Nat) (Post : AV → List AObj → Prop),
  condP (decide (w > (1 : Int)))
      (needP (w ≠ (0 : Int))
        (needP ((128 : Int) ≠ (0 : Int))
         (needP ((List.length l + 1) * 1 ≤ 140737488351232)
         (needP ((128 : Int) ≠ (0 : Int))
         (AWP Tryd.prog 48 n c90_9
         [(5,
         AV.sl 1
         (Seq.app (Seq.map encB (0 : UInt8) l)
         (Seq.raw [[AV.int IntKind.u8 (IntKind.wrap IntKind.u8 (IntKind.wrap IntKind.i64 ((128 : Int) + Int.tmod (IntKind.wrap IntKind.i64 (Int.tdiv v w)) (128 : Int))))]]))
         (Tip.tok 1)),
         (7, AV.int IntKind.i64 v), (8, AV.int IntKind.i64 (IntKind.wrap IntKind.i64 (Int.tdiv w (128 : Int)))),
         (12, AV.sl 1 (Seq.map encI (0 : Int) ns) tip2), (13, AV.int IntKind.i64 (↑k : Int)), (14, AV.int IntKind.i64 i)]
         [AObj.gone, AObj.tok] (q90_9 n Post))))))
      (needP ((128 : Int) ≠ (0 : Int))
        (needP ((List.length l + 1) * 1 ≤ 140737488351232)
         (AWP Tryd.prog 48 n c90_3
         [(5, AV.sl 1 (Seq.app (Seq.map encB (0 : UInt8) l) (Seq.raw [[AV.int IntKind.u8 (IntKind.wrap IntKind.u8 (Int.tmod v (128 : Int)))]])) (Tip.tok 1)),
         (12, AV.sl 1 (Seq.map encI (0 : Int) ns) tip2), (13, AV.int IntKind.i64 (↑k : Int)), (14, AV.int IntKind.i64 (IntKind.wrap IntKind.i64 (i + (1 : Int))))]
         [AObj.gone, AObj.tok] (q90_2 n Post)))) →
    AWP Tryd.prog 48 n c90_9
      [(5, AV.sl 1 (Seq.map encB (0 : UInt8) l) (Tip.tok 0)), (7, AV.int IntKind.i64 v), (8, AV.int IntKind.i64 w),
        (12, AV.sl 1 (Seq.map encI (0 : Int) ns) tip2), (13, AV.int IntKind.i64 (↑k : Int)), (14, AV.int IntKind.i64 i)]
      [AObj.tok] (q90_9 n Post) := fun l v w ns tip2 k i n Post h => Go.Ab.AWP.loop' g90 (Cfg.live g90) c90_9 (by kernel_rfl) (by kernel_rfl) (Go.Ab.kc (by kernel_rfl) h)

-- 91
noncomputable def l91 : Nat → List Nat
  | _ => []
noncomputable def u91 : Nat → Bool
  | _ => false
noncomputable def m91 : Nat → Bool
  | _ => false
noncomputable def g91 : Cfg := { N := 12, live := l91, cut := u91, mu := m91, ret := rets }
theorem s91 : ∀ (bs : List UInt8) (tip : Tip) (s : ByteArray) (Post : AV → List AObj → Prop),
  (ASpec Tryd.prog 90 [AV.sl 1 (Seq.map encB (0 : UInt8) bs) tip, AV.sl 1 (Seq.raw [[AV.int IntKind.i64 (↑(ByteArray.size s) : Int)]]) Tip.full] []
      fun (r : AV) (H' : List AObj) =>
      ∃ (x : List UInt8),
        r = AV.sl 1 (Seq.map encB (0 : UInt8) x) (Tip.tok 0) ∧
         H' = [AObj.tok] ∧
         needP (∀ (x : UInt8), List.all (encB x) oneAV = true)
         (needP ((List.length x + Seq.len (bytesSeq s)) * 1 ≤ 140737488351232)
         (Post (AV.sl 1 (Seq.app (Seq.map encB (0 : UInt8) x) (bytesSeq s)) (Tip.tok 1)) [AObj.gone, AObj.tok]))) →
    ASpec Tryd.prog 91 [AV.sl 1 (Seq.map encB (0 : UInt8) bs) tip, AV.str s] [] Post := fun bs tip s Post h => Go.Ab.ASpec.of_vc g91 Go.Proofs.Tryd.func91 (by kernel_rfl) (by kernel_rfl) (by kernel_rfl) (Go.Ab.kc (by kernel_rfl) h)

-- 104
noncomputable def l104 : Nat → List Nat
  | 3 => [0, 3]
  | _ => []
noncomputable def u104 : Nat → Bool
  | _ => false
noncomputable def m104 : Nat → Bool
  | _ => false
noncomputable def g104 : Cfg := { N := 25, live := l104, cut := u104, mu := m104, ret := rets }
noncomputable def c104 : Go.Code := Go.Ab.bodyOf Go.Proofs.Tryd.f104
noncomputable def q104_0 : Nat → (AV → List AObj → Prop) → AQ := fun (n : Nat) (Post : AV → List AObj → Prop) => endQ Tryd.prog (resultsOf Tryd.f104) Post
noncomputable def q104_1 : Nat → (AV → List AObj → Prop) → AQ := fun (n : Nat) (Post : AV → List AObj → Prop) => seqQ (fun (s' : Slots) (H' : List AObj) => awp Tryd.prog g104 n (codeSnd (codeSnd (codeSnd (codeSnd c104)))) s' H' (q104_0 n Post)) (q104_0 n Post)
noncomputable def q104_2 : Nat → (AV → List AObj → Prop) → AQ := fun (n : Nat) (Post : AV → List AObj → Prop) => blockQ 0 (q104_1 n Post)
noncomputable def c104_3 : Go.Code := codeFst (codeFst (codeSnd (codeSnd (codeSnd c104))))
theorem s104 : ∀ (x : Int) (Post : AV → List AObj → Prop),
  needP ((128 : Int) ≠ (0 : Int))
      (needP
        (allBytes
         (Seq.raw
         [[AV.int IntKind.u8
         (IntKind.wrap IntKind.u8
         (Int.tmod (if (1099511627776 : Int) < if (0 : Int) > x then (0 : Int) else x then (1099511627776 : Int) else if (0 : Int) > x then (0 : Int) else x) (128 : Int)))]]))
        (AWP Tryd.prog 25 0 c104_3
         [(0, AV.int IntKind.i64 (if (1099511627776 : Int) < if (0 : Int) > x then (0 : Int) else x then (1099511627776 : Int) else if (0 : Int) > x then (0 : Int) else x)),
         (3,
         AV.str
         (bytesOf
         (Seq.raw
         [[AV.int IntKind.u8
         (IntKind.wrap IntKind.u8
         (Int.tmod (if (1099511627776 : Int) < if (0 : Int) > x then (0 : Int) else x then (1099511627776 : Int) else if (0 : Int) > x then (0 : Int) else x) (128 : Int)))]])))]
         [] (q104_2 0 Post))) →
    ASpec Tryd.prog 104 [AV.int IntKind.i64 x] [] Post := fun x Post h => Go.Ab.ASpec.of_vc g104 Go.Proofs.Tryd.func104 (by kernel_rfl) (by kernel_rfl) (by kernel_rfl) (Go.Ab.kc (by kernel_rfl) h)
theorem v104_3 : ∀ (x : Int) (s : ByteArray) (n : Nat) (Post : AV → List AObj → Prop),
  condP (decide (x ≥ (128 : Int)))
      (needP ((128 : Int) ≠ (0 : Int))
        (needP ((128 : Int) ≠ (0 : Int))
         (needP
         (allBytes (Seq.raw [[AV.int IntKind.u8 (IntKind.wrap IntKind.u8 (IntKind.wrap IntKind.i64 ((128 : Int) + Int.tmod (IntKind.wrap IntKind.i64 (Int.tdiv x (128 : Int))) (128 : Int))))]]))
         (needP
         ((↑(ByteArray.size
         (bytesOf
         (Seq.raw
         [[AV.int IntKind.u8 (IntKind.wrap IntKind.u8 (IntKind.wrap IntKind.i64 ((128 : Int) + Int.tmod (IntKind.wrap IntKind.i64 (Int.tdiv x (128 : Int))) (128 : Int))))]])) +
         ByteArray.size s) :
         Int) ≤
         (9223372036854775807 : Int))
         (AWP Tryd.prog 25 n c104_3
         [(0, AV.int IntKind.i64 (IntKind.wrap IntKind.i64 (Int.tdiv x (128 : Int)))),
         (3,
         AV.str
         (bytesOf
         (Seq.raw
         [[AV.int IntKind.u8 (IntKind.wrap IntKind.u8 (IntKind.wrap IntKind.i64 ((128 : Int) + Int.tmod (IntKind.wrap IntKind.i64 (Int.tdiv x (128 : Int))) (128 : Int))))]]) ++
         s))]
         [] (q104_2 n Post))))))
      (Post (AV.str s) []) →
    AWP Tryd.prog 25 n c104_3 [(0, AV.int IntKind.i64 x), (3, AV.str s)] [] (q104_2 n Post) := fun x s n Post h => Go.Ab.AWP.loop' g104 (Cfg.live g104) c104_3 (by kernel_rfl) (by kernel_rfl) (Go.Ab.kc (by kernel_rfl) h)

-- 105
noncomputable def l105 : Nat → List Nat
  | _ => []
noncomputable def u105 : Nat → Bool
  | _ => false
noncomputable def m105 : Nat → Bool
  | _ => false
noncomputable def g105 : Cfg := { N := 8, live := l105, cut := u105, mu := m105, ret := rets }
theorem s105 : ∀ (s : ByteArray) (Post : AV → List AObj → Prop),
  (ASpec Tryd.prog 104 [AV.int IntKind.i64 (↑(ByteArray.size s) : Int)] [] fun (r : AV) (H' : List AObj) =>
      ∃ (x : ByteArray), r = AV.str x ∧ H' = [] ∧ needP ((↑(ByteArray.size x + ByteArray.size s) : Int) ≤ (9223372036854775807 : Int)) (Post (AV.str (x ++ s)) [])) →
    ASpec Tryd.prog 105 [AV.str s] [] Post := fun s Post h => Go.Ab.ASpec.of_vc g105 Go.Proofs.Tryd.func105 (by kernel_rfl) (by kernel_rfl) (by kernel_rfl) (Go.Ab.kc (by kernel_rfl) h)

-- 93
noncomputable def l93 : Nat → List Nat
  | 3 => [3]
  | _ => []
noncomputable def u93 : Nat → Bool
  | 3 => true
  | _ => false
noncomputable def m93 : Nat → Bool
  | _ => true
noncomputable def g93 : Cfg := { N := 13, live := l93, cut := u93, mu := m93, ret := rets }
noncomputable def c93 : Go.Code := Go.Ab.bodyOf Go.Proofs.Tryd.f93
noncomputable def q93_0 : Nat → (AV → List AObj → Prop) → AQ := fun (n : Nat) (Post : AV → List AObj → Prop) => endQ Tryd.prog (resultsOf Tryd.f93) Post
noncomputable def c93_3 : Go.Code := codeSnd (codeSnd (codeSnd c93))
theorem s93 : ∀ (bs : List UInt8) (tip : Tip) (Post : AV → List AObj → Prop),
  needP
      ((0 : Int) ≤ (↑(List.length bs) : Int) ∧
        (↑(List.length bs) : Int) ≤ (↑(List.length bs) : Int) ∧ (↑(List.length bs) : Int) ≤ (9223372036854775807 : Int) ∧ (1 : Int) * (↑(List.length bs) : Int) ≤ (281474976710656 : Int))
      (needP (∀ (x : UInt8), List.all (encB x) oneAV = true)
        (needP (0 + List.length bs ≤ List.length (List.replicate (List.length bs) [AV.int IntKind.u8 (0 : Int)]) ∧ List.length bs ≤ List.length bs)
         (AWP Tryd.prog 13 0 c93_3 [(3, AV.msl 1 0 0 (List.length bs))]
         [AObj.arr 1 (copied (Seq.raw (List.replicate (List.length bs) [AV.int IntKind.u8 (0 : Int)])) 0 (Seq.map encB (0 : UInt8) bs))] (q93_0 0 Post)))) →
    ASpec Tryd.prog 93 [AV.sl 1 (Seq.map encB (0 : UInt8) bs) tip] [] Post := fun bs tip Post h => Go.Ab.ASpec.of_vc g93 Go.Proofs.Tryd.func93 (by kernel_rfl) (by kernel_rfl) (by kernel_rfl) (Go.Ab.kc (by kernel_rfl) h)
theorem v93_3 : ∀ (bs : List UInt8) (n : Nat) (Post : AV → List AObj → Prop),
  Post (AV.ptr 0 0) [AObj.cells [AV.sl 1 (Seq.map encB (0 : UInt8) bs) Tip.none, AV.int IntKind.i64 (0 : Int), AV.int IntKind.i64 (0 : Int)]] →
    AWP Tryd.prog 13 n c93_3 [(3, AV.sl 1 (Seq.map encB (0 : UInt8) bs) Tip.none)] [] (q93_0 n Post) := fun bs n Post h => Go.Ab.awp_sound g93 n _ _ _ _ (Go.Ab.kc (by kernel_rfl) h)

-- 94
noncomputable def l94 : Nat → List Nat
  | _ => []
noncomputable def u94 : Nat → Bool
  | _ => false
noncomputable def m94 : Nat → Bool
  | _ => false
noncomputable def g94 : Cfg := { N := 27, live := l94, cut := u94, mu := m94, ret := rets }
theorem s94 : ∀ (bs : List UInt8) (p e most : Int) (Post : AV → List AObj → Prop),
  condP (e != (0 : Int)) (Post (AV.int IntKind.i64 (0 : Int)) [AObj.cells [AV.sl 1 (Seq.map encB (0 : UInt8) bs) Tip.none, AV.int IntKind.i64 p, AV.int IntKind.i64 e]])
      (ASpec Tryd.prog 135 [AV.ptr 0 0, AV.int IntKind.i64 most]
        [AObj.cells [AV.sl 1 (Seq.map encB (0 : UInt8) bs) Tip.none, AV.int IntKind.i64 p, AV.int IntKind.i64 e]] fun (r : AV) (H' : List AObj) =>
        ∃ (x : Int × Int × Int × Int),
         r = AV.tup [AV.int IntKind.i64 (Prod.fst x), AV.int IntKind.i64 (Prod.fst (Prod.snd x))] ∧
         H' = [AObj.cells [AV.sl 1 (Seq.map encB (0 : UInt8) bs) Tip.none, AV.int IntKind.i64 (Prod.fst (Prod.snd (Prod.snd x))), AV.int IntKind.i64 (Prod.snd (Prod.snd (Prod.snd x)))]] ∧
         Post (AV.int IntKind.i64 (Prod.fst x))
         [AObj.cells [AV.sl 1 (Seq.map encB (0 : UInt8) bs) Tip.none, AV.int IntKind.i64 (Prod.fst (Prod.snd x)), AV.int IntKind.i64 (Prod.snd (Prod.snd (Prod.snd x)))]]) →
    ASpec Tryd.prog 94 [AV.ptr 0 0, AV.int IntKind.i64 most] [rd bs p e] Post := fun bs p e most Post h => Go.Ab.ASpec.of_vc g94 Go.Proofs.Tryd.func94 (by kernel_rfl) (by kernel_rfl) (by kernel_rfl) (Go.Ab.kc (by kernel_rfl) h)
noncomputable def l96 : Nat → List Nat
  | _ => []
noncomputable def u96 : Nat → Bool
  | _ => false
noncomputable def m96 : Nat → Bool
  | _ => false
noncomputable def g96 : Cfg := { N := 56, live := l96, cut := u96, mu := m96, ret := rets }
theorem s96 : ∀ (bs : List UInt8) (p e most : Int) (Post : AV → List AObj → Prop),
  condP (e != (0 : Int)) (Post (AV.str { data := #[] }) [AObj.cells [AV.sl 1 (Seq.map encB (0 : UInt8) bs) Tip.none, AV.int IntKind.i64 p, AV.int IntKind.i64 e]])
      (ASpec Tryd.prog 135 [AV.ptr 0 0, AV.int IntKind.i64 most]
        [AObj.cells [AV.sl 1 (Seq.map encB (0 : UInt8) bs) Tip.none, AV.int IntKind.i64 p, AV.int IntKind.i64 e]] fun (r : AV) (H' : List AObj) =>
        ∃ (x : Int × Int × Int × Int),
         r = AV.tup [AV.int IntKind.i64 (Prod.fst x), AV.int IntKind.i64 (Prod.fst (Prod.snd x))] ∧
         H' = [AObj.cells [AV.sl 1 (Seq.map encB (0 : UInt8) bs) Tip.none, AV.int IntKind.i64 (Prod.fst (Prod.snd (Prod.snd x))), AV.int IntKind.i64 (Prod.snd (Prod.snd (Prod.snd x)))]] ∧
         condP (Prod.snd (Prod.snd (Prod.snd x)) != (0 : Int))
         (Post (AV.str { data := #[] })
         [AObj.cells [AV.sl 1 (Seq.map encB (0 : UInt8) bs) Tip.none, AV.int IntKind.i64 (Prod.fst (Prod.snd (Prod.snd x))), AV.int IntKind.i64 (Prod.snd (Prod.snd (Prod.snd x)))]])
         (condP (decide (Prod.fst x > IntKind.wrap IntKind.i64 ((↑(List.length bs) : Int) - Prod.fst (Prod.snd x))))
         (Post (AV.str { data := #[] })
         [AObj.cells [AV.sl 1 (Seq.map encB (0 : UInt8) bs) Tip.none, AV.int IntKind.i64 (Prod.fst (Prod.snd (Prod.snd x))), AV.int IntKind.i64 (2 : Int)]])
         (needP
         ((0 : Int) ≤ Prod.fst (Prod.snd x) ∧
         Prod.fst (Prod.snd x) ≤ IntKind.wrap IntKind.i64 (Prod.fst (Prod.snd x) + Prod.fst x) ∧ IntKind.wrap IntKind.i64 (Prod.fst (Prod.snd x) + Prod.fst x) ≤ (↑(List.length bs) : Int))
         (needP
         (allBytes (Seq.map encB (0 : UInt8) (List.drop (Int.toNat (Prod.fst (Prod.snd x))) (List.take (Int.toNat (IntKind.wrap IntKind.i64 (Prod.fst (Prod.snd x) + Prod.fst x))) bs))))
         (Post
         (AV.str
         (bytesOf
         (Seq.map encB (0 : UInt8) (List.drop (Int.toNat (Prod.fst (Prod.snd x))) (List.take (Int.toNat (IntKind.wrap IntKind.i64 (Prod.fst (Prod.snd x) + Prod.fst x))) bs)))))
         [AObj.cells
         [AV.sl 1 (Seq.map encB (0 : UInt8) bs) Tip.none, AV.int IntKind.i64 (IntKind.wrap IntKind.i64 (Prod.fst (Prod.snd x) + Prod.fst x)),
         AV.int IntKind.i64 (Prod.snd (Prod.snd (Prod.snd x)))]]))))) →
    ASpec Tryd.prog 96 [AV.ptr 0 0, AV.int IntKind.i64 most] [rd bs p e] Post := fun bs p e most Post h => Go.Ab.ASpec.of_vc g96 Go.Proofs.Tryd.func96 (by kernel_rfl) (by kernel_rfl) (by kernel_rfl) (Go.Ab.kc (by kernel_rfl) h)
noncomputable def l95 : Nat → List Nat
  | _ => []
noncomputable def u95 : Nat → Bool
  | _ => false
noncomputable def m95 : Nat → Bool
  | _ => false
noncomputable def g95 : Cfg := { N := 9, live := l95, cut := u95, mu := m95, ret := rets }
theorem s95 : ∀ (bs : List UInt8) (p e : Int) (Post : AV → List AObj → Prop),
  Post (AV.int IntKind.i64 e) [AObj.cells [AV.sl 1 (Seq.map encB (0 : UInt8) bs) Tip.none, AV.int IntKind.i64 p, AV.int IntKind.i64 e]] →
    ASpec Tryd.prog 95 [AV.ptr 0 0] [rd bs p e] Post := fun bs p e Post h => Go.Ab.ASpec.of_vc g95 Go.Proofs.Tryd.func95 (by kernel_rfl) (by kernel_rfl) (by kernel_rfl) (Go.Ab.kc (by kernel_rfl) h)
noncomputable def l136 : Nat → List Nat
  | _ => []
noncomputable def u136 : Nat → Bool
  | _ => false
noncomputable def m136 : Nat → Bool
  | _ => false
noncomputable def g136 : Cfg := { N := 15, live := l136, cut := u136, mu := m136, ret := rets }
theorem s136 : ∀ (bs : List UInt8) (p e : Int) (Post : AV → List AObj → Prop),
  Post (AV.int IntKind.i64 (IntKind.wrap IntKind.i64 ((↑(List.length bs) : Int) - p)))
      [AObj.cells [AV.sl 1 (Seq.map encB (0 : UInt8) bs) Tip.none, AV.int IntKind.i64 p, AV.int IntKind.i64 e]] →
    ASpec Tryd.prog 136 [AV.ptr 0 0] [rd bs p e] Post := fun bs p e Post h => Go.Ab.ASpec.of_vc g136 Go.Proofs.Tryd.func136 (by kernel_rfl) (by kernel_rfl) (by kernel_rfl) (Go.Ab.kc (by kernel_rfl) h)
noncomputable def l99 : Nat → List Nat
  | _ => []
noncomputable def u99 : Nat → Bool
  | _ => false
noncomputable def m99 : Nat → Bool
  | _ => false
noncomputable def g99 : Cfg := { N := 14, live := l99, cut := u99, mu := m99, ret := rets }
theorem s99 : ∀ (bs : List UInt8) (p e : Int) (Post : AV → List AObj → Prop),
  (ASpec Tryd.prog 95 [AV.ptr 0 0] [AObj.cells [AV.sl 1 (Seq.map encB (0 : UInt8) bs) Tip.none, AV.int IntKind.i64 p, AV.int IntKind.i64 e]]
      fun (r : AV) (H' : List AObj) =>
      ∃ (x : Int),
        r = AV.int IntKind.i64 x ∧
         H' = [AObj.cells [AV.sl 1 (Seq.map encB (0 : UInt8) bs) Tip.none, AV.int IntKind.i64 p, AV.int IntKind.i64 e]] ∧
         condP (x != (0 : Int)) (Post (AV.int IntKind.i64 x) [AObj.cells [AV.sl 1 (Seq.map encB (0 : UInt8) bs) Tip.none, AV.int IntKind.i64 p, AV.int IntKind.i64 e]])
         (ASpec Tryd.prog 136 [AV.ptr 0 0] [AObj.cells [AV.sl 1 (Seq.map encB (0 : UInt8) bs) Tip.none, AV.int IntKind.i64 p, AV.int IntKind.i64 e]]
         fun (r : AV) (H' : List AObj) =>
         ∃ (x : Int),
         r = AV.int IntKind.i64 x ∧
         H' = [AObj.cells [AV.sl 1 (Seq.map encB (0 : UInt8) bs) Tip.none, AV.int IntKind.i64 p, AV.int IntKind.i64 e]] ∧
         condP (decide (x > (0 : Int)))
         (Post (AV.int IntKind.i64 (3 : Int)) [AObj.cells [AV.sl 1 (Seq.map encB (0 : UInt8) bs) Tip.none, AV.int IntKind.i64 p, AV.int IntKind.i64 e]])
         (Post (AV.int IntKind.i64 (0 : Int)) [AObj.cells [AV.sl 1 (Seq.map encB (0 : UInt8) bs) Tip.none, AV.int IntKind.i64 p, AV.int IntKind.i64 e]]))) →
    ASpec Tryd.prog 99 [AV.ptr 0 0] [rd bs p e] Post := fun bs p e Post h => Go.Ab.ASpec.of_vc g99 Go.Proofs.Tryd.func99 (by kernel_rfl) (by kernel_rfl) (by kernel_rfl) (Go.Ab.kc (by kernel_rfl) h)
noncomputable def l100 : Nat → List Nat
  | _ => []
noncomputable def u100 : Nat → Bool
  | _ => false
noncomputable def m100 : Nat → Bool
  | _ => false
noncomputable def g100 : Cfg := { N := 37, live := l100, cut := u100, mu := m100, ret := rets }
theorem s100 : ∀ (s : ByteArray) (e most : Int) (Post : AV → List AObj → Prop),
  condP (e != (0 : Int)) (Post (AV.int IntKind.i64 (0 : Int)) [AObj.cells [AV.str s, AV.int IntKind.i64 e]])
      (ASpec Tryd.prog 137 [AV.str s, AV.int IntKind.i64 most] [AObj.cells [AV.str s, AV.int IntKind.i64 e]] fun (r : AV) (H' : List AObj) =>
        ∃ (x : Int × Int × Int),
         r = AV.tup [AV.int IntKind.i64 (Prod.fst x), AV.int IntKind.i64 (Prod.fst (Prod.snd x)), AV.int IntKind.i64 (Prod.snd (Prod.snd x))] ∧
         H' = [AObj.cells [AV.str s, AV.int IntKind.i64 e]] ∧
         needP ((0 : Int) ≤ Prod.fst (Prod.snd x) ∧ Prod.fst (Prod.snd x) ≤ (↑(ByteArray.size s) : Int))
         (Post (AV.int IntKind.i64 (Prod.fst x))
         [AObj.cells [AV.str (ByteArray.extract s (Int.toNat (Prod.fst (Prod.snd x))) (ByteArray.size s)), AV.int IntKind.i64 (Prod.snd (Prod.snd x))]])) →
    ASpec Tryd.prog 100 [AV.ptr 0 0, AV.int IntKind.i64 most] [AObj.cells [AV.str s, AV.int IntKind.i64 e]] Post := fun s e most Post h => Go.Ab.ASpec.of_vc g100 Go.Proofs.Tryd.func100 (by kernel_rfl) (by kernel_rfl) (by kernel_rfl) (Go.Ab.kc (by kernel_rfl) h)

-- 101
noncomputable def l101 : Nat → List Nat
  | _ => []
noncomputable def u101 : Nat → Bool
  | _ => false
noncomputable def m101 : Nat → Bool
  | _ => false
noncomputable def g101 : Cfg := { N := 64, live := l101, cut := u101, mu := m101, ret := rets }
theorem s101 : ∀ (s : ByteArray) (e most : Int) (Post : AV → List AObj → Prop),
  condP (e != (0 : Int)) (Post (AV.str { data := #[] }) [AObj.cells [AV.str s, AV.int IntKind.i64 e]])
      (ASpec Tryd.prog 137 [AV.str s, AV.int IntKind.i64 most] [AObj.cells [AV.str s, AV.int IntKind.i64 e]] fun (r : AV) (H' : List AObj) =>
        ∃ (x : Int × Int × Int),
         r = AV.tup [AV.int IntKind.i64 (Prod.fst x), AV.int IntKind.i64 (Prod.fst (Prod.snd x)), AV.int IntKind.i64 (Prod.snd (Prod.snd x))] ∧
         H' = [AObj.cells [AV.str s, AV.int IntKind.i64 e]] ∧
         condP (Prod.snd (Prod.snd x) == (0 : Int))
         (condP (decide (Prod.fst x > IntKind.wrap IntKind.i64 ((↑(ByteArray.size s) : Int) - Prod.fst (Prod.snd x))))
         (Post (AV.str { data := #[] }) [AObj.cells [AV.str s, AV.int IntKind.i64 (2 : Int)]])
         (condP (Prod.snd (Prod.snd x) != (0 : Int)) (Post (AV.str { data := #[] }) [AObj.cells [AV.str s, AV.int IntKind.i64 (Prod.snd (Prod.snd x))]])
         (needP
         ((0 : Int) ≤ Prod.fst (Prod.snd x) ∧
         Prod.fst (Prod.snd x) ≤ IntKind.wrap IntKind.i64 (Prod.fst (Prod.snd x) + Prod.fst x) ∧
         IntKind.wrap IntKind.i64 (Prod.fst (Prod.snd x) + Prod.fst x) ≤ (↑(ByteArray.size s) : Int))
         (needP ((0 : Int) ≤ IntKind.wrap IntKind.i64 (Prod.fst (Prod.snd x) + Prod.fst x) ∧ IntKind.wrap IntKind.i64 (Prod.fst (Prod.snd x) + Prod.fst x) ≤ (↑(ByteArray.size s) : Int))
         (Post (AV.str (ByteArray.extract s (Int.toNat (Prod.fst (Prod.snd x))) (Int.toNat (IntKind.wrap IntKind.i64 (Prod.fst (Prod.snd x) + Prod.fst x)))))
         [AObj.cells
         [AV.str (ByteArray.extract s (Int.toNat (IntKind.wrap IntKind.i64 (Prod.fst (Prod.snd x) + Prod.fst x))) (ByteArray.size s)),
         AV.int IntKind.i64 (Prod.snd (Prod.snd x))]])))))
         (condP (Prod.snd (Prod.snd x) != (0 : Int)) (Post (AV.str { data := #[] }) [AObj.cells [AV.str s, AV.int IntKind.i64 (Prod.snd (Prod.snd x))]])
         (needP
         ((0 : Int) ≤ Prod.fst (Prod.snd x) ∧
         Prod.fst (Prod.snd x) ≤ IntKind.wrap IntKind.i64 (Prod.fst (Prod.snd x) + Prod.fst x) ∧
         IntKind.wrap IntKind.i64 (Prod.fst (Prod.snd x) + Prod.fst x) ≤ (↑(ByteArray.size s) : Int))
         (needP ((0 : Int) ≤ IntKind.wrap IntKind.i64 (Prod.fst (Prod.snd x) + Prod.fst x) ∧ IntKind.wrap IntKind.i64 (Prod.fst (Prod.snd x) + Prod.fst x) ≤ (↑(ByteArray.size s) : Int))
         (Post (AV.str (ByteArray.extract s (Int.toNat (Prod.fst (Prod.snd x))) (Int.toNat (IntKind.wrap IntKind.i64 (Prod.fst (Prod.snd x) + Prod.fst x)))))
         [AObj.cells
         [AV.str (ByteArray.extract s (Int.toNat (IntKind.wrap IntKind.i64 (Prod.fst (Prod.snd x) + Prod.fst x))) (ByteArray.size s)),
         AV.int IntKind.i64 (Prod.snd (Prod.snd x))]]))))) →
    ASpec Tryd.prog 101 [AV.ptr 0 0, AV.int IntKind.i64 most] [AObj.cells [AV.str s, AV.int IntKind.i64 e]] Post := fun s e most Post h => Go.Ab.ASpec.of_vc g101 Go.Proofs.Tryd.func101 (by kernel_rfl) (by kernel_rfl) (by kernel_rfl) (Go.Ab.kc (by kernel_rfl) h)

-- 103
noncomputable def l103 : Nat → List Nat
  | _ => []
noncomputable def u103 : Nat → Bool
  | _ => false
noncomputable def m103 : Nat → Bool
  | _ => false
noncomputable def g103 : Cfg := { N := 19, live := l103, cut := u103, mu := m103, ret := rets }
theorem s103 : ∀ (s : ByteArray) (e : Int) (Post : AV → List AObj → Prop),
  condP (e == (0 : Int))
      (condP (!ByteArray.toList s == ByteArray.toList { data := #[] }) (Post (AV.int IntKind.i64 (3 : Int)) [AObj.cells [AV.str s, AV.int IntKind.i64 e]])
        (Post (AV.int IntKind.i64 e) [AObj.cells [AV.str s, AV.int IntKind.i64 e]]))
      (Post (AV.int IntKind.i64 e) [AObj.cells [AV.str s, AV.int IntKind.i64 e]]) →
    ASpec Tryd.prog 103 [AV.ptr 0 0] [AObj.cells [AV.str s, AV.int IntKind.i64 e]] Post := fun s e Post h => Go.Ab.ASpec.of_vc g103 Go.Proofs.Tryd.func103 (by kernel_rfl) (by kernel_rfl) (by kernel_rfl) (Go.Ab.kc (by kernel_rfl) h)

-- 135
noncomputable def l135 : Nat → List Nat
  | 9 => [0, 1, 6, 44]
  | _ => []
noncomputable def u135 : Nat → Bool
  | _ => false
noncomputable def m135 : Nat → Bool
  | _ => false
noncomputable def g135 : Cfg := { N := 113, live := l135, cut := u135, mu := m135, ret := rets }
noncomputable def c135 : Go.Code := Go.Ab.bodyOf Go.Proofs.Tryd.f135
noncomputable def q135_0 : Nat → (AV → List AObj → Prop) → AQ := fun (n : Nat) (Post : AV → List AObj → Prop) => endQ Tryd.prog (resultsOf Tryd.f135) Post
noncomputable def q135_1 : Nat → (AV → List AObj → Prop) → AQ := fun (n : Nat) (Post : AV → List AObj → Prop) => seqQ (fun (s' : Slots) (H' : List AObj) => awp Tryd.prog g135 n (codeSnd (codeSnd (codeSnd (codeSnd (codeSnd c135))))) s' H' (q135_0 n Post)) (q135_0 n Post)
noncomputable def q135_2 : Nat → (AV → List AObj → Prop) → AQ := fun (n : Nat) (Post : AV → List AObj → Prop) => blockQ 0 (q135_1 n Post)
noncomputable def c135_9 : Go.Code := codeFst (codeSnd (codeFst (codeSnd (codeSnd (codeSnd (codeSnd c135))))))
theorem s135 : ∀ (bs : List UInt8) (p e most : Int) (Post : AV → List AObj → Prop),
  condP (p == (↑(List.length bs) : Int))
      ((AV.int IntKind.i64 p = AV.int IntKind.i64 p ∧
         [AObj.cells [AV.sl 1 (Seq.map encB (0 : UInt8) bs) Tip.none, AV.int IntKind.i64 p, AV.int IntKind.i64 (2 : Int)]] =
         [AObj.cells [AV.sl 1 (Seq.map encB (0 : UInt8) bs) Tip.none, AV.int IntKind.i64 p, AV.int IntKind.i64 (2 : Int)]]) ∧
        Post (AV.tup [AV.int IntKind.i64 (0 : Int), AV.int IntKind.i64 p]) [AObj.cells [AV.sl 1 (Seq.map encB (0 : UInt8) bs) Tip.none, AV.int IntKind.i64 p, AV.int IntKind.i64 (2 : Int)]])
      (needP ((0 : Int) ≤ p ∧ p < (↑(List.length bs) : Int))
        (condP ((↑(UInt8.toNat (List.getD bs (Int.toNat p) (0 : UInt8))) : Int) == (128 : Int))
         ((AV.int IntKind.i64 p = AV.int IntKind.i64 p ∧
         [AObj.cells [AV.sl 1 (Seq.map encB (0 : UInt8) bs) Tip.none, AV.int IntKind.i64 p, AV.int IntKind.i64 (3 : Int)]] =
         [AObj.cells [AV.sl 1 (Seq.map encB (0 : UInt8) bs) Tip.none, AV.int IntKind.i64 p, AV.int IntKind.i64 (3 : Int)]]) ∧
         Post (AV.tup [AV.int IntKind.i64 (0 : Int), AV.int IntKind.i64 p])
         [AObj.cells [AV.sl 1 (Seq.map encB (0 : UInt8) bs) Tip.none, AV.int IntKind.i64 p, AV.int IntKind.i64 (3 : Int)]])
         (AWP Tryd.prog 113 1 c135_9
         [(0, AV.ptr 0 0), (1, AV.int IntKind.i64 most), (6, AV.int IntKind.i64 (0 : Int)), (44, AV.int IntKind.i64 (0 : Int))]
         [AObj.cells [AV.sl 1 (Seq.map encB (0 : UInt8) bs) Tip.none, AV.int IntKind.i64 p, AV.int IntKind.i64 e]] (q135_2 1 Post)))) →
    ASpec Tryd.prog 135 [AV.ptr 0 0, AV.int IntKind.i64 most] [rd bs p e] Post := fun bs p e most Post h => Go.Ab.ASpec.of_vc g135 Go.Proofs.Tryd.func135 (by kernel_rfl) (by kernel_rfl) (by kernel_rfl) (Go.Ab.kc (by kernel_rfl) h)
theorem v135_9 : ∀ (bs : List UInt8) (p e most x i : Int) (n : Nat) (Post : AV → List AObj → Prop),
  condP (decide (i < (6 : Int)))
      (condP (IntKind.wrap IntKind.i64 (p + i) == (↑(List.length bs) : Int))
        ((AV.int IntKind.i64 p = AV.int IntKind.i64 p ∧
         [AObj.cells [AV.sl 1 (Seq.map encB (0 : UInt8) bs) Tip.none, AV.int IntKind.i64 p, AV.int IntKind.i64 (2 : Int)]] =
         [AObj.cells [AV.sl 1 (Seq.map encB (0 : UInt8) bs) Tip.none, AV.int IntKind.i64 p, AV.int IntKind.i64 (2 : Int)]]) ∧
         Post (AV.tup [AV.int IntKind.i64 (0 : Int), AV.int IntKind.i64 p]) [AObj.cells [AV.sl 1 (Seq.map encB (0 : UInt8) bs) Tip.none, AV.int IntKind.i64 p, AV.int IntKind.i64 (2 : Int)]])
        (needP ((0 : Int) ≤ IntKind.wrap IntKind.i64 (p + i) ∧ IntKind.wrap IntKind.i64 (p + i) < (↑(List.length bs) : Int))
         (needP ((128 : Int) ≠ (0 : Int))
         (condP (decide (IntKind.wrap IntKind.i64 (↑(UInt8.toNat (List.getD bs (Int.toNat (IntKind.wrap IntKind.i64 (p + i))) (0 : UInt8))) : Int) ≥ (128 : Int)))
         (AWP Tryd.prog 113 n c135_9
         [(0, AV.ptr 0 0), (1, AV.int IntKind.i64 most),
         (6,
         AV.int IntKind.i64
         (IntKind.wrap IntKind.i64
         (IntKind.wrap IntKind.i64 (x * (128 : Int)) +
         Int.tmod (IntKind.wrap IntKind.i64 (↑(UInt8.toNat (List.getD bs (Int.toNat (IntKind.wrap IntKind.i64 (p + i))) (0 : UInt8))) : Int)) (128 : Int)))),
         (44, AV.int IntKind.i64 (IntKind.wrap IntKind.i64 (i + (1 : Int))))]
         [AObj.cells [AV.sl 1 (Seq.map encB (0 : UInt8) bs) Tip.none, AV.int IntKind.i64 p, AV.int IntKind.i64 e]] (q135_2 n Post))
         (condP
         (decide
         (IntKind.wrap IntKind.i64
         (IntKind.wrap IntKind.i64 (x * (128 : Int)) +
         Int.tmod (IntKind.wrap IntKind.i64 (↑(UInt8.toNat (List.getD bs (Int.toNat (IntKind.wrap IntKind.i64 (p + i))) (0 : UInt8))) : Int)) (128 : Int)) >
         if (1099511627776 : Int) < most then (1099511627776 : Int) else most))
         ((AV.int IntKind.i64 p = AV.int IntKind.i64 p ∧
         [AObj.cells [AV.sl 1 (Seq.map encB (0 : UInt8) bs) Tip.none, AV.int IntKind.i64 p, AV.int IntKind.i64 (4 : Int)]] =
         [AObj.cells [AV.sl 1 (Seq.map encB (0 : UInt8) bs) Tip.none, AV.int IntKind.i64 p, AV.int IntKind.i64 (4 : Int)]]) ∧
         Post (AV.tup [AV.int IntKind.i64 (0 : Int), AV.int IntKind.i64 p])
         [AObj.cells [AV.sl 1 (Seq.map encB (0 : UInt8) bs) Tip.none, AV.int IntKind.i64 p, AV.int IntKind.i64 (4 : Int)]])
         ((AV.int IntKind.i64 p = AV.int IntKind.i64 p ∧
         [AObj.cells [AV.sl 1 (Seq.map encB (0 : UInt8) bs) Tip.none, AV.int IntKind.i64 p, AV.int IntKind.i64 e]] =
         [AObj.cells [AV.sl 1 (Seq.map encB (0 : UInt8) bs) Tip.none, AV.int IntKind.i64 p, AV.int IntKind.i64 e]]) ∧
         Post
         (AV.tup
         [AV.int IntKind.i64
         (IntKind.wrap IntKind.i64
         (IntKind.wrap IntKind.i64 (x * (128 : Int)) +
         Int.tmod (IntKind.wrap IntKind.i64 (↑(UInt8.toNat (List.getD bs (Int.toNat (IntKind.wrap IntKind.i64 (p + i))) (0 : UInt8))) : Int)) (128 : Int))),
         AV.int IntKind.i64 (IntKind.wrap IntKind.i64 (IntKind.wrap IntKind.i64 (p + i) + (1 : Int)))])
         [AObj.cells [AV.sl 1 (Seq.map encB (0 : UInt8) bs) Tip.none, AV.int IntKind.i64 p, AV.int IntKind.i64 e]]))))))
      ((AV.int IntKind.i64 p = AV.int IntKind.i64 p ∧
         [AObj.cells [AV.sl 1 (Seq.map encB (0 : UInt8) bs) Tip.none, AV.int IntKind.i64 p, AV.int IntKind.i64 (4 : Int)]] =
         [AObj.cells [AV.sl 1 (Seq.map encB (0 : UInt8) bs) Tip.none, AV.int IntKind.i64 p, AV.int IntKind.i64 (4 : Int)]]) ∧
        Post (AV.tup [AV.int IntKind.i64 (0 : Int), AV.int IntKind.i64 p]) [AObj.cells [AV.sl 1 (Seq.map encB (0 : UInt8) bs) Tip.none, AV.int IntKind.i64 p, AV.int IntKind.i64 (4 : Int)]]) →
    AWP Tryd.prog 113 n c135_9 [(0, AV.ptr 0 0), (1, AV.int IntKind.i64 most), (6, AV.int IntKind.i64 x), (44, AV.int IntKind.i64 i)]
      [rd bs p e] (q135_2 n Post) := fun bs p e most x i n Post h => Go.Ab.AWP.loop' g135 (Cfg.live g135) c135_9 (by kernel_rfl) (by kernel_rfl) (Go.Ab.kc (by kernel_rfl) h)

-- 137
noncomputable def l137 : Nat → List Nat
  | 6 => [0, 1, 7]
  | 14 => [0, 1, 7, 8, 9]
  | _ => []
noncomputable def u137 : Nat → Bool
  | _ => false
noncomputable def m137 : Nat → Bool
  | _ => false
noncomputable def g137 : Cfg := { N := 60, live := l137, cut := u137, mu := m137, ret := rets }
noncomputable def c137 : Go.Code := Go.Ab.bodyOf Go.Proofs.Tryd.f137
noncomputable def q137_0 : Nat → (AV → List AObj → Prop) → AQ := fun (n : Nat) (Post : AV → List AObj → Prop) => endQ Tryd.prog (resultsOf Tryd.f137) Post
noncomputable def q137_1 : Nat → (AV → List AObj → Prop) → AQ := fun (n : Nat) (Post : AV → List AObj → Prop) => seqQ (fun (s' : Slots) (H' : List AObj) => awp Tryd.prog g137 n (codeSnd (codeSnd (codeSnd (codeSnd (codeSnd c137))))) s' H' (q137_0 n Post)) (q137_0 n Post)
noncomputable def q137_2 : Nat → (AV → List AObj → Prop) → AQ := fun (n : Nat) (Post : AV → List AObj → Prop) => blockQ 0 (q137_1 n Post)
noncomputable def c137_6 : Go.Code := codeFst (codeFst (codeSnd (codeSnd (codeSnd (codeSnd c137)))))
theorem s137 : ∀ (s : ByteArray) (most : Int) (Post : AV → List AObj → Prop),
  condP (ByteArray.toList s == ByteArray.toList { data := #[] }) (Post (AV.tup [AV.int IntKind.i64 (0 : Int), AV.int IntKind.i64 (0 : Int), AV.int IntKind.i64 (2 : Int)]) [])
      (needP ((0 : Int) ≤ (0 : Int) ∧ (0 : Int) < (↑(ByteArray.size s) : Int))
        (condP ((↑(UInt8.toNat (List.getD (Array.toList (ByteArray.data s)) 0 (0 : UInt8))) : Int) == (128 : Int))
         (Post (AV.tup [AV.int IntKind.i64 (0 : Int), AV.int IntKind.i64 (0 : Int), AV.int IntKind.i64 (3 : Int)]) [])
         (AWP Tryd.prog 60 0 c137_6 [(0, AV.str s), (1, AV.int IntKind.i64 most), (7, AV.int IntKind.i64 (0 : Int))] [] (q137_2 0 Post)))) →
    ASpec Tryd.prog 137 [AV.str s, AV.int IntKind.i64 most] [] Post := fun s most Post h => Go.Ab.ASpec.of_vc g137 Go.Proofs.Tryd.func137 (by kernel_rfl) (by kernel_rfl) (by kernel_rfl) (Go.Ab.kc (by kernel_rfl) h)
noncomputable def q137_3 : Nat → (AV → List AObj → Prop) → AQ := fun (n : Nat) (Post : AV → List AObj → Prop) => seqQ (fun (s' : Slots) (H' : List AObj) => awp Tryd.prog g137 n (codeSnd (codeSnd (codeSnd (codeSnd (codeSnd (codeSnd (codeSnd (codeSnd (codeSnd c137))))))))) s' H' (q137_0 n Post)) (q137_0 n Post)
noncomputable def q137_4 : Nat → (AV → List AObj → Prop) → AQ := fun (n : Nat) (Post : AV → List AObj → Prop) => blockQ 2 (q137_3 n Post)
noncomputable def c137_14 : Go.Code := codeFst (codeSnd (codeFst (codeSnd (codeSnd (codeSnd (codeSnd (codeSnd (codeSnd (codeSnd (codeSnd c137))))))))))
theorem v137_6 : ∀ (s : ByteArray) (most k : Int) (n : Nat) (Post : AV → List AObj → Prop),
  condP (decide (k < (↑(ByteArray.size s) : Int)))
      (condP (decide (k < (6 : Int)))
        (needP ((0 : Int) ≤ k ∧ k < (↑(ByteArray.size s) : Int))
         (condP (decide ((↑(UInt8.toNat (List.getD (Array.toList (ByteArray.data s)) (Int.toNat k) (0 : UInt8))) : Int) ≥ (128 : Int)))
         (AWP Tryd.prog 60 n c137_6 [(0, AV.str s), (1, AV.int IntKind.i64 most), (7, AV.int IntKind.i64 (IntKind.wrap IntKind.i64 (k + (1 : Int))))] []
         (q137_2 n Post))
         (condP (k == (6 : Int)) (Post (AV.tup [AV.int IntKind.i64 (0 : Int), AV.int IntKind.i64 (0 : Int), AV.int IntKind.i64 (4 : Int)]) [])
         (condP (k == (↑(ByteArray.size s) : Int)) (Post (AV.tup [AV.int IntKind.i64 (0 : Int), AV.int IntKind.i64 (0 : Int), AV.int IntKind.i64 (2 : Int)]) [])
         (AWP Tryd.prog 60 n c137_14
         [(0, AV.str s), (1, AV.int IntKind.i64 most), (7, AV.int IntKind.i64 k), (8, AV.int IntKind.i64 (0 : Int)), (9, AV.int IntKind.i64 (0 : Int))]
         [] (q137_4 n Post))))))
        (condP (k == (6 : Int)) (Post (AV.tup [AV.int IntKind.i64 (0 : Int), AV.int IntKind.i64 (0 : Int), AV.int IntKind.i64 (4 : Int)]) [])
         (condP (k == (↑(ByteArray.size s) : Int)) (Post (AV.tup [AV.int IntKind.i64 (0 : Int), AV.int IntKind.i64 (0 : Int), AV.int IntKind.i64 (2 : Int)]) [])
         (AWP Tryd.prog 60 n c137_14
         [(0, AV.str s), (1, AV.int IntKind.i64 most), (7, AV.int IntKind.i64 k), (8, AV.int IntKind.i64 (0 : Int)), (9, AV.int IntKind.i64 (0 : Int))] []
         (q137_4 n Post)))))
      (condP (k == (6 : Int)) (Post (AV.tup [AV.int IntKind.i64 (0 : Int), AV.int IntKind.i64 (0 : Int), AV.int IntKind.i64 (4 : Int)]) [])
        (condP (k == (↑(ByteArray.size s) : Int)) (Post (AV.tup [AV.int IntKind.i64 (0 : Int), AV.int IntKind.i64 (0 : Int), AV.int IntKind.i64 (2 : Int)]) [])
         (AWP Tryd.prog 60 n c137_14
         [(0, AV.str s), (1, AV.int IntKind.i64 most), (7, AV.int IntKind.i64 k), (8, AV.int IntKind.i64 (0 : Int)), (9, AV.int IntKind.i64 (0 : Int))] []
         (q137_4 n Post)))) →
    AWP Tryd.prog 60 n c137_6 [(0, AV.str s), (1, AV.int IntKind.i64 most), (7, AV.int IntKind.i64 k)] [] (q137_2 n Post) := fun s most k n Post h => Go.Ab.AWP.loop' g137 (Cfg.live g137) c137_6 (by kernel_rfl) (by kernel_rfl) (Go.Ab.kc (by kernel_rfl) h)
theorem v137_14 : ∀ (s : ByteArray) (most k x i : Int) (n : Nat) (Post : AV → List AObj → Prop),
  condP (decide (i ≤ k))
      (needP ((0 : Int) ≤ i ∧ i < (↑(ByteArray.size s) : Int))
        (needP ((128 : Int) ≠ (0 : Int))
         (AWP Tryd.prog 60 n c137_14
         [(0, AV.str s), (1, AV.int IntKind.i64 most), (7, AV.int IntKind.i64 k),
         (8,
         AV.int IntKind.i64
         (IntKind.wrap IntKind.i64
         (IntKind.wrap IntKind.i64 (x * (128 : Int)) +
         IntKind.wrap IntKind.i64 (Int.tmod (↑(UInt8.toNat (List.getD (Array.toList (ByteArray.data s)) (Int.toNat i) (0 : UInt8))) : Int) (128 : Int))))),
         (9, AV.int IntKind.i64 (IntKind.wrap IntKind.i64 (i + (1 : Int))))]
         [] (q137_4 n Post))))
      (condP (decide (x > (1099511627776 : Int))) (Post (AV.tup [AV.int IntKind.i64 (0 : Int), AV.int IntKind.i64 (0 : Int), AV.int IntKind.i64 (4 : Int)]) [])
        (condP (decide (x > most)) (Post (AV.tup [AV.int IntKind.i64 (0 : Int), AV.int IntKind.i64 (0 : Int), AV.int IntKind.i64 (4 : Int)]) [])
         (Post (AV.tup [AV.int IntKind.i64 x, AV.int IntKind.i64 (IntKind.wrap IntKind.i64 (k + (1 : Int))), AV.int IntKind.i64 (0 : Int)]) []))) →
    AWP Tryd.prog 60 n c137_14
      [(0, AV.str s), (1, AV.int IntKind.i64 most), (7, AV.int IntKind.i64 k), (8, AV.int IntKind.i64 x), (9, AV.int IntKind.i64 i)] [] (q137_4 n Post) := fun s most k x i n Post h => Go.Ab.AWP.loop' g137 (Cfg.live g137) c137_14 (by kernel_rfl) (by kernel_rfl) (Go.Ab.kc (by kernel_rfl) h)

end
end V
end

section
/- Spans, needs, releases and manifests as cells. -/

open Go Go.Ab Go.Proofs
namespace T
abbrev Span := Int × Int
abbrev Need := List UInt8 × List Span
end T
end

section
/- Printed: what the code of functions 51, 60, 71, 61 asks for, by the framework's own reading of it; each line is checked against the code. -/

set_option linter.unusedVariables false
set_option maxRecDepth 100000
set_option maxHeartbeats 4000000
open Go Go.Ab Go.Proofs
namespace C
noncomputable section

noncomputable def retC : List (Nat × Ret) := [
  (59, ⟨Bool, fun _ _ x => .bool x, fun _ H _ => H⟩), (9066, ⟨Bool, fun _ _ x => .bool x, fun _ H _ => H⟩), (9062, ⟨Bool, fun _ _ x => .bool x, fun _ H _ => H⟩), (9186, ⟨Bool, fun _ _ x => .bool x, fun _ H _ => H⟩),
  (50, ⟨Bool, fun _ _ x => .bool x, fun _ H _ => H⟩), (9130, ⟨Bool, fun _ _ x => .bool x, fun _ H _ => H⟩), (9185, ⟨Bool, fun _ _ x => .bool x, fun _ H _ => H⟩), (9173, ⟨Bool, fun _ _ x => .bool x, fun _ H _ => H⟩),
  (71, ⟨Bool, fun _ _ x => .bool x, fun _ H _ => H⟩), (9239, ⟨Bool, fun _ _ x => .bool x, fun _ H _ => H⟩), (61, ⟨Bool, fun _ _ x => .bool x, fun _ H _ => H⟩), (9232, ⟨Bool, fun _ _ x => .bool x, fun _ H _ => H⟩),
  (60, ⟨Bool, fun _ _ x => .bool x, fun _ H _ => H⟩), (51, ⟨Bool, fun _ _ x => .bool x, fun _ H _ => H⟩)]
noncomputable def rets : FuncId → List Ret := lookupR (retC ++ V.retL)

-- 51
noncomputable def u51 : Nat → Bool
  | _ => false
noncomputable def l71 : Nat → List Nat
  | _ => []
noncomputable def u71 : Nat → Bool
  | _ => false
noncomputable def m71 : Nat → Bool
  | _ => false
noncomputable def g71 : Cfg := { N := 9, live := l71, cut := u71, mu := m71, ret := rets }
theorem s71 : ∀ (x : Int) (Post : AV → List AObj → Prop),
  condP (decide (x ≥ (0 : Int))) (Post (AV.bool (decide (x < (1000000000 : Int)))) []) (Post (AV.bool false) []) → ASpec Tryd.prog 71 [AV.int IntKind.i64 x] [] Post := fun x Post h => Go.Ab.ASpec.of_vc g71 Go.Proofs.Tryd.func71 (by kernel_rfl) (by kernel_rfl) (by kernel_rfl) (Go.Ab.kc (by kernel_rfl) h)

-- 61
end
end C
end

section
/- Steps of a proof as cells. -/

open Go Go.Ab Go.Proofs
namespace T
/-- kind, name, version, the other name, two numbers -/
abbrev St := Int × List UInt8 × Int × List UInt8 × Int × Int
noncomputable def encSt (x : St) : List AV := [.int .i64 x.1, .str ⟨x.2.1.toArray⟩, .int .i64 x.2.2.1, .str ⟨x.2.2.2.1.toArray⟩, .int .i64 x.2.2.2.2.1, .int .i64 x.2.2.2.2.2]
abbrev noSt : St := (0, [], 0, [], 0, 0)
noncomputable def encBo (x : Bool) : List AV := [.bool x]
end T
end

section
/- Terms, and a trail's entries, as cells. -/

open Go Go.Ab Go.Proofs
namespace T
end T
end

section
/- A trail as an object; what is done to it. -/

open Go Go.Ab Go.Proofs V
namespace T
end T
end

section
/- Picks as cells. -/

open Go Go.Ab Go.Proofs
namespace T
/-- a name and a version -/
abbrev Pk := List UInt8 × Int
abbrev noPk : Pk := ([], 0)
noncomputable def encPk (x : Pk) : List AV := [.str ⟨x.1.toArray⟩, .int .i64 x.2]
end T
end

section
/- Answers as cells. -/

open Go Go.Ab Go.Proofs
namespace T
/-- kind, picks, steps -/
abbrev Ans := Int × List Pk × List St
noncomputable def encAn (x : Ans) : List AV := [.int .i64 x.1, .sl 2 (.map encPk noPk x.2.1) .none, .sl 6 (.map encSt noSt x.2.2) .none]
end T
end

section
/- Entries, and what an index knows. -/

open Go Go.Ab Go.Proofs
namespace T
end T
end

section
/- Names as cells. -/

open Go Go.Ab Go.Proofs
namespace T
noncomputable def encL (x : List UInt8) : List AV := [.str ⟨x.toArray⟩]
end T
end

section
/- Printed: what the code of functions 40, 41, 42, 43, 44, 45, 87, 85, 88, 89, 134, 38, 39, 6, 82, 83, 46 asks for, by the framework's own reading of it; each line is checked against the code. -/

set_option linter.unusedVariables false
set_option maxRecDepth 100000
set_option maxHeartbeats 4000000
open Go Go.Ab Go.Proofs
namespace An
noncomputable section

noncomputable def retAn : List (Nat × Ret) := [
  (79, ⟨Bool, fun _ _ x => .bool x, fun _ H _ => H⟩),
  (31, ⟨Bool, fun _ _ x => .bool x, fun _ H _ => H⟩),
  (80, ⟨Bool, fun _ _ x => .bool x, fun _ H _ => H⟩),
  (81, ⟨Bool, fun _ _ x => .bool x, fun _ H _ => H⟩),
  (84, ⟨Bool, fun _ _ x => .bool x, fun _ H _ => H⟩),
  (78, ⟨Bool, fun _ _ x => .bool x, fun _ H _ => H⟩),
  (30, ⟨Bool, fun _ _ x => .bool x, fun _ H _ => H⟩),
  (37, ⟨Bool, fun _ _ x => .bool x, fun _ H _ => H⟩),
  (82, ⟨Bool, fun _ _ x => .bool x, fun _ H _ => H⟩),
  (83, ⟨Bool, fun _ _ x => .bool x, fun _ H _ => H⟩),
  (40, ⟨Bool, fun _ _ x => .bool x, fun _ H _ => H⟩),
  (41, ⟨Bool, fun _ _ x => .bool x, fun _ H _ => H⟩),
  (42, ⟨Bool, fun _ _ x => .bool x, fun _ H _ => H⟩),
  (43, ⟨Bool, fun _ _ x => .bool x, fun _ H _ => H⟩),
  (38, ⟨Bool, fun _ _ x => .bool x, fun _ H _ => H⟩),
  (71, ⟨Bool, fun _ _ x => .bool x, fun _ H _ => H⟩),
  (44, ⟨ByteArray, fun _ _ x => .str x, fun _ H _ => H⟩),
  (45, ⟨ByteArray, fun _ _ x => .str x, fun _ H _ => H⟩),
  (85, ⟨ByteArray, fun _ _ x => .str x, fun _ H _ => H⟩),
  (88, ⟨ByteArray, fun _ _ x => .str x, fun _ H _ => H⟩),
  (86, ⟨ByteArray, fun _ _ x => .str x, fun _ H _ => H⟩),
  (89, ⟨ByteArray, fun _ _ x => .str x, fun _ H _ => H⟩),
  (118, ⟨ByteArray, fun _ _ x => .str x, fun _ H _ => H⟩),
  (121, ⟨ByteArray, fun _ _ x => .str x, fun _ H _ => H⟩),
  (134, ⟨ByteArray, fun _ _ x => .str x, fun _ H _ => H⟩),
  (106, ⟨ByteArray, fun _ _ x => .str x, fun _ H _ => H⟩),
  (46, ⟨List UInt8, fun _ _ x => .sl 1 (.map encB 0 x) .none, fun _ H _ => H⟩),
  (90, ⟨List UInt8, fun _ _ x => .sl 1 (.map encB 0 x) .none, fun _ H _ => H⟩),
  (91, ⟨List UInt8, fun _ _ x => .sl 1 (.map encB 0 x) .none, fun _ H _ => H⟩),
  (92, ⟨List UInt8, fun _ _ x => .sl 1 (.map encB 0 x) .none, fun _ H _ => H⟩),
  (87, ⟨Unit, fun _ _ _ => .agg [.str ⟨#[]⟩, .str ⟨#[]⟩, .str ⟨#[]⟩, .str ⟨#[98, 97, 100]⟩, .str ⟨#[100, 101, 97, 100, 108, 105, 110, 101]⟩, .str ⟨#[114, 101, 106, 101, 99, 116, 101, 100]⟩], fun _ H _ => H⟩),
  (39, ⟨Unit, fun _ _ _ => .bool true, fun _ H _ => H⟩)]
noncomputable def rets : FuncId → List Ret := fun f => match lookupR retAn f with
  | [] => lookupR (C.retC ++ V.retL) f
  | l => l

-- 40
noncomputable def l40 : Nat → List Nat
  | _ => []
noncomputable def u40 : Nat → Bool
  | _ => false
noncomputable def m40 : Nat → Bool
  | _ => false
noncomputable def g40 : Cfg := { N := 45, live := l40, cut := u40, mu := m40, ret := rets }
theorem s40 : ∀ (a : T.Ans) (Post : AV → List AObj → Prop),
  condP (Prod.fst a == (1 : Int))
      (condP ((↑(List.length (Prod.snd (Prod.snd a))) : Int) == (0 : Int))
        (condP (decide ((↑(List.length (Prod.fst (Prod.snd a))) : Int) ≤ (1000 : Int)))
          (ASpec Tryd.prog 79 [AV.sl 2 (Seq.map T.encPk T.noPk (Prod.fst (Prod.snd a))) Tip.none]
            [AObj.cells
                [AV.int IntKind.i64 (Prod.fst a), AV.sl 2 (Seq.map T.encPk T.noPk (Prod.fst (Prod.snd a))) Tip.none, AV.sl 6 (Seq.map T.encSt T.noSt (Prod.snd (Prod.snd a))) Tip.none]]
            fun (r : AV) (H' : List AObj) =>
            ∃ (x : Bool),
              r = AV.bool x ∧
                H' =
                    [AObj.cells
                        [AV.int IntKind.i64 (Prod.fst a), AV.sl 2 (Seq.map T.encPk T.noPk (Prod.fst (Prod.snd a))) Tip.none,
                          AV.sl 6 (Seq.map T.encSt T.noSt (Prod.snd (Prod.snd a))) Tip.none]] ∧
                  Post (AV.bool x)
                    [AObj.cells
                        [AV.int IntKind.i64 (Prod.fst a), AV.sl 2 (Seq.map T.encPk T.noPk (Prod.fst (Prod.snd a))) Tip.none,
                          AV.sl 6 (Seq.map T.encSt T.noSt (Prod.snd (Prod.snd a))) Tip.none]])
          (Post (AV.bool false)
            [AObj.cells
                [AV.int IntKind.i64 (Prod.fst a), AV.sl 2 (Seq.map T.encPk T.noPk (Prod.fst (Prod.snd a))) Tip.none,
                  AV.sl 6 (Seq.map T.encSt T.noSt (Prod.snd (Prod.snd a))) Tip.none]]))
        (Post (AV.bool false)
          [AObj.cells
              [AV.int IntKind.i64 (Prod.fst a), AV.sl 2 (Seq.map T.encPk T.noPk (Prod.fst (Prod.snd a))) Tip.none, AV.sl 6 (Seq.map T.encSt T.noSt (Prod.snd (Prod.snd a))) Tip.none]]))
      (condP (Prod.fst a == (2 : Int))
        (condP ((↑(List.length (Prod.fst (Prod.snd a))) : Int) == (0 : Int))
          (ASpec Tryd.prog 80 [AV.sl 6 (Seq.map T.encSt T.noSt (Prod.snd (Prod.snd a))) Tip.none]
            [AObj.cells
                [AV.int IntKind.i64 (Prod.fst a), AV.sl 2 (Seq.map T.encPk T.noPk (Prod.fst (Prod.snd a))) Tip.none, AV.sl 6 (Seq.map T.encSt T.noSt (Prod.snd (Prod.snd a))) Tip.none]]
            fun (r : AV) (H' : List AObj) =>
            ∃ (x : Bool),
              r = AV.bool x ∧
                H' =
                    [AObj.cells
                        [AV.int IntKind.i64 (Prod.fst a), AV.sl 2 (Seq.map T.encPk T.noPk (Prod.fst (Prod.snd a))) Tip.none,
                          AV.sl 6 (Seq.map T.encSt T.noSt (Prod.snd (Prod.snd a))) Tip.none]] ∧
                  Post (AV.bool x)
                    [AObj.cells
                        [AV.int IntKind.i64 (Prod.fst a), AV.sl 2 (Seq.map T.encPk T.noPk (Prod.fst (Prod.snd a))) Tip.none,
                          AV.sl 6 (Seq.map T.encSt T.noSt (Prod.snd (Prod.snd a))) Tip.none]])
          (Post (AV.bool false)
            [AObj.cells
                [AV.int IntKind.i64 (Prod.fst a), AV.sl 2 (Seq.map T.encPk T.noPk (Prod.fst (Prod.snd a))) Tip.none,
                  AV.sl 6 (Seq.map T.encSt T.noSt (Prod.snd (Prod.snd a))) Tip.none]]))
        (condP (Prod.fst a == (3 : Int))
          (condP (Prod.fst a == (3 : Int))
            (condP ((↑(List.length (Prod.fst (Prod.snd a))) : Int) == (0 : Int))
              (Post (AV.bool ((↑(List.length (Prod.snd (Prod.snd a))) : Int) == (0 : Int)))
                [AObj.cells
                    [AV.int IntKind.i64 (Prod.fst a), AV.sl 2 (Seq.map T.encPk T.noPk (Prod.fst (Prod.snd a))) Tip.none,
                      AV.sl 6 (Seq.map T.encSt T.noSt (Prod.snd (Prod.snd a))) Tip.none]])
              (Post (AV.bool false)
                [AObj.cells
                    [AV.int IntKind.i64 (Prod.fst a), AV.sl 2 (Seq.map T.encPk T.noPk (Prod.fst (Prod.snd a))) Tip.none,
                      AV.sl 6 (Seq.map T.encSt T.noSt (Prod.snd (Prod.snd a))) Tip.none]]))
            (Post (AV.bool false)
              [AObj.cells
                  [AV.int IntKind.i64 (Prod.fst a), AV.sl 2 (Seq.map T.encPk T.noPk (Prod.fst (Prod.snd a))) Tip.none,
                    AV.sl 6 (Seq.map T.encSt T.noSt (Prod.snd (Prod.snd a))) Tip.none]]))
          (condP (Prod.fst a == (4 : Int))
            (condP (Prod.fst a == (4 : Int))
              (condP ((↑(List.length (Prod.fst (Prod.snd a))) : Int) == (0 : Int))
                (Post (AV.bool ((↑(List.length (Prod.snd (Prod.snd a))) : Int) == (0 : Int)))
                  [AObj.cells
                      [AV.int IntKind.i64 (Prod.fst a), AV.sl 2 (Seq.map T.encPk T.noPk (Prod.fst (Prod.snd a))) Tip.none,
                        AV.sl 6 (Seq.map T.encSt T.noSt (Prod.snd (Prod.snd a))) Tip.none]])
                (Post (AV.bool false)
                  [AObj.cells
                      [AV.int IntKind.i64 (Prod.fst a), AV.sl 2 (Seq.map T.encPk T.noPk (Prod.fst (Prod.snd a))) Tip.none,
                        AV.sl 6 (Seq.map T.encSt T.noSt (Prod.snd (Prod.snd a))) Tip.none]]))
              (Post (AV.bool false)
                [AObj.cells
                    [AV.int IntKind.i64 (Prod.fst a), AV.sl 2 (Seq.map T.encPk T.noPk (Prod.fst (Prod.snd a))) Tip.none,
                      AV.sl 6 (Seq.map T.encSt T.noSt (Prod.snd (Prod.snd a))) Tip.none]]))
            (condP (Prod.fst a == (5 : Int))
              (condP ((↑(List.length (Prod.fst (Prod.snd a))) : Int) == (0 : Int))
                (Post (AV.bool ((↑(List.length (Prod.snd (Prod.snd a))) : Int) == (0 : Int)))
                  [AObj.cells
                      [AV.int IntKind.i64 (Prod.fst a), AV.sl 2 (Seq.map T.encPk T.noPk (Prod.fst (Prod.snd a))) Tip.none,
                        AV.sl 6 (Seq.map T.encSt T.noSt (Prod.snd (Prod.snd a))) Tip.none]])
                (Post (AV.bool false)
                  [AObj.cells
                      [AV.int IntKind.i64 (Prod.fst a), AV.sl 2 (Seq.map T.encPk T.noPk (Prod.fst (Prod.snd a))) Tip.none,
                        AV.sl 6 (Seq.map T.encSt T.noSt (Prod.snd (Prod.snd a))) Tip.none]]))
              (Post (AV.bool false)
                [AObj.cells
                    [AV.int IntKind.i64 (Prod.fst a), AV.sl 2 (Seq.map T.encPk T.noPk (Prod.fst (Prod.snd a))) Tip.none,
                      AV.sl 6 (Seq.map T.encSt T.noSt (Prod.snd (Prod.snd a))) Tip.none]]))))) →
    ASpec Tryd.prog 40 [AV.agg (T.encAn a)] [] Post := fun a Post h => Go.Ab.ASpec.of_vc g40 Go.Proofs.Tryd.func40 (by kernel_rfl) (by kernel_rfl) (by kernel_rfl) (Go.Ab.kc (by kernel_rfl) h)

-- 41
noncomputable def l41 : Nat → List Nat
  | _ => []
noncomputable def u41 : Nat → Bool
  | _ => false
noncomputable def m41 : Nat → Bool
  | _ => false
noncomputable def g41 : Cfg := { N := 44, live := l41, cut := u41, mu := m41, ret := rets }
theorem s41 : ∀ (a : T.Ans) (Post : AV → List AObj → Prop),
  condP (decide (Prod.fst a < (1 : Int)))
      (Post (AV.bool false)
        [AObj.cells
            [AV.int IntKind.i64 (Prod.fst a), AV.sl 2 (Seq.map T.encPk T.noPk (Prod.fst (Prod.snd a))) Tip.none, AV.sl 6 (Seq.map T.encSt T.noSt (Prod.snd (Prod.snd a))) Tip.none]])
      (condP (decide (Prod.fst a > (5 : Int)))
        (Post (AV.bool false)
          [AObj.cells
              [AV.int IntKind.i64 (Prod.fst a), AV.sl 2 (Seq.map T.encPk T.noPk (Prod.fst (Prod.snd a))) Tip.none, AV.sl 6 (Seq.map T.encSt T.noSt (Prod.snd (Prod.snd a))) Tip.none]])
        (ASpec Tryd.prog 31 [AV.sl 2 (Seq.map T.encPk T.noPk (Prod.fst (Prod.snd a))) Tip.none]
          [AObj.cells
              [AV.int IntKind.i64 (Prod.fst a), AV.sl 2 (Seq.map T.encPk T.noPk (Prod.fst (Prod.snd a))) Tip.none, AV.sl 6 (Seq.map T.encSt T.noSt (Prod.snd (Prod.snd a))) Tip.none]]
          fun (r : AV) (H' : List AObj) =>
          ∃ (x : Bool),
            r = AV.bool x ∧
              H' =
                  [AObj.cells
                      [AV.int IntKind.i64 (Prod.fst a), AV.sl 2 (Seq.map T.encPk T.noPk (Prod.fst (Prod.snd a))) Tip.none,
                        AV.sl 6 (Seq.map T.encSt T.noSt (Prod.snd (Prod.snd a))) Tip.none]] ∧
                condP (!x)
                  (Post (AV.bool false)
                    [AObj.cells
                        [AV.int IntKind.i64 (Prod.fst a), AV.sl 2 (Seq.map T.encPk T.noPk (Prod.fst (Prod.snd a))) Tip.none,
                          AV.sl 6 (Seq.map T.encSt T.noSt (Prod.snd (Prod.snd a))) Tip.none]])
                  (condP (decide ((↑(List.length (Prod.fst (Prod.snd a))) : Int) > (1000 : Int)))
                    (Post (AV.bool false)
                      [AObj.cells
                          [AV.int IntKind.i64 (Prod.fst a), AV.sl 2 (Seq.map T.encPk T.noPk (Prod.fst (Prod.snd a))) Tip.none,
                            AV.sl 6 (Seq.map T.encSt T.noSt (Prod.snd (Prod.snd a))) Tip.none]])
                    (condP (Prod.fst a != (1 : Int))
                      (condP (decide ((↑(List.length (Prod.fst (Prod.snd a))) : Int) > (0 : Int)))
                        (Post (AV.bool false)
                          [AObj.cells
                              [AV.int IntKind.i64 (Prod.fst a), AV.sl 2 (Seq.map T.encPk T.noPk (Prod.fst (Prod.snd a))) Tip.none,
                                AV.sl 6 (Seq.map T.encSt T.noSt (Prod.snd (Prod.snd a))) Tip.none]])
                        (condP (Prod.fst a == (2 : Int))
                          (ASpec Tryd.prog 81 [AV.sl 6 (Seq.map T.encSt T.noSt (Prod.snd (Prod.snd a))) Tip.none]
                            [AObj.cells
                                [AV.int IntKind.i64 (Prod.fst a), AV.sl 2 (Seq.map T.encPk T.noPk (Prod.fst (Prod.snd a))) Tip.none,
                                  AV.sl 6 (Seq.map T.encSt T.noSt (Prod.snd (Prod.snd a))) Tip.none]]
                            fun (r : AV) (H' : List AObj) =>
                            ∃ (x : Bool),
                              r = AV.bool x ∧
                                H' =
                                    [AObj.cells
                                        [AV.int IntKind.i64 (Prod.fst a), AV.sl 2 (Seq.map T.encPk T.noPk (Prod.fst (Prod.snd a))) Tip.none,
                                          AV.sl 6 (Seq.map T.encSt T.noSt (Prod.snd (Prod.snd a))) Tip.none]] ∧
                                  Post (AV.bool x)
                                    [AObj.cells
                                        [AV.int IntKind.i64 (Prod.fst a), AV.sl 2 (Seq.map T.encPk T.noPk (Prod.fst (Prod.snd a))) Tip.none,
                                          AV.sl 6 (Seq.map T.encSt T.noSt (Prod.snd (Prod.snd a))) Tip.none]])
                          (Post (AV.bool ((↑(List.length (Prod.snd (Prod.snd a))) : Int) == (0 : Int)))
                            [AObj.cells
                                [AV.int IntKind.i64 (Prod.fst a), AV.sl 2 (Seq.map T.encPk T.noPk (Prod.fst (Prod.snd a))) Tip.none,
                                  AV.sl 6 (Seq.map T.encSt T.noSt (Prod.snd (Prod.snd a))) Tip.none]])))
                      (condP (Prod.fst a == (2 : Int))
                        (ASpec Tryd.prog 81 [AV.sl 6 (Seq.map T.encSt T.noSt (Prod.snd (Prod.snd a))) Tip.none]
                          [AObj.cells
                              [AV.int IntKind.i64 (Prod.fst a), AV.sl 2 (Seq.map T.encPk T.noPk (Prod.fst (Prod.snd a))) Tip.none,
                                AV.sl 6 (Seq.map T.encSt T.noSt (Prod.snd (Prod.snd a))) Tip.none]]
                          fun (r : AV) (H' : List AObj) =>
                          ∃ (x : Bool),
                            r = AV.bool x ∧
                              H' =
                                  [AObj.cells
                                      [AV.int IntKind.i64 (Prod.fst a), AV.sl 2 (Seq.map T.encPk T.noPk (Prod.fst (Prod.snd a))) Tip.none,
                                        AV.sl 6 (Seq.map T.encSt T.noSt (Prod.snd (Prod.snd a))) Tip.none]] ∧
                                Post (AV.bool x)
                                  [AObj.cells
                                      [AV.int IntKind.i64 (Prod.fst a), AV.sl 2 (Seq.map T.encPk T.noPk (Prod.fst (Prod.snd a))) Tip.none,
                                        AV.sl 6 (Seq.map T.encSt T.noSt (Prod.snd (Prod.snd a))) Tip.none]])
                        (Post (AV.bool ((↑(List.length (Prod.snd (Prod.snd a))) : Int) == (0 : Int)))
                          [AObj.cells
                              [AV.int IntKind.i64 (Prod.fst a), AV.sl 2 (Seq.map T.encPk T.noPk (Prod.fst (Prod.snd a))) Tip.none,
                                AV.sl 6 (Seq.map T.encSt T.noSt (Prod.snd (Prod.snd a))) Tip.none]])))))) →
    ASpec Tryd.prog 41 [AV.agg (T.encAn a)] [] Post := fun a Post h => Go.Ab.ASpec.of_vc g41 Go.Proofs.Tryd.func41 (by kernel_rfl) (by kernel_rfl) (by kernel_rfl) (Go.Ab.kc (by kernel_rfl) h)

-- 42
noncomputable def l42 : Nat → List Nat
  | _ => []
noncomputable def u42 : Nat → Bool
  | _ => false
noncomputable def m42 : Nat → Bool
  | _ => false
noncomputable def g42 : Cfg := { N := 24, live := l42, cut := u42, mu := m42, ret := rets }
theorem s42 : ∀ (a b : T.Ans) (Post : AV → List AObj → Prop),
  condP (Prod.fst a == Prod.fst b)
      (ASpec Tryd.prog 82 [AV.sl 2 (Seq.map T.encPk T.noPk (Prod.fst (Prod.snd a))) Tip.none, AV.sl 2 (Seq.map T.encPk T.noPk (Prod.fst (Prod.snd b))) Tip.none]
        [AObj.cells
            [AV.int IntKind.i64 (Prod.fst a), AV.sl 2 (Seq.map T.encPk T.noPk (Prod.fst (Prod.snd a))) Tip.none, AV.sl 6 (Seq.map T.encSt T.noSt (Prod.snd (Prod.snd a))) Tip.none],
          AObj.cells
            [AV.int IntKind.i64 (Prod.fst b), AV.sl 2 (Seq.map T.encPk T.noPk (Prod.fst (Prod.snd b))) Tip.none, AV.sl 6 (Seq.map T.encSt T.noSt (Prod.snd (Prod.snd b))) Tip.none]]
        fun (r : AV) (H' : List AObj) =>
        ∃ (x : Bool),
          r = AV.bool x ∧
            H' =
                [AObj.cells
                    [AV.int IntKind.i64 (Prod.fst a), AV.sl 2 (Seq.map T.encPk T.noPk (Prod.fst (Prod.snd a))) Tip.none,
                      AV.sl 6 (Seq.map T.encSt T.noSt (Prod.snd (Prod.snd a))) Tip.none],
                  AObj.cells
                    [AV.int IntKind.i64 (Prod.fst b), AV.sl 2 (Seq.map T.encPk T.noPk (Prod.fst (Prod.snd b))) Tip.none,
                      AV.sl 6 (Seq.map T.encSt T.noSt (Prod.snd (Prod.snd b))) Tip.none]] ∧
              condP x
                (ASpec Tryd.prog 83 [AV.sl 6 (Seq.map T.encSt T.noSt (Prod.snd (Prod.snd a))) Tip.none, AV.sl 6 (Seq.map T.encSt T.noSt (Prod.snd (Prod.snd b))) Tip.none]
                  [AObj.cells
                      [AV.int IntKind.i64 (Prod.fst a), AV.sl 2 (Seq.map T.encPk T.noPk (Prod.fst (Prod.snd a))) Tip.none,
                        AV.sl 6 (Seq.map T.encSt T.noSt (Prod.snd (Prod.snd a))) Tip.none],
                    AObj.cells
                      [AV.int IntKind.i64 (Prod.fst b), AV.sl 2 (Seq.map T.encPk T.noPk (Prod.fst (Prod.snd b))) Tip.none,
                        AV.sl 6 (Seq.map T.encSt T.noSt (Prod.snd (Prod.snd b))) Tip.none]]
                  fun (r : AV) (H' : List AObj) =>
                  ∃ (x : Bool),
                    r = AV.bool x ∧
                      H' =
                          [AObj.cells
                              [AV.int IntKind.i64 (Prod.fst a), AV.sl 2 (Seq.map T.encPk T.noPk (Prod.fst (Prod.snd a))) Tip.none,
                                AV.sl 6 (Seq.map T.encSt T.noSt (Prod.snd (Prod.snd a))) Tip.none],
                            AObj.cells
                              [AV.int IntKind.i64 (Prod.fst b), AV.sl 2 (Seq.map T.encPk T.noPk (Prod.fst (Prod.snd b))) Tip.none,
                                AV.sl 6 (Seq.map T.encSt T.noSt (Prod.snd (Prod.snd b))) Tip.none]] ∧
                        Post (AV.bool x)
                          [AObj.cells
                              [AV.int IntKind.i64 (Prod.fst a), AV.sl 2 (Seq.map T.encPk T.noPk (Prod.fst (Prod.snd a))) Tip.none,
                                AV.sl 6 (Seq.map T.encSt T.noSt (Prod.snd (Prod.snd a))) Tip.none],
                            AObj.cells
                              [AV.int IntKind.i64 (Prod.fst b), AV.sl 2 (Seq.map T.encPk T.noPk (Prod.fst (Prod.snd b))) Tip.none,
                                AV.sl 6 (Seq.map T.encSt T.noSt (Prod.snd (Prod.snd b))) Tip.none]])
                (Post (AV.bool false)
                  [AObj.cells
                      [AV.int IntKind.i64 (Prod.fst a), AV.sl 2 (Seq.map T.encPk T.noPk (Prod.fst (Prod.snd a))) Tip.none,
                        AV.sl 6 (Seq.map T.encSt T.noSt (Prod.snd (Prod.snd a))) Tip.none],
                    AObj.cells
                      [AV.int IntKind.i64 (Prod.fst b), AV.sl 2 (Seq.map T.encPk T.noPk (Prod.fst (Prod.snd b))) Tip.none,
                        AV.sl 6 (Seq.map T.encSt T.noSt (Prod.snd (Prod.snd b))) Tip.none]]))
      (Post (AV.bool false)
        [AObj.cells
            [AV.int IntKind.i64 (Prod.fst a), AV.sl 2 (Seq.map T.encPk T.noPk (Prod.fst (Prod.snd a))) Tip.none, AV.sl 6 (Seq.map T.encSt T.noSt (Prod.snd (Prod.snd a))) Tip.none],
          AObj.cells
            [AV.int IntKind.i64 (Prod.fst b), AV.sl 2 (Seq.map T.encPk T.noPk (Prod.fst (Prod.snd b))) Tip.none, AV.sl 6 (Seq.map T.encSt T.noSt (Prod.snd (Prod.snd b))) Tip.none]]) →
    ASpec Tryd.prog 42 [AV.agg (T.encAn a), AV.agg (T.encAn b)] [] Post := fun a b Post h => Go.Ab.ASpec.of_vc g42 Go.Proofs.Tryd.func42 (by kernel_rfl) (by kernel_rfl) (by kernel_rfl) (Go.Ab.kc (by kernel_rfl) h)

-- 43
noncomputable def l43 : Nat → List Nat
  | _ => []
noncomputable def u43 : Nat → Bool
  | _ => false
noncomputable def m43 : Nat → Bool
  | _ => false
noncomputable def g43 : Cfg := { N := 24, live := l43, cut := u43, mu := m43, ret := rets }
theorem s43 : ∀ (a b : T.Ans) (Post : AV → List AObj → Prop),
  condP (Prod.fst a == Prod.fst b)
      (ASpec Tryd.prog 37 [AV.sl 2 (Seq.map T.encPk T.noPk (Prod.fst (Prod.snd a))) Tip.none, AV.sl 2 (Seq.map T.encPk T.noPk (Prod.fst (Prod.snd b))) Tip.none]
        [AObj.cells
            [AV.int IntKind.i64 (Prod.fst a), AV.sl 2 (Seq.map T.encPk T.noPk (Prod.fst (Prod.snd a))) Tip.none, AV.sl 6 (Seq.map T.encSt T.noSt (Prod.snd (Prod.snd a))) Tip.none],
          AObj.cells
            [AV.int IntKind.i64 (Prod.fst b), AV.sl 2 (Seq.map T.encPk T.noPk (Prod.fst (Prod.snd b))) Tip.none, AV.sl 6 (Seq.map T.encSt T.noSt (Prod.snd (Prod.snd b))) Tip.none]]
        fun (r : AV) (H' : List AObj) =>
        ∃ (x : Bool),
          r = AV.bool x ∧
            H' =
                [AObj.cells
                    [AV.int IntKind.i64 (Prod.fst a), AV.sl 2 (Seq.map T.encPk T.noPk (Prod.fst (Prod.snd a))) Tip.none,
                      AV.sl 6 (Seq.map T.encSt T.noSt (Prod.snd (Prod.snd a))) Tip.none],
                  AObj.cells
                    [AV.int IntKind.i64 (Prod.fst b), AV.sl 2 (Seq.map T.encPk T.noPk (Prod.fst (Prod.snd b))) Tip.none,
                      AV.sl 6 (Seq.map T.encSt T.noSt (Prod.snd (Prod.snd b))) Tip.none]] ∧
              condP x
                (ASpec Tryd.prog 84 [AV.sl 6 (Seq.map T.encSt T.noSt (Prod.snd (Prod.snd a))) Tip.none, AV.sl 6 (Seq.map T.encSt T.noSt (Prod.snd (Prod.snd b))) Tip.none]
                  [AObj.cells
                      [AV.int IntKind.i64 (Prod.fst a), AV.sl 2 (Seq.map T.encPk T.noPk (Prod.fst (Prod.snd a))) Tip.none,
                        AV.sl 6 (Seq.map T.encSt T.noSt (Prod.snd (Prod.snd a))) Tip.none],
                    AObj.cells
                      [AV.int IntKind.i64 (Prod.fst b), AV.sl 2 (Seq.map T.encPk T.noPk (Prod.fst (Prod.snd b))) Tip.none,
                        AV.sl 6 (Seq.map T.encSt T.noSt (Prod.snd (Prod.snd b))) Tip.none]]
                  fun (r : AV) (H' : List AObj) =>
                  ∃ (x : Bool),
                    r = AV.bool x ∧
                      H' =
                          [AObj.cells
                              [AV.int IntKind.i64 (Prod.fst a), AV.sl 2 (Seq.map T.encPk T.noPk (Prod.fst (Prod.snd a))) Tip.none,
                                AV.sl 6 (Seq.map T.encSt T.noSt (Prod.snd (Prod.snd a))) Tip.none],
                            AObj.cells
                              [AV.int IntKind.i64 (Prod.fst b), AV.sl 2 (Seq.map T.encPk T.noPk (Prod.fst (Prod.snd b))) Tip.none,
                                AV.sl 6 (Seq.map T.encSt T.noSt (Prod.snd (Prod.snd b))) Tip.none]] ∧
                        Post (AV.bool x)
                          [AObj.cells
                              [AV.int IntKind.i64 (Prod.fst a), AV.sl 2 (Seq.map T.encPk T.noPk (Prod.fst (Prod.snd a))) Tip.none,
                                AV.sl 6 (Seq.map T.encSt T.noSt (Prod.snd (Prod.snd a))) Tip.none],
                            AObj.cells
                              [AV.int IntKind.i64 (Prod.fst b), AV.sl 2 (Seq.map T.encPk T.noPk (Prod.fst (Prod.snd b))) Tip.none,
                                AV.sl 6 (Seq.map T.encSt T.noSt (Prod.snd (Prod.snd b))) Tip.none]])
                (Post (AV.bool false)
                  [AObj.cells
                      [AV.int IntKind.i64 (Prod.fst a), AV.sl 2 (Seq.map T.encPk T.noPk (Prod.fst (Prod.snd a))) Tip.none,
                        AV.sl 6 (Seq.map T.encSt T.noSt (Prod.snd (Prod.snd a))) Tip.none],
                    AObj.cells
                      [AV.int IntKind.i64 (Prod.fst b), AV.sl 2 (Seq.map T.encPk T.noPk (Prod.fst (Prod.snd b))) Tip.none,
                        AV.sl 6 (Seq.map T.encSt T.noSt (Prod.snd (Prod.snd b))) Tip.none]]))
      (Post (AV.bool false)
        [AObj.cells
            [AV.int IntKind.i64 (Prod.fst a), AV.sl 2 (Seq.map T.encPk T.noPk (Prod.fst (Prod.snd a))) Tip.none, AV.sl 6 (Seq.map T.encSt T.noSt (Prod.snd (Prod.snd a))) Tip.none],
          AObj.cells
            [AV.int IntKind.i64 (Prod.fst b), AV.sl 2 (Seq.map T.encPk T.noPk (Prod.fst (Prod.snd b))) Tip.none, AV.sl 6 (Seq.map T.encSt T.noSt (Prod.snd (Prod.snd b))) Tip.none]]) →
    ASpec Tryd.prog 43 [AV.agg (T.encAn a), AV.agg (T.encAn b)] [] Post := fun a b Post h => Go.Ab.ASpec.of_vc g43 Go.Proofs.Tryd.func43 (by kernel_rfl) (by kernel_rfl) (by kernel_rfl) (Go.Ab.kc (by kernel_rfl) h)

-- 44
noncomputable def l44 : Nat → List Nat
  | _ => []
noncomputable def u44 : Nat → Bool
  | _ => false
noncomputable def m44 : Nat → Bool
  | _ => false
noncomputable def g44 : Cfg := { N := 26, live := l44, cut := u44, mu := m44, ret := rets }
noncomputable def c44 : Go.Code := Go.Ab.bodyOf Go.Proofs.Tryd.f44
theorem s44 : ∀ (a : T.Ans) (Post : AV → List AObj → Prop),
  (ASpec Tryd.prog 40
      [AV.agg [AV.int IntKind.i64 (Prod.fst a), AV.sl 2 (Seq.map T.encPk T.noPk (Prod.fst (Prod.snd a))) Tip.none, AV.sl 6 (Seq.map T.encSt T.noSt (Prod.snd (Prod.snd a))) Tip.none]]
      [AObj.cells
          [AV.int IntKind.i64 (Prod.fst a), AV.sl 2 (Seq.map T.encPk T.noPk (Prod.fst (Prod.snd a))) Tip.none, AV.sl 6 (Seq.map T.encSt T.noSt (Prod.snd (Prod.snd a))) Tip.none]]
      fun (r : AV) (H' : List AObj) =>
      ∃ (x : Bool),
        r = AV.bool x ∧
          H' =
              [AObj.cells
                  [AV.int IntKind.i64 (Prod.fst a), AV.sl 2 (Seq.map T.encPk T.noPk (Prod.fst (Prod.snd a))) Tip.none,
                    AV.sl 6 (Seq.map T.encSt T.noSt (Prod.snd (Prod.snd a))) Tip.none]] ∧
            condP (!x)
              (Post (AV.str { data := #[] })
                [AObj.cells
                    [AV.int IntKind.i64 (Prod.fst a), AV.sl 2 (Seq.map T.encPk T.noPk (Prod.fst (Prod.snd a))) Tip.none,
                      AV.sl 6 (Seq.map T.encSt T.noSt (Prod.snd (Prod.snd a))) Tip.none]])
              (condP (Prod.fst a == (1 : Int))
                (ASpec Tryd.prog 85 [AV.sl 2 (Seq.map T.encPk T.noPk (Prod.fst (Prod.snd a))) Tip.none]
                  [AObj.cells
                      [AV.int IntKind.i64 (Prod.fst a), AV.sl 2 (Seq.map T.encPk T.noPk (Prod.fst (Prod.snd a))) Tip.none,
                        AV.sl 6 (Seq.map T.encSt T.noSt (Prod.snd (Prod.snd a))) Tip.none]]
                  fun (r : AV) (H' : List AObj) =>
                  ∃ (x : ByteArray),
                    r = AV.str x ∧
                      H' =
                          [AObj.cells
                              [AV.int IntKind.i64 (Prod.fst a), AV.sl 2 (Seq.map T.encPk T.noPk (Prod.fst (Prod.snd a))) Tip.none,
                                AV.sl 6 (Seq.map T.encSt T.noSt (Prod.snd (Prod.snd a))) Tip.none]] ∧
                        needP ((↑(7 + ByteArray.size x) : Int) ≤ (9223372036854775807 : Int))
                          (Post (AV.str ({ data := #[(115 : UInt8), (111 : UInt8), (108 : UInt8), (118 : UInt8), (101 : UInt8), (100 : UInt8), (32 : UInt8)] } ++ x))
                            [AObj.cells
                                [AV.int IntKind.i64 (Prod.fst a), AV.sl 2 (Seq.map T.encPk T.noPk (Prod.fst (Prod.snd a))) Tip.none,
                                  AV.sl 6 (Seq.map T.encSt T.noSt (Prod.snd (Prod.snd a))) Tip.none]]))
                (condP (Prod.fst a == (2 : Int))
                  (ASpec Tryd.prog 86 [AV.int IntKind.i64 (↑(List.length (Prod.snd (Prod.snd a))) : Int)]
                    [AObj.cells
                        [AV.int IntKind.i64 (Prod.fst a), AV.sl 2 (Seq.map T.encPk T.noPk (Prod.fst (Prod.snd a))) Tip.none,
                          AV.sl 6 (Seq.map T.encSt T.noSt (Prod.snd (Prod.snd a))) Tip.none]]
                    fun (r : AV) (H' : List AObj) =>
                    ∃ (x : ByteArray),
                      r = AV.str x ∧
                        H' =
                            [AObj.cells
                                [AV.int IntKind.i64 (Prod.fst a), AV.sl 2 (Seq.map T.encPk T.noPk (Prod.fst (Prod.snd a))) Tip.none,
                                  AV.sl 6 (Seq.map T.encSt T.noSt (Prod.snd (Prod.snd a))) Tip.none]] ∧
                          needP ((↑(9 + ByteArray.size x) : Int) ≤ (9223372036854775807 : Int))
                            (needP
                              ((↑(ByteArray.size
                                        ({ data := #[(117 : UInt8), (110 : UInt8), (115 : UInt8), (97 : UInt8), (116 : UInt8), (32 : UInt8), (98 : UInt8), (121 : UInt8), (32 : UInt8)] } ++ x) +
                                      6) :
                                  Int) ≤
                                (9223372036854775807 : Int))
                              (Post
                                (AV.str
                                  ({ data := #[(117 : UInt8), (110 : UInt8), (115 : UInt8), (97 : UInt8), (116 : UInt8), (32 : UInt8), (98 : UInt8), (121 : UInt8), (32 : UInt8)] } ++ x ++
                                    { data := #[(32 : UInt8), (115 : UInt8), (116 : UInt8), (101 : UInt8), (112 : UInt8), (115 : UInt8)] }))
                                [AObj.cells
                                    [AV.int IntKind.i64 (Prod.fst a), AV.sl 2 (Seq.map T.encPk T.noPk (Prod.fst (Prod.snd a))) Tip.none,
                                      AV.sl 6 (Seq.map T.encSt T.noSt (Prod.snd (Prod.snd a))) Tip.none]])))
                  (ASpec Tryd.prog 87 []
                    [AObj.cells
                        [AV.int IntKind.i64 (Prod.fst a), AV.sl 2 (Seq.map T.encPk T.noPk (Prod.fst (Prod.snd a))) Tip.none,
                          AV.sl 6 (Seq.map T.encSt T.noSt (Prod.snd (Prod.snd a))) Tip.none]]
                    fun (r : AV) (H' : List AObj) =>
                    ∃ (x_1 : Unit),
                      r =
                          AV.agg
                            [AV.str { data := #[] }, AV.str { data := #[] }, AV.str { data := #[] }, AV.str { data := #[(98 : UInt8), (97 : UInt8), (100 : UInt8)] },
                              AV.str { data := #[(100 : UInt8), (101 : UInt8), (97 : UInt8), (100 : UInt8), (108 : UInt8), (105 : UInt8), (110 : UInt8), (101 : UInt8)] },
                              AV.str { data := #[(114 : UInt8), (101 : UInt8), (106 : UInt8), (101 : UInt8), (99 : UInt8), (116 : UInt8), (101 : UInt8), (100 : UInt8)] }] ∧
                        H' =
                            [AObj.cells
                                [AV.int IntKind.i64 (Prod.fst a), AV.sl 2 (Seq.map T.encPk T.noPk (Prod.fst (Prod.snd a))) Tip.none,
                                  AV.sl 6 (Seq.map T.encSt T.noSt (Prod.snd (Prod.snd a))) Tip.none]] ∧
                          (AV.int IntKind.i64 (Prod.fst a) = AV.int IntKind.i64 (Prod.fst a) ∧
                              [AObj.cells
                                    [AV.int IntKind.i64 (Prod.fst a), AV.sl 2 (Seq.map T.encPk T.noPk (Prod.fst (Prod.snd a))) Tip.none,
                                      AV.sl 6 (Seq.map T.encSt T.noSt (Prod.snd (Prod.snd a))) Tip.none]] =
                                [AObj.cells
                                    [AV.int IntKind.i64 (Prod.fst a), AV.sl 2 (Seq.map T.encPk T.noPk (Prod.fst (Prod.snd a))) Tip.none,
                                      AV.sl 6 (Seq.map T.encSt T.noSt (Prod.snd (Prod.snd a))) Tip.none]]) ∧
                            needP ((0 : Int) ≤ Prod.fst a ∧ Prod.fst a < (6 : Int))
                              (match
                                partOf Tryd.prog 9
                                  [AV.str { data := #[] }, AV.str { data := #[] }, AV.str { data := #[] }, AV.str { data := #[(98 : UInt8), (97 : UInt8), (100 : UInt8)] },
                                    AV.str { data := #[(100 : UInt8), (101 : UInt8), (97 : UInt8), (100 : UInt8), (108 : UInt8), (105 : UInt8), (110 : UInt8), (101 : UInt8)] },
                                    AV.str { data := #[(114 : UInt8), (101 : UInt8), (106 : UInt8), (101 : UInt8), (99 : UInt8), (116 : UInt8), (101 : UInt8), (100 : UInt8)] }]
                                  (Int.toNat (Prod.fst a) * 1) with
                              | some a_1 =>
                                aput 26
                                  [(22,
                                      AV.agg
                                        [AV.str { data := #[] }, AV.str { data := #[] }, AV.str { data := #[] }, AV.str { data := #[(98 : UInt8), (97 : UInt8), (100 : UInt8)] },
                                          AV.str { data := #[(100 : UInt8), (101 : UInt8), (97 : UInt8), (100 : UInt8), (108 : UInt8), (105 : UInt8), (110 : UInt8), (101 : UInt8)] },
                                          AV.str { data := #[(114 : UInt8), (101 : UInt8), (106 : UInt8), (101 : UInt8), (99 : UInt8), (116 : UInt8), (101 : UInt8), (100 : UInt8)] }]),
                                    (24, AV.int IntKind.i64 (Prod.fst a)), (23, AV.ptr 0 0), (14, AV.bool (Prod.fst a == (2 : Int))),
                                    (15, AV.bool (Prod.fst a == (2 : Int))), (8, AV.bool (Prod.fst a == (1 : Int))), (9, AV.bool (Prod.fst a == (1 : Int))),
                                    (7, AV.int IntKind.i64 (Prod.fst a)), (6, AV.ptr 0 0), (5, AV.bool !x), (4, AV.bool x),
                                    (3,
                                      AV.agg
                                        [AV.int IntKind.i64 (Prod.fst a), AV.sl 2 (Seq.map T.encPk T.noPk (Prod.fst (Prod.snd a))) Tip.none,
                                          AV.sl 6 (Seq.map T.encSt T.noSt (Prod.snd (Prod.snd a))) Tip.none]),
                                    (2, AV.str { data := #[] }), (1, AV.ptr 0 0),
                                    (0,
                                      AV.agg
                                        [AV.int IntKind.i64 (Prod.fst a), AV.sl 2 (Seq.map T.encPk T.noPk (Prod.fst (Prod.snd a))) Tip.none,
                                          AV.sl 6 (Seq.map T.encSt T.noSt (Prod.snd (Prod.snd a))) Tip.none])]
                                  (Oper.dst
                                    #[{ dst := some 22, op := Op.call { callee := Callee.value (Operand.func 87), args := #[], argTypes := #[] }, type := 83,
                                          pos := "answer.go:53", after := #[], guard := none },
                                        { dst := some 23, op := Op.fieldAddr 44 (Operand.tmp 1) 0, type := 0, pos := "answer.go:53", after := #[],
                                          guard := none },
                                        { dst := some 24, op := Op.load 3 (Operand.tmp 23), type := 3, pos := "answer.go:53",
                                          after := #[{ on := 1, ground := Ground.data }], guard := none },
                                        { dst := some 25, op := Op.index 83 (Operand.tmp 22) (Operand.tmp 24), type := 9, pos := "answer.go:53",
                                          after := #[{ on := 0, ground := Ground.data }, { on := 2, ground := Ground.data }], guard := none },
                                        { dst := some 2, op := Op.assign (Operand.tmp 25), type := 9, pos := "answer.go:53",
                                          after :=
                                            #[{ on := 3, ground := Ground.data }, { on := 0, ground := Ground.chain }, { on := 0, ground := Ground.phase },
                                              { on := 1, ground := Ground.phase }, { on := 2, ground := Ground.phase }, { on := 3, ground := Ground.phase }],
                                          guard := none }][3])
                                  a_1 fun (s' : Slots) =>
                                  adrawL Tryd.prog g44
                                    #[{ dst := some 22, op := Op.call { callee := Callee.value (Operand.func 87), args := #[], argTypes := #[] }, type := 83,
                                        pos := "answer.go:53", after := #[], guard := none },
                                      { dst := some 23, op := Op.fieldAddr 44 (Operand.tmp 1) 0, type := 0, pos := "answer.go:53", after := #[],
                                        guard := none },
                                      { dst := some 24, op := Op.load 3 (Operand.tmp 23), type := 3, pos := "answer.go:53",
                                        after := #[{ on := 1, ground := Ground.data }], guard := none },
                                      { dst := some 25, op := Op.index 83 (Operand.tmp 22) (Operand.tmp 24), type := 9, pos := "answer.go:53",
                                        after := #[{ on := 0, ground := Ground.data }, { on := 2, ground := Ground.data }], guard := none },
                                      { dst := some 2, op := Op.assign (Operand.tmp 25), type := 9, pos := "answer.go:53",
                                        after :=
                                          #[{ on := 3, ground := Ground.data }, { on := 0, ground := Ground.chain }, { on := 0, ground := Ground.phase },
                                            { on := 1, ground := Ground.phase }, { on := 2, ground := Ground.phase }, { on := 3, ground := Ground.phase }],
                                        guard := none }]
                                    [0, 0, 2, 7, 15] [4] [2] s'
                                    [AObj.cells
                                        [AV.int IntKind.i64 (Prod.fst a), AV.sl 2 (Seq.map T.encPk T.noPk (Prod.fst (Prod.snd a))) Tip.none,
                                          AV.sl 6 (Seq.map T.encSt T.noSt (Prod.snd (Prod.snd a))) Tip.none]]
                                    (seqQ
                                      (fun (s' : Slots) (H' : List AObj) => awp Tryd.prog g44 0 (codeSnd (codeSnd (codeSnd (codeSnd c44)))) s' H' (endQ Tryd.prog (resultsOf Tryd.f44) Post))
                                      (endQ Tryd.prog (resultsOf Tryd.f44) Post) Exit.normal)
                              | none => False))))) →
    ASpec Tryd.prog 44 [AV.agg (T.encAn a)] [] Post := fun a Post h => Go.Ab.ASpec.of_vc g44 Go.Proofs.Tryd.func44 (by kernel_rfl) (by kernel_rfl) (by kernel_rfl) (Go.Ab.kc (by kernel_rfl) h)
theorem s44c : ∀ (p : List T.Pk) (t : List T.St) (Post : AV → List AObj → Prop),
  (ASpec Tryd.prog 40 [AV.agg [AV.int IntKind.i64 (3 : Int), AV.sl 2 (Seq.map T.encPk T.noPk p) Tip.none, AV.sl 6 (Seq.map T.encSt T.noSt t) Tip.none]]
      [AObj.cells [AV.int IntKind.i64 (3 : Int), AV.sl 2 (Seq.map T.encPk T.noPk p) Tip.none, AV.sl 6 (Seq.map T.encSt T.noSt t) Tip.none]] fun (r : AV) (H' : List AObj) =>
      ∃ (x : Bool),
        r = AV.bool x ∧
          H' = [AObj.cells [AV.int IntKind.i64 (3 : Int), AV.sl 2 (Seq.map T.encPk T.noPk p) Tip.none, AV.sl 6 (Seq.map T.encSt T.noSt t) Tip.none]] ∧
            condP (!x)
              (Post (AV.str { data := #[] }) [AObj.cells [AV.int IntKind.i64 (3 : Int), AV.sl 2 (Seq.map T.encPk T.noPk p) Tip.none, AV.sl 6 (Seq.map T.encSt T.noSt t) Tip.none]])
              (ASpec Tryd.prog 87 [] [AObj.cells [AV.int IntKind.i64 (3 : Int), AV.sl 2 (Seq.map T.encPk T.noPk p) Tip.none, AV.sl 6 (Seq.map T.encSt T.noSt t) Tip.none]]
                fun (r : AV) (H' : List AObj) =>
                ∃ (x : Unit),
                  r =
                      AV.agg
                        [AV.str { data := #[] }, AV.str { data := #[] }, AV.str { data := #[] }, AV.str { data := #[(98 : UInt8), (97 : UInt8), (100 : UInt8)] },
                          AV.str { data := #[(100 : UInt8), (101 : UInt8), (97 : UInt8), (100 : UInt8), (108 : UInt8), (105 : UInt8), (110 : UInt8), (101 : UInt8)] },
                          AV.str { data := #[(114 : UInt8), (101 : UInt8), (106 : UInt8), (101 : UInt8), (99 : UInt8), (116 : UInt8), (101 : UInt8), (100 : UInt8)] }] ∧
                    H' = [AObj.cells [AV.int IntKind.i64 (3 : Int), AV.sl 2 (Seq.map T.encPk T.noPk p) Tip.none, AV.sl 6 (Seq.map T.encSt T.noSt t) Tip.none]] ∧
                      (AV.int IntKind.i64 (3 : Int) = AV.int IntKind.i64 (3 : Int) ∧
                          [AObj.cells [AV.int IntKind.i64 (3 : Int), AV.sl 2 (Seq.map T.encPk T.noPk p) Tip.none, AV.sl 6 (Seq.map T.encSt T.noSt t) Tip.none]] =
                            [AObj.cells [AV.int IntKind.i64 (3 : Int), AV.sl 2 (Seq.map T.encPk T.noPk p) Tip.none, AV.sl 6 (Seq.map T.encSt T.noSt t) Tip.none]]) ∧
                        needP ((0 : Int) ≤ (3 : Int) ∧ (3 : Int) < (6 : Int))
                          (Post (AV.str { data := #[(98 : UInt8), (97 : UInt8), (100 : UInt8)] })
                            [AObj.cells [AV.int IntKind.i64 (3 : Int), AV.sl 2 (Seq.map T.encPk T.noPk p) Tip.none, AV.sl 6 (Seq.map T.encSt T.noSt t) Tip.none]]))) →
    ASpec Tryd.prog 44 [AV.agg (T.encAn ((3 : Int), p, t))] [] Post := fun p t Post h => Go.Ab.ASpec.of_vc g44 Go.Proofs.Tryd.func44 (by kernel_rfl) (by kernel_rfl) (by kernel_rfl) (Go.Ab.kc (by kernel_rfl) h)
theorem s44d : ∀ (p : List T.Pk) (t : List T.St) (Post : AV → List AObj → Prop),
  (ASpec Tryd.prog 40 [AV.agg [AV.int IntKind.i64 (4 : Int), AV.sl 2 (Seq.map T.encPk T.noPk p) Tip.none, AV.sl 6 (Seq.map T.encSt T.noSt t) Tip.none]]
      [AObj.cells [AV.int IntKind.i64 (4 : Int), AV.sl 2 (Seq.map T.encPk T.noPk p) Tip.none, AV.sl 6 (Seq.map T.encSt T.noSt t) Tip.none]] fun (r : AV) (H' : List AObj) =>
      ∃ (x : Bool),
        r = AV.bool x ∧
          H' = [AObj.cells [AV.int IntKind.i64 (4 : Int), AV.sl 2 (Seq.map T.encPk T.noPk p) Tip.none, AV.sl 6 (Seq.map T.encSt T.noSt t) Tip.none]] ∧
            condP (!x)
              (Post (AV.str { data := #[] }) [AObj.cells [AV.int IntKind.i64 (4 : Int), AV.sl 2 (Seq.map T.encPk T.noPk p) Tip.none, AV.sl 6 (Seq.map T.encSt T.noSt t) Tip.none]])
              (ASpec Tryd.prog 87 [] [AObj.cells [AV.int IntKind.i64 (4 : Int), AV.sl 2 (Seq.map T.encPk T.noPk p) Tip.none, AV.sl 6 (Seq.map T.encSt T.noSt t) Tip.none]]
                fun (r : AV) (H' : List AObj) =>
                ∃ (x : Unit),
                  r =
                      AV.agg
                        [AV.str { data := #[] }, AV.str { data := #[] }, AV.str { data := #[] }, AV.str { data := #[(98 : UInt8), (97 : UInt8), (100 : UInt8)] },
                          AV.str { data := #[(100 : UInt8), (101 : UInt8), (97 : UInt8), (100 : UInt8), (108 : UInt8), (105 : UInt8), (110 : UInt8), (101 : UInt8)] },
                          AV.str { data := #[(114 : UInt8), (101 : UInt8), (106 : UInt8), (101 : UInt8), (99 : UInt8), (116 : UInt8), (101 : UInt8), (100 : UInt8)] }] ∧
                    H' = [AObj.cells [AV.int IntKind.i64 (4 : Int), AV.sl 2 (Seq.map T.encPk T.noPk p) Tip.none, AV.sl 6 (Seq.map T.encSt T.noSt t) Tip.none]] ∧
                      (AV.int IntKind.i64 (4 : Int) = AV.int IntKind.i64 (4 : Int) ∧
                          [AObj.cells [AV.int IntKind.i64 (4 : Int), AV.sl 2 (Seq.map T.encPk T.noPk p) Tip.none, AV.sl 6 (Seq.map T.encSt T.noSt t) Tip.none]] =
                            [AObj.cells [AV.int IntKind.i64 (4 : Int), AV.sl 2 (Seq.map T.encPk T.noPk p) Tip.none, AV.sl 6 (Seq.map T.encSt T.noSt t) Tip.none]]) ∧
                        needP ((0 : Int) ≤ (4 : Int) ∧ (4 : Int) < (6 : Int))
                          (Post (AV.str { data := #[(100 : UInt8), (101 : UInt8), (97 : UInt8), (100 : UInt8), (108 : UInt8), (105 : UInt8), (110 : UInt8), (101 : UInt8)] })
                            [AObj.cells [AV.int IntKind.i64 (4 : Int), AV.sl 2 (Seq.map T.encPk T.noPk p) Tip.none, AV.sl 6 (Seq.map T.encSt T.noSt t) Tip.none]]))) →
    ASpec Tryd.prog 44 [AV.agg (T.encAn ((4 : Int), p, t))] [] Post := fun p t Post h => Go.Ab.ASpec.of_vc g44 Go.Proofs.Tryd.func44 (by kernel_rfl) (by kernel_rfl) (by kernel_rfl) (Go.Ab.kc (by kernel_rfl) h)
theorem s44e : ∀ (p : List T.Pk) (t : List T.St) (Post : AV → List AObj → Prop),
  (ASpec Tryd.prog 40 [AV.agg [AV.int IntKind.i64 (5 : Int), AV.sl 2 (Seq.map T.encPk T.noPk p) Tip.none, AV.sl 6 (Seq.map T.encSt T.noSt t) Tip.none]]
      [AObj.cells [AV.int IntKind.i64 (5 : Int), AV.sl 2 (Seq.map T.encPk T.noPk p) Tip.none, AV.sl 6 (Seq.map T.encSt T.noSt t) Tip.none]] fun (r : AV) (H' : List AObj) =>
      ∃ (x : Bool),
        r = AV.bool x ∧
          H' = [AObj.cells [AV.int IntKind.i64 (5 : Int), AV.sl 2 (Seq.map T.encPk T.noPk p) Tip.none, AV.sl 6 (Seq.map T.encSt T.noSt t) Tip.none]] ∧
            condP (!x)
              (Post (AV.str { data := #[] }) [AObj.cells [AV.int IntKind.i64 (5 : Int), AV.sl 2 (Seq.map T.encPk T.noPk p) Tip.none, AV.sl 6 (Seq.map T.encSt T.noSt t) Tip.none]])
              (ASpec Tryd.prog 87 [] [AObj.cells [AV.int IntKind.i64 (5 : Int), AV.sl 2 (Seq.map T.encPk T.noPk p) Tip.none, AV.sl 6 (Seq.map T.encSt T.noSt t) Tip.none]]
                fun (r : AV) (H' : List AObj) =>
                ∃ (x : Unit),
                  r =
                      AV.agg
                        [AV.str { data := #[] }, AV.str { data := #[] }, AV.str { data := #[] }, AV.str { data := #[(98 : UInt8), (97 : UInt8), (100 : UInt8)] },
                          AV.str { data := #[(100 : UInt8), (101 : UInt8), (97 : UInt8), (100 : UInt8), (108 : UInt8), (105 : UInt8), (110 : UInt8), (101 : UInt8)] },
                          AV.str { data := #[(114 : UInt8), (101 : UInt8), (106 : UInt8), (101 : UInt8), (99 : UInt8), (116 : UInt8), (101 : UInt8), (100 : UInt8)] }] ∧
                    H' = [AObj.cells [AV.int IntKind.i64 (5 : Int), AV.sl 2 (Seq.map T.encPk T.noPk p) Tip.none, AV.sl 6 (Seq.map T.encSt T.noSt t) Tip.none]] ∧
                      (AV.int IntKind.i64 (5 : Int) = AV.int IntKind.i64 (5 : Int) ∧
                          [AObj.cells [AV.int IntKind.i64 (5 : Int), AV.sl 2 (Seq.map T.encPk T.noPk p) Tip.none, AV.sl 6 (Seq.map T.encSt T.noSt t) Tip.none]] =
                            [AObj.cells [AV.int IntKind.i64 (5 : Int), AV.sl 2 (Seq.map T.encPk T.noPk p) Tip.none, AV.sl 6 (Seq.map T.encSt T.noSt t) Tip.none]]) ∧
                        needP ((0 : Int) ≤ (5 : Int) ∧ (5 : Int) < (6 : Int))
                          (Post (AV.str { data := #[(114 : UInt8), (101 : UInt8), (106 : UInt8), (101 : UInt8), (99 : UInt8), (116 : UInt8), (101 : UInt8), (100 : UInt8)] })
                            [AObj.cells [AV.int IntKind.i64 (5 : Int), AV.sl 2 (Seq.map T.encPk T.noPk p) Tip.none, AV.sl 6 (Seq.map T.encSt T.noSt t) Tip.none]]))) →
    ASpec Tryd.prog 44 [AV.agg (T.encAn ((5 : Int), p, t))] [] Post := fun p t Post h => Go.Ab.ASpec.of_vc g44 Go.Proofs.Tryd.func44 (by kernel_rfl) (by kernel_rfl) (by kernel_rfl) (Go.Ab.kc (by kernel_rfl) h)

-- 45
noncomputable def l87 : Nat → List Nat
  | _ => []
noncomputable def u87 : Nat → Bool
  | _ => false
noncomputable def m87 : Nat → Bool
  | _ => false
noncomputable def g87 : Cfg := { N := 2, live := l87, cut := u87, mu := m87, ret := rets }
theorem s87 : ∀ (Post : AV → List AObj → Prop),
  Post
      (AV.agg
        [AV.str { data := #[] }, AV.str { data := #[] }, AV.str { data := #[] }, AV.str { data := #[(98 : UInt8), (97 : UInt8), (100 : UInt8)] },
          AV.str { data := #[(100 : UInt8), (101 : UInt8), (97 : UInt8), (100 : UInt8), (108 : UInt8), (105 : UInt8), (110 : UInt8), (101 : UInt8)] },
          AV.str { data := #[(114 : UInt8), (101 : UInt8), (106 : UInt8), (101 : UInt8), (99 : UInt8), (116 : UInt8), (101 : UInt8), (100 : UInt8)] }])
      [AObj.cells
          [AV.str { data := #[] }, AV.str { data := #[] }, AV.str { data := #[] }, AV.str { data := #[(98 : UInt8), (97 : UInt8), (100 : UInt8)] },
            AV.str { data := #[(100 : UInt8), (101 : UInt8), (97 : UInt8), (100 : UInt8), (108 : UInt8), (105 : UInt8), (110 : UInt8), (101 : UInt8)] },
            AV.str { data := #[(114 : UInt8), (101 : UInt8), (106 : UInt8), (101 : UInt8), (99 : UInt8), (116 : UInt8), (101 : UInt8), (100 : UInt8)] }]] →
    ASpec Tryd.prog 87 [] [] Post := fun Post h => Go.Ab.ASpec.of_vc g87 Go.Proofs.Tryd.func87 (by kernel_rfl) (by kernel_rfl) (by kernel_rfl) (Go.Ab.kc (by kernel_rfl) h)

-- 85
noncomputable def l85 : Nat → List Nat
  | 5 => [0]
  | 7 => [3, 14, 15, 16]
  | _ => []
noncomputable def u85 : Nat → Bool
  | 5 => true
  | _ => false
noncomputable def m85 : Nat → Bool
  | _ => false
noncomputable def g85 : Cfg := { N := 33, live := l85, cut := u85, mu := m85, ret := rets }
noncomputable def c85 : Go.Code := Go.Ab.bodyOf Go.Proofs.Tryd.f85
noncomputable def q85_0 : Nat → (AV → List AObj → Prop) → AQ := fun (n : Nat) (Post : AV → List AObj → Prop) => endQ Tryd.prog (resultsOf Tryd.f85) Post
noncomputable def c85_5 : Go.Code := codeSnd (codeSnd c85)
theorem s85 : ∀ (s : List T.Pk) (Post : AV → List AObj → Prop),
  (ASpec Tryd.prog 79 [AV.sl 2 (Seq.map T.encPk T.noPk s) Tip.none] [] fun (r : AV) (H' : List AObj) =>
      ∃ (x : Bool),
        r = AV.bool x ∧
          H' = [] ∧
            condP (!x) (Post (AV.str { data := #[] }) [])
              (condP ((↑(List.length s) : Int) == (0 : Int)) (Post (AV.str { data := #[(110 : UInt8), (111 : UInt8), (116 : UInt8), (104 : UInt8), (105 : UInt8), (110 : UInt8), (103 : UInt8)] }) [])
                (AWP Tryd.prog 33 0 c85_5 [(0, AV.sl 2 (Seq.map T.encPk T.noPk s) Tip.none)] [] (q85_0 0 Post)))) →
    ASpec Tryd.prog 85 [AV.sl 2 (Seq.map T.encPk T.noPk s) Tip.none] [] Post := fun s Post h => Go.Ab.ASpec.of_vc g85 Go.Proofs.Tryd.func85 (by kernel_rfl) (by kernel_rfl) (by kernel_rfl) (Go.Ab.kc (by kernel_rfl) h)
noncomputable def q85_1 : Nat → (AV → List AObj → Prop) → AQ := fun (n : Nat) (Post : AV → List AObj → Prop) => seqQ (fun (s' : Slots) (H' : List AObj) => awp Tryd.prog g85 n (codeSnd (codeSnd c85_5)) s' H' (q85_0 n Post)) (q85_0 n Post)
noncomputable def q85_2 : Nat → (AV → List AObj → Prop) → AQ := fun (n : Nat) (Post : AV → List AObj → Prop) => blockQ 1 (q85_1 n Post)
noncomputable def c85_7 : Go.Code := codeFst (codeSnd (codeFst (codeSnd c85_5)))
theorem v85_5 : ∀ (s : List T.Pk) (n : Nat) (Post : AV → List AObj → Prop),
  AWP Tryd.prog 33 n c85_7
      [(3, AV.sl 0 (Seq.raw []) Tip.nil), (14, AV.sl 2 (Seq.map T.encPk T.noPk s) Tip.none), (15, AV.int IntKind.i64 (↑(List.length s) : Int)),
        (16, AV.int IntKind.i64 (0 : Int))]
      [] (q85_2 n Post) →
    AWP Tryd.prog 33 n c85_5 [(0, AV.sl 2 (Seq.map T.encPk T.noPk s) Tip.none)] [] (q85_0 n Post) := fun s n Post h => Go.Ab.awp_sound g85 n _ _ _ _ (Go.Ab.kc (by kernel_rfl) h)
theorem v85_7 : ∀ (s : List T.Pk) (o : List (List UInt8)) (n i : Int) (n_1 : Nat) (Post : AV → List AObj → Prop),
  condP (decide (i < n))
      (needP ((0 : Int) ≤ i ∧ i < (↑(List.length s) : Int))
        (needP ((↑(ByteArray.size { data := List.toArray (Prod.fst (List.getD s (Int.toNat i) T.noPk)) } + 1) : Int) ≤ (9223372036854775807 : Int))
          (ASpec Tryd.prog 121 [AV.int IntKind.i64 (Prod.snd (List.getD s (Int.toNat i) T.noPk))]
            [AObj.tok, AObj.cells [AV.str { data := List.toArray (Prod.fst (List.getD s (Int.toNat i) T.noPk)) }, AV.int IntKind.i64 (Prod.snd (List.getD s (Int.toNat i) T.noPk))]]
            fun (r : AV) (H' : List AObj) =>
            ∃ (x : ByteArray),
              r = AV.str x ∧
                H' = [AObj.tok, AObj.cells [AV.str { data := List.toArray (Prod.fst (List.getD s (Int.toNat i) T.noPk)) }, AV.int IntKind.i64 (Prod.snd (List.getD s (Int.toNat i) T.noPk))]] ∧
                  (AV.str { data := List.toArray (Prod.fst (List.getD s (Int.toNat i) T.noPk)) } = AV.str { data := List.toArray (Prod.fst (List.getD s (Int.toNat i) T.noPk)) } ∧
                      [AObj.tok, AObj.cells [AV.str { data := List.toArray (Prod.fst (List.getD s (Int.toNat i) T.noPk)) }, AV.int IntKind.i64 (Prod.snd (List.getD s (Int.toNat i) T.noPk))]] =
                        [AObj.tok, AObj.cells [AV.str { data := List.toArray (Prod.fst (List.getD s (Int.toNat i) T.noPk)) }, AV.int IntKind.i64 (Prod.snd (List.getD s (Int.toNat i) T.noPk))]]) ∧
                    needP
                      ((↑(ByteArray.size ({ data := List.toArray (Prod.fst (List.getD s (Int.toNat i) T.noPk)) } ++ { data := #[(32 : UInt8)] }) + ByteArray.size x) : Int) ≤
                        (9223372036854775807 : Int))
                      (needP ((List.length o + 1) * 16 ≤ 140737488351232)
                        (AWP Tryd.prog 33 n_1 c85_7
                          [(3,
                              AV.sl 1
                                (Seq.app (Seq.map T.encL [] o) (Seq.raw [[AV.str ({ data := List.toArray (Prod.fst (List.getD s (Int.toNat i) T.noPk)) } ++ { data := #[(32 : UInt8)] } ++ x)]]))
                                (Tip.tok 2)),
                            (14, AV.sl 2 (Seq.map T.encPk T.noPk s) Tip.none), (15, AV.int IntKind.i64 n),
                            (16, AV.int IntKind.i64 (IntKind.wrap IntKind.i64 (i + (1 : Int))))]
                          [AObj.gone, AObj.cells [AV.str { data := List.toArray (Prod.fst (List.getD s (Int.toNat i) T.noPk)) }, AV.int IntKind.i64 (Prod.snd (List.getD s (Int.toNat i) T.noPk))],
                            AObj.tok]
                          (q85_2 n_1 Post))))))
      (ASpec Tryd.prog 118 [AV.sl 1 (Seq.map T.encL [] o) (Tip.tok 0), AV.str { data := #[(44 : UInt8), (32 : UInt8)] }] [AObj.tok] fun (r : AV) (H' : List AObj) =>
        ∃ (x : ByteArray), r = AV.str x ∧ H' = [AObj.tok] ∧ Post (AV.str x) [AObj.tok]) →
    AWP Tryd.prog 33 n_1 c85_7
      [(3, AV.sl 1 (Seq.map T.encL [] o) (Tip.tok 0)), (14, AV.sl 2 (Seq.map T.encPk T.noPk s) Tip.none), (15, AV.int IntKind.i64 n),
        (16, AV.int IntKind.i64 i)]
      [AObj.tok] (q85_2 n_1 Post) := fun s o n i n Post h => Go.Ab.AWP.loop' g85 (Cfg.live g85) c85_7 (by kernel_rfl) (by kernel_rfl) (Go.Ab.kc (by kernel_rfl) h)

-- 88
noncomputable def l38 : Nat → List Nat
  | _ => []
noncomputable def u38 : Nat → Bool
  | _ => false
noncomputable def m38 : Nat → Bool
  | _ => false
noncomputable def g38 : Cfg := { N := 41, live := l38, cut := u38, mu := m38, ret := rets }
theorem s38 : ∀ (a : T.Ans) (Post : AV → List AObj → Prop),
  condP (decide ((↑(List.length (Prod.fst (Prod.snd a))) : Int) > (60 : Int)))
      (condP (decide ((↑(List.length (Prod.fst (Prod.snd a))) : Int) ≤ (1000 : Int)))
        (Post (AV.bool true)
          [AObj.cells
              [AV.int IntKind.i64 (Prod.fst a), AV.sl 2 (Seq.map T.encPk T.noPk (Prod.fst (Prod.snd a))) Tip.none, AV.sl 6 (Seq.map T.encSt T.noSt (Prod.snd (Prod.snd a))) Tip.none]])
        (condP (decide ((↑(List.length (Prod.fst (Prod.snd a))) : Int) > (1100 : Int)))
          (Post (AV.bool true)
            [AObj.cells
                [AV.int IntKind.i64 (Prod.fst a), AV.sl 2 (Seq.map T.encPk T.noPk (Prod.fst (Prod.snd a))) Tip.none,
                  AV.sl 6 (Seq.map T.encSt T.noSt (Prod.snd (Prod.snd a))) Tip.none]])
          (ASpec Tryd.prog 78 [AV.sl 6 (Seq.map T.encSt T.noSt (Prod.snd (Prod.snd a))) Tip.none]
            [AObj.cells
                [AV.int IntKind.i64 (Prod.fst a), AV.sl 2 (Seq.map T.encPk T.noPk (Prod.fst (Prod.snd a))) Tip.none, AV.sl 6 (Seq.map T.encSt T.noSt (Prod.snd (Prod.snd a))) Tip.none]]
            fun (r : AV) (H' : List AObj) =>
            ∃ (x : Bool),
              r = AV.bool x ∧
                H' =
                    [AObj.cells
                        [AV.int IntKind.i64 (Prod.fst a), AV.sl 2 (Seq.map T.encPk T.noPk (Prod.fst (Prod.snd a))) Tip.none,
                          AV.sl 6 (Seq.map T.encSt T.noSt (Prod.snd (Prod.snd a))) Tip.none]] ∧
                  condP x
                    (Post (AV.bool true)
                      [AObj.cells
                          [AV.int IntKind.i64 (Prod.fst a), AV.sl 2 (Seq.map T.encPk T.noPk (Prod.fst (Prod.snd a))) Tip.none,
                            AV.sl 6 (Seq.map T.encSt T.noSt (Prod.snd (Prod.snd a))) Tip.none]])
                    (condP (decide ((↑(List.length (Prod.snd (Prod.snd a))) : Int) > (300 : Int)))
                      (Post (AV.bool true)
                        [AObj.cells
                            [AV.int IntKind.i64 (Prod.fst a), AV.sl 2 (Seq.map T.encPk T.noPk (Prod.fst (Prod.snd a))) Tip.none,
                              AV.sl 6 (Seq.map T.encSt T.noSt (Prod.snd (Prod.snd a))) Tip.none]])
                      (condP (decide ((↑(List.length (Prod.fst (Prod.snd a))) : Int) ≤ (60 : Int)))
                        (ASpec Tryd.prog 30 [AV.sl 2 (Seq.map T.encPk T.noPk (Prod.fst (Prod.snd a))) Tip.none]
                          [AObj.cells
                              [AV.int IntKind.i64 (Prod.fst a), AV.sl 2 (Seq.map T.encPk T.noPk (Prod.fst (Prod.snd a))) Tip.none,
                                AV.sl 6 (Seq.map T.encSt T.noSt (Prod.snd (Prod.snd a))) Tip.none]]
                          fun (r : AV) (H' : List AObj) =>
                          ∃ (x : Bool),
                            r = AV.bool x ∧
                              H' =
                                  [AObj.cells
                                      [AV.int IntKind.i64 (Prod.fst a), AV.sl 2 (Seq.map T.encPk T.noPk (Prod.fst (Prod.snd a))) Tip.none,
                                        AV.sl 6 (Seq.map T.encSt T.noSt (Prod.snd (Prod.snd a))) Tip.none]] ∧
                                Post (AV.bool x)
                                  [AObj.cells
                                      [AV.int IntKind.i64 (Prod.fst a), AV.sl 2 (Seq.map T.encPk T.noPk (Prod.fst (Prod.snd a))) Tip.none,
                                        AV.sl 6 (Seq.map T.encSt T.noSt (Prod.snd (Prod.snd a))) Tip.none]])
                        (Post (AV.bool false)
                          [AObj.cells
                              [AV.int IntKind.i64 (Prod.fst a), AV.sl 2 (Seq.map T.encPk T.noPk (Prod.fst (Prod.snd a))) Tip.none,
                                AV.sl 6 (Seq.map T.encSt T.noSt (Prod.snd (Prod.snd a))) Tip.none]]))))))
      (condP (decide ((↑(List.length (Prod.fst (Prod.snd a))) : Int) > (1100 : Int)))
        (Post (AV.bool true)
          [AObj.cells
              [AV.int IntKind.i64 (Prod.fst a), AV.sl 2 (Seq.map T.encPk T.noPk (Prod.fst (Prod.snd a))) Tip.none, AV.sl 6 (Seq.map T.encSt T.noSt (Prod.snd (Prod.snd a))) Tip.none]])
        (ASpec Tryd.prog 78 [AV.sl 6 (Seq.map T.encSt T.noSt (Prod.snd (Prod.snd a))) Tip.none]
          [AObj.cells
              [AV.int IntKind.i64 (Prod.fst a), AV.sl 2 (Seq.map T.encPk T.noPk (Prod.fst (Prod.snd a))) Tip.none, AV.sl 6 (Seq.map T.encSt T.noSt (Prod.snd (Prod.snd a))) Tip.none]]
          fun (r : AV) (H' : List AObj) =>
          ∃ (x : Bool),
            r = AV.bool x ∧
              H' =
                  [AObj.cells
                      [AV.int IntKind.i64 (Prod.fst a), AV.sl 2 (Seq.map T.encPk T.noPk (Prod.fst (Prod.snd a))) Tip.none,
                        AV.sl 6 (Seq.map T.encSt T.noSt (Prod.snd (Prod.snd a))) Tip.none]] ∧
                condP x
                  (Post (AV.bool true)
                    [AObj.cells
                        [AV.int IntKind.i64 (Prod.fst a), AV.sl 2 (Seq.map T.encPk T.noPk (Prod.fst (Prod.snd a))) Tip.none,
                          AV.sl 6 (Seq.map T.encSt T.noSt (Prod.snd (Prod.snd a))) Tip.none]])
                  (condP (decide ((↑(List.length (Prod.snd (Prod.snd a))) : Int) > (300 : Int)))
                    (Post (AV.bool true)
                      [AObj.cells
                          [AV.int IntKind.i64 (Prod.fst a), AV.sl 2 (Seq.map T.encPk T.noPk (Prod.fst (Prod.snd a))) Tip.none,
                            AV.sl 6 (Seq.map T.encSt T.noSt (Prod.snd (Prod.snd a))) Tip.none]])
                    (condP (decide ((↑(List.length (Prod.fst (Prod.snd a))) : Int) ≤ (60 : Int)))
                      (ASpec Tryd.prog 30 [AV.sl 2 (Seq.map T.encPk T.noPk (Prod.fst (Prod.snd a))) Tip.none]
                        [AObj.cells
                            [AV.int IntKind.i64 (Prod.fst a), AV.sl 2 (Seq.map T.encPk T.noPk (Prod.fst (Prod.snd a))) Tip.none,
                              AV.sl 6 (Seq.map T.encSt T.noSt (Prod.snd (Prod.snd a))) Tip.none]]
                        fun (r : AV) (H' : List AObj) =>
                        ∃ (x : Bool),
                          r = AV.bool x ∧
                            H' =
                                [AObj.cells
                                    [AV.int IntKind.i64 (Prod.fst a), AV.sl 2 (Seq.map T.encPk T.noPk (Prod.fst (Prod.snd a))) Tip.none,
                                      AV.sl 6 (Seq.map T.encSt T.noSt (Prod.snd (Prod.snd a))) Tip.none]] ∧
                              Post (AV.bool x)
                                [AObj.cells
                                    [AV.int IntKind.i64 (Prod.fst a), AV.sl 2 (Seq.map T.encPk T.noPk (Prod.fst (Prod.snd a))) Tip.none,
                                      AV.sl 6 (Seq.map T.encSt T.noSt (Prod.snd (Prod.snd a))) Tip.none]])
                      (Post (AV.bool false)
                        [AObj.cells
                            [AV.int IntKind.i64 (Prod.fst a), AV.sl 2 (Seq.map T.encPk T.noPk (Prod.fst (Prod.snd a))) Tip.none,
                              AV.sl 6 (Seq.map T.encSt T.noSt (Prod.snd (Prod.snd a))) Tip.none]]))))) →
    ASpec Tryd.prog 38 [AV.agg (T.encAn a)] [] Post := fun a Post h => Go.Ab.ASpec.of_vc g38 Go.Proofs.Tryd.func38 (by kernel_rfl) (by kernel_rfl) (by kernel_rfl) (Go.Ab.kc (by kernel_rfl) h)

-- 39
noncomputable def l39 : Nat → List Nat
  | _ => []
noncomputable def u39 : Nat → Bool
  | _ => false
noncomputable def m39 : Nat → Bool
  | _ => false
noncomputable def g39 : Cfg := { N := 14, live := l39, cut := u39, mu := m39, ret := rets }
theorem s39 : ∀ (Post : AV → List AObj → Prop),
  (ASpec Tryd.prog 44
      [AV.agg [AV.int IntKind.i64 (1 : Int), AV.sl 2 (Seq.raw [[AV.str { data := #[(97 : UInt8)] }, AV.int IntKind.i64 (1000000 : Int)]]) Tip.full, AV.sl 0 (Seq.raw []) Tip.nil]]
      [AObj.cells [AV.int IntKind.i64 (1 : Int), AV.sl 2 (Seq.raw [[AV.str { data := #[(97 : UInt8)] }, AV.int IntKind.i64 (1000000 : Int)]]) Tip.full, AV.sl 0 (Seq.raw []) Tip.nil]]
      fun (r : AV) (H' : List AObj) =>
      ∃ (x : ByteArray),
        r = AV.str x ∧
          H' =
              [AObj.cells
                  [AV.int IntKind.i64 (1 : Int), AV.sl 2 (Seq.raw [[AV.str { data := #[(97 : UInt8)] }, AV.int IntKind.i64 (1000000 : Int)]]) Tip.full, AV.sl 0 (Seq.raw []) Tip.nil]] ∧
            condP
              (ByteArray.toList x ==
                ByteArray.toList
                  {
                    data :=
                      #[(115 : UInt8), (111 : UInt8), (108 : UInt8), (118 : UInt8), (101 : UInt8), (100 : UInt8), (32 : UInt8), (97 : UInt8), (32 : UInt8), (49 : UInt8), (46 : UInt8), (48 : UInt8),
                        (46 : UInt8), (48 : UInt8)] })
              (ASpec Tryd.prog 46
                [AV.agg
                    [AV.int IntKind.i64 (1 : Int), AV.sl 2 (Seq.raw [[AV.str { data := #[(97 : UInt8)] }, AV.int IntKind.i64 (1000000 : Int)]]) Tip.full, AV.sl 0 (Seq.raw []) Tip.nil]]
                [AObj.cells
                    [AV.int IntKind.i64 (1 : Int), AV.sl 2 (Seq.raw [[AV.str { data := #[(97 : UInt8)] }, AV.int IntKind.i64 (1000000 : Int)]]) Tip.full, AV.sl 0 (Seq.raw []) Tip.nil]]
                fun (r : AV) (H' : List AObj) =>
                ∃ (x : List UInt8),
                  r = AV.sl 1 (Seq.map encB (0 : UInt8) x) Tip.none ∧
                    H' =
                        [AObj.cells
                            [AV.int IntKind.i64 (1 : Int), AV.sl 2 (Seq.raw [[AV.str { data := #[(97 : UInt8)] }, AV.int IntKind.i64 (1000000 : Int)]]) Tip.full,
                              AV.sl 0 (Seq.raw []) Tip.nil]] ∧
                      needP (allBytes (Seq.map encB (0 : UInt8) x))
                        (Post
                          (AV.bool
                            (ByteArray.toList (bytesOf (Seq.map encB (0 : UInt8) x)) ==
                              ByteArray.toList { data := #[(1 : UInt8), (1 : UInt8), (1 : UInt8), (97 : UInt8), (189 : UInt8), (132 : UInt8), (64 : UInt8)] }))
                          [AObj.cells
                              [AV.int IntKind.i64 (1 : Int), AV.sl 2 (Seq.raw [[AV.str { data := #[(97 : UInt8)] }, AV.int IntKind.i64 (1000000 : Int)]]) Tip.full,
                                AV.sl 0 (Seq.raw []) Tip.nil]]))
              (Post (AV.bool false)
                [AObj.cells
                    [AV.int IntKind.i64 (1 : Int), AV.sl 2 (Seq.raw [[AV.str { data := #[(97 : UInt8)] }, AV.int IntKind.i64 (1000000 : Int)]]) Tip.full,
                      AV.sl 0 (Seq.raw []) Tip.nil]])) →
    ASpec Tryd.prog 39 [] [] Post := fun Post h => Go.Ab.ASpec.of_vc g39 Go.Proofs.Tryd.func39 (by kernel_rfl) (by kernel_rfl) (by kernel_rfl) (Go.Ab.kc (by kernel_rfl) h)

-- 6
noncomputable def l82 : Nat → List Nat
  | 4 => [0, 1, 12, 13]
  | _ => []
noncomputable def u82 : Nat → Bool
  | _ => false
noncomputable def m82 : Nat → Bool
  | _ => false
noncomputable def g82 : Cfg := { N := 26, live := l82, cut := u82, mu := m82, ret := rets }
noncomputable def c82 : Go.Code := Go.Ab.bodyOf Go.Proofs.Tryd.f82
noncomputable def q82_0 : Nat → (AV → List AObj → Prop) → AQ := fun (n : Nat) (Post : AV → List AObj → Prop) => endQ Tryd.prog (resultsOf Tryd.f82) Post
noncomputable def q82_1 : Nat → (AV → List AObj → Prop) → AQ := fun (n : Nat) (Post : AV → List AObj → Prop) => seqQ (fun (s' : Slots) (H' : List AObj) => awp Tryd.prog g82 n (codeSnd (codeSnd (codeSnd c82))) s' H' (q82_0 n Post)) (q82_0 n Post)
noncomputable def q82_2 : Nat → (AV → List AObj → Prop) → AQ := fun (n : Nat) (Post : AV → List AObj → Prop) => blockQ 0 (q82_1 n Post)
noncomputable def c82_4 : Go.Code := codeFst (codeSnd (codeFst (codeSnd (codeSnd c82))))
theorem s82 : ∀ (a b : List T.Pk) (Post : AV → List AObj → Prop),
  condP ((↑(List.length a) : Int) != (↑(List.length b) : Int)) (Post (AV.bool false) [])
      (AWP Tryd.prog 26 0 c82_4
        [(0, AV.sl 2 (Seq.map T.encPk T.noPk a) Tip.none), (1, AV.sl 2 (Seq.map T.encPk T.noPk b) Tip.none), (12, AV.int IntKind.i64 (↑(List.length a) : Int)),
          (13, AV.int IntKind.i64 (0 : Int))]
        [] (q82_2 0 Post)) →
    ASpec Tryd.prog 82 [AV.sl 2 (Seq.map T.encPk T.noPk a) Tip.none, AV.sl 2 (Seq.map T.encPk T.noPk b) Tip.none] [] Post := fun a b Post h => Go.Ab.ASpec.of_vc g82 Go.Proofs.Tryd.func82 (by kernel_rfl) (by kernel_rfl) (by kernel_rfl) (Go.Ab.kc (by kernel_rfl) h)
theorem v82_4 : ∀ (a b : List T.Pk) (n i : Int) (n_1 : Nat) (Post : AV → List AObj → Prop),
  condP (decide (i < n))
      (needP ((0 : Int) ≤ i ∧ i < (↑(List.length a) : Int))
        (needP ((0 : Int) ≤ i ∧ i < (↑(List.length b) : Int))
          (condP
            (!(ByteArray.toList { data := List.toArray (Prod.fst (List.getD a (Int.toNat i) T.noPk)) } == ByteArray.toList { data := List.toArray (Prod.fst (List.getD b (Int.toNat i) T.noPk)) } &&
                (Prod.snd (List.getD a (Int.toNat i) T.noPk) == Prod.snd (List.getD b (Int.toNat i) T.noPk) && true)))
            (Post (AV.bool false) [])
            (AWP Tryd.prog 26 n_1 c82_4
              [(0, AV.sl 2 (Seq.map T.encPk T.noPk a) Tip.none), (1, AV.sl 2 (Seq.map T.encPk T.noPk b) Tip.none), (12, AV.int IntKind.i64 n),
                (13, AV.int IntKind.i64 (IntKind.wrap IntKind.i64 (i + (1 : Int))))]
              [] (q82_2 n_1 Post)))))
      (Post (AV.bool true) []) →
    AWP Tryd.prog 26 n_1 c82_4
      [(0, AV.sl 2 (Seq.map T.encPk T.noPk a) Tip.none), (1, AV.sl 2 (Seq.map T.encPk T.noPk b) Tip.none), (12, AV.int IntKind.i64 n),
        (13, AV.int IntKind.i64 i)]
      [] (q82_2 n_1 Post) := fun a b n i n Post h => Go.Ab.AWP.loop' g82 (Cfg.live g82) c82_4 (by kernel_rfl) (by kernel_rfl) (Go.Ab.kc (by kernel_rfl) h)

-- 83
noncomputable def l83 : Nat → List Nat
  | 4 => [0, 1, 12, 13]
  | _ => []
noncomputable def u83 : Nat → Bool
  | _ => false
noncomputable def m83 : Nat → Bool
  | _ => false
noncomputable def g83 : Cfg := { N := 26, live := l83, cut := u83, mu := m83, ret := rets }
noncomputable def c83 : Go.Code := Go.Ab.bodyOf Go.Proofs.Tryd.f83
noncomputable def q83_0 : Nat → (AV → List AObj → Prop) → AQ := fun (n : Nat) (Post : AV → List AObj → Prop) => endQ Tryd.prog (resultsOf Tryd.f83) Post
noncomputable def q83_1 : Nat → (AV → List AObj → Prop) → AQ := fun (n : Nat) (Post : AV → List AObj → Prop) => seqQ (fun (s' : Slots) (H' : List AObj) => awp Tryd.prog g83 n (codeSnd (codeSnd (codeSnd c83))) s' H' (q83_0 n Post)) (q83_0 n Post)
noncomputable def q83_2 : Nat → (AV → List AObj → Prop) → AQ := fun (n : Nat) (Post : AV → List AObj → Prop) => blockQ 0 (q83_1 n Post)
noncomputable def c83_4 : Go.Code := codeFst (codeSnd (codeFst (codeSnd (codeSnd c83))))
theorem s83 : ∀ (a b : List T.St) (Post : AV → List AObj → Prop),
  condP ((↑(List.length a) : Int) != (↑(List.length b) : Int)) (Post (AV.bool false) [])
      (AWP Tryd.prog 26 0 c83_4
        [(0, AV.sl 6 (Seq.map T.encSt T.noSt a) Tip.none), (1, AV.sl 6 (Seq.map T.encSt T.noSt b) Tip.none), (12, AV.int IntKind.i64 (↑(List.length a) : Int)),
          (13, AV.int IntKind.i64 (0 : Int))]
        [] (q83_2 0 Post)) →
    ASpec Tryd.prog 83 [AV.sl 6 (Seq.map T.encSt T.noSt a) Tip.none, AV.sl 6 (Seq.map T.encSt T.noSt b) Tip.none] [] Post := fun a b Post h => Go.Ab.ASpec.of_vc g83 Go.Proofs.Tryd.func83 (by kernel_rfl) (by kernel_rfl) (by kernel_rfl) (Go.Ab.kc (by kernel_rfl) h)
theorem v83_4 : ∀ (a b : List T.St) (n i : Int) (n_1 : Nat) (Post : AV → List AObj → Prop),
  condP (decide (i < n))
      (needP ((0 : Int) ≤ i ∧ i < (↑(List.length a) : Int))
        (needP ((0 : Int) ≤ i ∧ i < (↑(List.length b) : Int))
          (condP
            (!(Prod.fst (List.getD a (Int.toNat i) T.noSt) == Prod.fst (List.getD b (Int.toNat i) T.noSt) &&
                (ByteArray.toList { data := List.toArray (Prod.fst (Prod.snd (List.getD a (Int.toNat i) T.noSt))) } ==
                    ByteArray.toList { data := List.toArray (Prod.fst (Prod.snd (List.getD b (Int.toNat i) T.noSt))) } &&
                  (Prod.fst (Prod.snd (Prod.snd (List.getD a (Int.toNat i) T.noSt))) == Prod.fst (Prod.snd (Prod.snd (List.getD b (Int.toNat i) T.noSt))) &&
                    (ByteArray.toList { data := List.toArray (Prod.fst (Prod.snd (Prod.snd (Prod.snd (List.getD a (Int.toNat i) T.noSt))))) } ==
                        ByteArray.toList { data := List.toArray (Prod.fst (Prod.snd (Prod.snd (Prod.snd (List.getD b (Int.toNat i) T.noSt))))) } &&
                      (Prod.fst (Prod.snd (Prod.snd (Prod.snd (Prod.snd (List.getD a (Int.toNat i) T.noSt))))) ==
                          Prod.fst (Prod.snd (Prod.snd (Prod.snd (Prod.snd (List.getD b (Int.toNat i) T.noSt))))) &&
                        (Prod.snd (Prod.snd (Prod.snd (Prod.snd (Prod.snd (List.getD a (Int.toNat i) T.noSt))))) ==
                            Prod.snd (Prod.snd (Prod.snd (Prod.snd (Prod.snd (List.getD b (Int.toNat i) T.noSt))))) &&
                          true)))))))
            (Post (AV.bool false) [])
            (AWP Tryd.prog 26 n_1 c83_4
              [(0, AV.sl 6 (Seq.map T.encSt T.noSt a) Tip.none), (1, AV.sl 6 (Seq.map T.encSt T.noSt b) Tip.none), (12, AV.int IntKind.i64 n),
                (13, AV.int IntKind.i64 (IntKind.wrap IntKind.i64 (i + (1 : Int))))]
              [] (q83_2 n_1 Post)))))
      (Post (AV.bool true) []) →
    AWP Tryd.prog 26 n_1 c83_4
      [(0, AV.sl 6 (Seq.map T.encSt T.noSt a) Tip.none), (1, AV.sl 6 (Seq.map T.encSt T.noSt b) Tip.none), (12, AV.int IntKind.i64 n),
        (13, AV.int IntKind.i64 i)]
      [] (q83_2 n_1 Post) := fun a b n i n Post h => Go.Ab.AWP.loop' g83 (Cfg.live g83) c83_4 (by kernel_rfl) (by kernel_rfl) (Go.Ab.kc (by kernel_rfl) h)

-- 46
noncomputable def l46 : Nat → List Nat
  | 8 => [3, 24, 25, 26]
  | 14 => [3]
  | _ => []
noncomputable def u46 : Nat → Bool
  | 14 => true
  | _ => false
noncomputable def m46 : Nat → Bool
  | _ => false
noncomputable def g46 : Cfg := { N := 48, live := l46, cut := u46, mu := m46, ret := rets }
noncomputable def c46 : Go.Code := Go.Ab.bodyOf Go.Proofs.Tryd.f46
noncomputable def q46_0 : Nat → (AV → List AObj → Prop) → AQ := fun (n : Nat) (Post : AV → List AObj → Prop) => endQ Tryd.prog (resultsOf Tryd.f46) Post
noncomputable def c46_14 : Go.Code := codeSnd (codeSnd (codeSnd (codeSnd c46)))
noncomputable def q46_1 : Nat → (AV → List AObj → Prop) → AQ := fun (n : Nat) (Post : AV → List AObj → Prop) => seqQ (fun (s' : Slots) (H' : List AObj) => AWP Tryd.prog (Cfg.N g46) n c46_14 (restrict s' (Cfg.live g46 14)) H' (q46_0 n Post)) (q46_0 n Post)
noncomputable def q46_2 : Nat → (AV → List AObj → Prop) → AQ := fun (n : Nat) (Post : AV → List AObj → Prop) => blockQ 0 (q46_1 n Post)
noncomputable def q46_3 : Nat → (AV → List AObj → Prop) → AQ := fun (n : Nat) (Post : AV → List AObj → Prop) => blockQ 1 (q46_2 n Post)
noncomputable def c46_8 : Go.Code := codeFst (codeSnd (codeSnd (codeFst (codeSnd (codeFst (codeSnd (codeFst (codeSnd (codeSnd (codeSnd c46))))))))))
theorem s46 : ∀ (a : T.Ans) (Post : AV → List AObj → Prop),
  (ASpec Tryd.prog 40
      [AV.agg [AV.int IntKind.i64 (Prod.fst a), AV.sl 2 (Seq.map T.encPk T.noPk (Prod.fst (Prod.snd a))) Tip.none, AV.sl 6 (Seq.map T.encSt T.noSt (Prod.snd (Prod.snd a))) Tip.none]]
      [AObj.cells
          [AV.int IntKind.i64 (Prod.fst a), AV.sl 2 (Seq.map T.encPk T.noPk (Prod.fst (Prod.snd a))) Tip.none, AV.sl 6 (Seq.map T.encSt T.noSt (Prod.snd (Prod.snd a))) Tip.none]]
      fun (r : AV) (H' : List AObj) =>
      ∃ (x : Bool),
        r = AV.bool x ∧
          H' =
              [AObj.cells
                  [AV.int IntKind.i64 (Prod.fst a), AV.sl 2 (Seq.map T.encPk T.noPk (Prod.fst (Prod.snd a))) Tip.none,
                    AV.sl 6 (Seq.map T.encSt T.noSt (Prod.snd (Prod.snd a))) Tip.none]] ∧
            condP (!x)
              (Post (AV.sl 0 (Seq.raw []) Tip.nil)
                [AObj.cells
                    [AV.int IntKind.i64 (Prod.fst a), AV.sl 2 (Seq.map T.encPk T.noPk (Prod.fst (Prod.snd a))) Tip.none,
                      AV.sl 6 (Seq.map T.encSt T.noSt (Prod.snd (Prod.snd a))) Tip.none]])
              (ASpec Tryd.prog 90 [AV.sl 0 (Seq.raw []) Tip.nil, AV.sl 1 (Seq.raw [[AV.int IntKind.i64 (Prod.fst a)]]) Tip.full]
                [AObj.cells
                    [AV.int IntKind.i64 (Prod.fst a), AV.sl 2 (Seq.map T.encPk T.noPk (Prod.fst (Prod.snd a))) Tip.none,
                      AV.sl 6 (Seq.map T.encSt T.noSt (Prod.snd (Prod.snd a))) Tip.none]]
                fun (r : AV) (H' : List AObj) =>
                ∃ (x : List UInt8),
                  r = AV.sl 1 (Seq.map encB (0 : UInt8) x) Tip.none ∧
                    H' =
                        [AObj.cells
                            [AV.int IntKind.i64 (Prod.fst a), AV.sl 2 (Seq.map T.encPk T.noPk (Prod.fst (Prod.snd a))) Tip.none,
                              AV.sl 6 (Seq.map T.encSt T.noSt (Prod.snd (Prod.snd a))) Tip.none]] ∧
                      condP (Prod.fst a == (1 : Int))
                        (ASpec Tryd.prog 90
                          [AV.sl 1 (Seq.map encB (0 : UInt8) x) Tip.none, AV.sl 1 (Seq.raw [[AV.int IntKind.i64 (↑(List.length (Prod.fst (Prod.snd a))) : Int)]]) Tip.full]
                          [AObj.cells
                              [AV.int IntKind.i64 (Prod.fst a), AV.sl 2 (Seq.map T.encPk T.noPk (Prod.fst (Prod.snd a))) Tip.none,
                                AV.sl 6 (Seq.map T.encSt T.noSt (Prod.snd (Prod.snd a))) Tip.none]]
                          fun (r : AV) (H' : List AObj) =>
                          ∃ (x : List UInt8),
                            r = AV.sl 1 (Seq.map encB (0 : UInt8) x) Tip.none ∧
                              H' =
                                  [AObj.cells
                                      [AV.int IntKind.i64 (Prod.fst a), AV.sl 2 (Seq.map T.encPk T.noPk (Prod.fst (Prod.snd a))) Tip.none,
                                        AV.sl 6 (Seq.map T.encSt T.noSt (Prod.snd (Prod.snd a))) Tip.none]] ∧
                                AWP Tryd.prog 48 0 c46_8
                                  [(3, AV.sl 1 (Seq.map encB (0 : UInt8) x) Tip.none), (24, AV.sl 2 (Seq.map T.encPk T.noPk (Prod.fst (Prod.snd a))) Tip.none),
                                    (25, AV.int IntKind.i64 (↑(List.length (Prod.fst (Prod.snd a))) : Int)), (26, AV.int IntKind.i64 (0 : Int))]
                                  [AObj.cells
                                      [AV.int IntKind.i64 (Prod.fst a), AV.sl 2 (Seq.map T.encPk T.noPk (Prod.fst (Prod.snd a))) Tip.none,
                                        AV.sl 6 (Seq.map T.encSt T.noSt (Prod.snd (Prod.snd a))) Tip.none]]
                                  (q46_3 0 Post))
                        (condP (Prod.fst a == (2 : Int))
                          (ASpec Tryd.prog 92 [AV.sl 6 (Seq.map T.encSt T.noSt (Prod.snd (Prod.snd a))) Tip.none]
                            [AObj.cells
                                [AV.int IntKind.i64 (Prod.fst a), AV.sl 2 (Seq.map T.encPk T.noPk (Prod.fst (Prod.snd a))) Tip.none,
                                  AV.sl 6 (Seq.map T.encSt T.noSt (Prod.snd (Prod.snd a))) Tip.none]]
                            fun (r : AV) (H' : List AObj) =>
                            ∃ (x_1 : List UInt8),
                              r = AV.sl 1 (Seq.map encB (0 : UInt8) x_1) Tip.none ∧
                                H' =
                                    [AObj.cells
                                        [AV.int IntKind.i64 (Prod.fst a), AV.sl 2 (Seq.map T.encPk T.noPk (Prod.fst (Prod.snd a))) Tip.none,
                                          AV.sl 6 (Seq.map T.encSt T.noSt (Prod.snd (Prod.snd a))) Tip.none]] ∧
                                  needP (allBytes (Seq.map encB (0 : UInt8) x_1))
                                    (ASpec Tryd.prog 91 [AV.sl 1 (Seq.map encB (0 : UInt8) x) Tip.none, AV.str (bytesOf (Seq.map encB (0 : UInt8) x_1))]
                                      [AObj.cells
                                          [AV.int IntKind.i64 (Prod.fst a), AV.sl 2 (Seq.map T.encPk T.noPk (Prod.fst (Prod.snd a))) Tip.none,
                                            AV.sl 6 (Seq.map T.encSt T.noSt (Prod.snd (Prod.snd a))) Tip.none]]
                                      fun (r : AV) (H' : List AObj) =>
                                      ∃ (x : List UInt8),
                                        r = AV.sl 1 (Seq.map encB (0 : UInt8) x) Tip.none ∧
                                          H' =
                                              [AObj.cells
                                                  [AV.int IntKind.i64 (Prod.fst a), AV.sl 2 (Seq.map T.encPk T.noPk (Prod.fst (Prod.snd a))) Tip.none,
                                                    AV.sl 6 (Seq.map T.encSt T.noSt (Prod.snd (Prod.snd a))) Tip.none]] ∧
                                            AWP Tryd.prog 48 0 c46_14 [(3, AV.sl 1 (Seq.map encB (0 : UInt8) x) Tip.none)]
                                              [AObj.cells
                                                  [AV.int IntKind.i64 (Prod.fst a), AV.sl 2 (Seq.map T.encPk T.noPk (Prod.fst (Prod.snd a))) Tip.none,
                                                    AV.sl 6 (Seq.map T.encSt T.noSt (Prod.snd (Prod.snd a))) Tip.none]]
                                              (q46_0 0 Post)))
                          (AWP Tryd.prog 48 0 c46_14 [(3, AV.sl 1 (Seq.map encB (0 : UInt8) x) Tip.none)]
                            [AObj.cells
                                [AV.int IntKind.i64 (Prod.fst a), AV.sl 2 (Seq.map T.encPk T.noPk (Prod.fst (Prod.snd a))) Tip.none,
                                  AV.sl 6 (Seq.map T.encSt T.noSt (Prod.snd (Prod.snd a))) Tip.none]]
                            (q46_0 0 Post))))) →
    ASpec Tryd.prog 46 [AV.agg (T.encAn a)] [] Post := fun a Post h => Go.Ab.ASpec.of_vc g46 Go.Proofs.Tryd.func46 (by kernel_rfl) (by kernel_rfl) (by kernel_rfl) (Go.Ab.kc (by kernel_rfl) h)
theorem v46_8 : ∀ (b : List UInt8) (s : List T.Pk) (n i : Int) (n_1 : Nat) (Post : AV → List AObj → Prop),
  condP (decide (i < n))
      (needP ((0 : Int) ≤ i ∧ i < (↑(List.length s) : Int))
        (ASpec Tryd.prog 91 [AV.sl 1 (Seq.map encB (0 : UInt8) b) Tip.none, AV.str { data := List.toArray (Prod.fst (List.getD s (Int.toNat i) T.noPk)) }]
          [AObj.cells [AV.str { data := List.toArray (Prod.fst (List.getD s (Int.toNat i) T.noPk)) }, AV.int IntKind.i64 (Prod.snd (List.getD s (Int.toNat i) T.noPk))]]
          fun (r : AV) (H' : List AObj) =>
          ∃ (x : List UInt8),
            r = AV.sl 1 (Seq.map encB (0 : UInt8) x) Tip.none ∧
              H' = [AObj.cells [AV.str { data := List.toArray (Prod.fst (List.getD s (Int.toNat i) T.noPk)) }, AV.int IntKind.i64 (Prod.snd (List.getD s (Int.toNat i) T.noPk))]] ∧
                (AV.int IntKind.i64 (Prod.snd (List.getD s (Int.toNat i) T.noPk)) = AV.int IntKind.i64 (Prod.snd (List.getD s (Int.toNat i) T.noPk)) ∧
                    [AObj.cells [AV.str { data := List.toArray (Prod.fst (List.getD s (Int.toNat i) T.noPk)) }, AV.int IntKind.i64 (Prod.snd (List.getD s (Int.toNat i) T.noPk))]] =
                      [AObj.cells [AV.str { data := List.toArray (Prod.fst (List.getD s (Int.toNat i) T.noPk)) }, AV.int IntKind.i64 (Prod.snd (List.getD s (Int.toNat i) T.noPk))]]) ∧
                  ASpec Tryd.prog 90
                    [AV.sl 1 (Seq.map encB (0 : UInt8) x) Tip.none, AV.sl 1 (Seq.raw [[AV.int IntKind.i64 (Prod.snd (List.getD s (Int.toNat i) T.noPk))]]) Tip.full]
                    [AObj.cells [AV.str { data := List.toArray (Prod.fst (List.getD s (Int.toNat i) T.noPk)) }, AV.int IntKind.i64 (Prod.snd (List.getD s (Int.toNat i) T.noPk))]]
                    fun (r : AV) (H' : List AObj) =>
                    ∃ (x : List UInt8),
                      r = AV.sl 1 (Seq.map encB (0 : UInt8) x) Tip.none ∧
                        H' = [AObj.cells [AV.str { data := List.toArray (Prod.fst (List.getD s (Int.toNat i) T.noPk)) }, AV.int IntKind.i64 (Prod.snd (List.getD s (Int.toNat i) T.noPk))]] ∧
                          AWP Tryd.prog 48 n_1 c46_8
                            [(3, AV.sl 1 (Seq.map encB (0 : UInt8) x) Tip.none), (24, AV.sl 2 (Seq.map T.encPk T.noPk s) Tip.none), (25, AV.int IntKind.i64 n),
                              (26, AV.int IntKind.i64 (IntKind.wrap IntKind.i64 (i + (1 : Int))))]
                            [AObj.cells [AV.str { data := List.toArray (Prod.fst (List.getD s (Int.toNat i) T.noPk)) }, AV.int IntKind.i64 (Prod.snd (List.getD s (Int.toNat i) T.noPk))]]
                            (q46_3 n_1 Post)))
      (AWP Tryd.prog 48 n_1 c46_14 [(3, AV.sl 1 (Seq.map encB (0 : UInt8) b) Tip.none)] [] (q46_0 n_1 Post)) →
    AWP Tryd.prog 48 n_1 c46_8
      [(3, AV.sl 1 (Seq.map encB (0 : UInt8) b) Tip.none), (24, AV.sl 2 (Seq.map T.encPk T.noPk s) Tip.none), (25, AV.int IntKind.i64 n),
        (26, AV.int IntKind.i64 i)]
      [] (q46_3 n_1 Post) := fun b s n i n Post h => Go.Ab.AWP.loop' g46 (Cfg.live g46) c46_8 (by kernel_rfl) (by kernel_rfl) (Go.Ab.kc (by kernel_rfl) h)
theorem v46_14 : ∀ (b : List UInt8) (n : Nat) (Post : AV → List AObj → Prop),
  Post (AV.sl 1 (Seq.map encB (0 : UInt8) b) Tip.none) [] → AWP Tryd.prog 48 n c46_14 [(3, AV.sl 1 (Seq.map encB (0 : UInt8) b) Tip.none)] [] (q46_0 n Post) := fun b n Post h => Go.Ab.awp_sound g46 n _ _ _ _ (Go.Ab.kc (by kernel_rfl) h)

end
end An
end

section
/- Printed: what the code of functions 129, 128, 76, 126 asks for, by the framework's own reading of it; each line is checked against the code. -/

set_option linter.unusedVariables false
set_option maxRecDepth 100000
set_option maxHeartbeats 4000000
open Go Go.Ab Go.Proofs
namespace In
noncomputable section

end
end In
end

section
/- Printed: what the code of functions 126, 129, 76 asks for, by the framework's own reading of it; each line is checked against the code. -/

set_option linter.unusedVariables false
set_option maxRecDepth 100000
set_option maxHeartbeats 4000000
open Go Go.Ab Go.Proofs
namespace Inn
noncomputable section

end
end Inn
end

section
/- Printed: what the code of functions 107, 115, 50, 152, 142, 114, 59 asks for, by the framework's own reading of it; each line is checked against the code. -/

set_option linter.unusedVariables false
set_option maxRecDepth 100000
set_option maxHeartbeats 4000000
open Go Go.Ab Go.Proofs
namespace S
noncomputable section

noncomputable def retS : List (Nat × Ret) := [
  (18032, ⟨Unit, fun _ _ _ => .bool true, fun _ H _ => H⟩),
  (18033, ⟨ByteArray × List UInt8 × Int, fun _ _ x => .tup [.str x.1, .sl 1 (.map encB 0 x.2.1) .none, .int .i64 x.2.2], fun _ H _ => H⟩),
  (9045, ⟨ByteArray × ByteArray × Int, fun _ _ x => .tup [.str x.1, .str x.2.1, .int .i64 x.2.2], fun _ H _ => H⟩),
  (9262, ⟨List UInt8, fun _ _ x => .sl 1 (.map encB 0 x) .none, fun _ H _ => H⟩),
  (9325, ⟨ByteArray, fun _ _ x => .str x, fun _ H _ => H⟩),
  (59, ⟨Bool, fun _ _ x => .bool x, fun _ H _ => H⟩),
  (18090, ⟨List UInt8 × Bool, fun _ _ x => .tup [.sl 1 (.map encB 0 x.1) .none, .bool x.2], fun _ H _ => H⟩),
  (50, ⟨Bool, fun _ _ x => .bool x, fun _ H _ => H⟩),
  (9170, ⟨ByteArray × Bool, fun _ _ x => .tup [.str x.1, .bool x.2], fun _ H _ => H⟩),
  (9323, ⟨List UInt8, fun _ _ x => .sl 1 (.map encB 0 x) .none, fun _ H _ => H⟩),
  (9263, ⟨ByteArray, fun _ _ x => .str x, fun _ H _ => H⟩),
  (114, ⟨List Int, fun _ _ x => .sl 1 (.map encI 0 x) .none, fun _ H _ => H⟩),
  (115, ⟨Int, fun _ _ x => .int .i64 x, fun _ H _ => H⟩),
  (9372, ⟨Int, fun _ _ x => .int .u32 x, fun _ H _ => H⟩),
  (107, ⟨Int, fun _ _ x => .int .i64 x, fun _ H _ => H⟩),
  (9324, ⟨Int, fun _ _ x => .int .i64 x, fun _ H _ => H⟩),
  (142, ⟨Int × Int, fun _ _ x => .tup [.int .i64 x.1, .int .i64 x.2], fun _ H _ => H⟩),
  (9393, ⟨Int, fun _ _ x => .int .u32 x, fun _ H _ => H⟩),
  (9373, ⟨Int, fun _ _ x => .int .i64 x, fun _ H _ => H⟩),
  (152, ⟨Int, fun _ _ x => .int .i64 x, fun _ H _ => H⟩)]
noncomputable def rets : FuncId → List Ret := lookupR (retS ++ V.retL)

-- 107
noncomputable def l107 : Nat → List Nat
  | _ => []
noncomputable def u107 : Nat → Bool
  | _ => false
noncomputable def m107 : Nat → Bool
  | _ => false
noncomputable def g107 : Cfg := { N := 27, live := l107, cut := u107, mu := m107, ret := rets }
theorem s107 : ∀ (c : Int) (Post : AV → List AObj → Prop),
  condP (decide (c ≥ (97 : Int)))
      (condP (decide (c ≤ (122 : Int))) (Post (AV.int IntKind.i64 (0 : Int)) [])
        (condP (decide (c ≥ (945 : Int)))
         (condP (decide (c ≤ (969 : Int))) (Post (AV.int IntKind.i64 (1 : Int)) [])
         (condP (decide (c ≥ (48 : Int)))
         (condP (decide (c ≤ (57 : Int))) (Post (AV.int IntKind.i64 (2 : Int)) []) (condP (c == (45 : Int)) (Post (AV.int IntKind.i64 (3 : Int)) []) (Post (AV.int IntKind.i64 (4 : Int)) [])))
         (condP (c == (45 : Int)) (Post (AV.int IntKind.i64 (3 : Int)) []) (Post (AV.int IntKind.i64 (4 : Int)) []))))
         (condP (decide (c ≥ (48 : Int)))
         (condP (decide (c ≤ (57 : Int))) (Post (AV.int IntKind.i64 (2 : Int)) []) (condP (c == (45 : Int)) (Post (AV.int IntKind.i64 (3 : Int)) []) (Post (AV.int IntKind.i64 (4 : Int)) [])))
         (condP (c == (45 : Int)) (Post (AV.int IntKind.i64 (3 : Int)) []) (Post (AV.int IntKind.i64 (4 : Int)) [])))))
      (condP (decide (c ≥ (945 : Int)))
        (condP (decide (c ≤ (969 : Int))) (Post (AV.int IntKind.i64 (1 : Int)) [])
         (condP (decide (c ≥ (48 : Int)))
         (condP (decide (c ≤ (57 : Int))) (Post (AV.int IntKind.i64 (2 : Int)) []) (condP (c == (45 : Int)) (Post (AV.int IntKind.i64 (3 : Int)) []) (Post (AV.int IntKind.i64 (4 : Int)) [])))
         (condP (c == (45 : Int)) (Post (AV.int IntKind.i64 (3 : Int)) []) (Post (AV.int IntKind.i64 (4 : Int)) []))))
        (condP (decide (c ≥ (48 : Int)))
         (condP (decide (c ≤ (57 : Int))) (Post (AV.int IntKind.i64 (2 : Int)) []) (condP (c == (45 : Int)) (Post (AV.int IntKind.i64 (3 : Int)) []) (Post (AV.int IntKind.i64 (4 : Int)) [])))
         (condP (c == (45 : Int)) (Post (AV.int IntKind.i64 (3 : Int)) []) (Post (AV.int IntKind.i64 (4 : Int)) [])))) →
    ASpec Tryd.prog 107 [AV.int IntKind.i32 c] [] Post := fun c Post h => Go.Ab.ASpec.of_vc g107 Go.Proofs.Tryd.func107 (by kernel_rfl) (by kernel_rfl) (by kernel_rfl) (Go.Ab.kc (by kernel_rfl) h)

-- 115
noncomputable def l115 : Nat → List Nat
  | _ => []
noncomputable def u115 : Nat → Bool
  | _ => false
noncomputable def m115 : Nat → Bool
  | _ => false
noncomputable def g115 : Cfg := { N := 23, live := l115, cut := u115, mu := m115, ret := rets }
theorem s115 : ∀ (c : Int) (Post : AV → List AObj → Prop),
  condP (decide (c ≥ (97 : Int)))
      (condP (decide (c ≤ (122 : Int))) (Post (AV.int IntKind.i64 (0 : Int)) [])
        (condP (decide (c ≥ (945 : Int)))
         (condP (decide (c ≤ (969 : Int))) (Post (AV.int IntKind.i64 (1 : Int)) [])
         (condP (decide (c ≥ (48 : Int)))
         (condP (decide (c ≤ (57 : Int))) (Post (AV.int IntKind.i64 (2 : Int)) []) (condP (c == (45 : Int)) (Post (AV.int IntKind.i64 (3 : Int)) []) (Post (AV.int IntKind.i64 (4 : Int)) [])))
         (condP (c == (45 : Int)) (Post (AV.int IntKind.i64 (3 : Int)) []) (Post (AV.int IntKind.i64 (4 : Int)) []))))
         (condP (decide (c ≥ (48 : Int)))
         (condP (decide (c ≤ (57 : Int))) (Post (AV.int IntKind.i64 (2 : Int)) []) (condP (c == (45 : Int)) (Post (AV.int IntKind.i64 (3 : Int)) []) (Post (AV.int IntKind.i64 (4 : Int)) [])))
         (condP (c == (45 : Int)) (Post (AV.int IntKind.i64 (3 : Int)) []) (Post (AV.int IntKind.i64 (4 : Int)) [])))))
      (condP (decide (c ≥ (945 : Int)))
        (condP (decide (c ≤ (969 : Int))) (Post (AV.int IntKind.i64 (1 : Int)) [])
         (condP (decide (c ≥ (48 : Int)))
         (condP (decide (c ≤ (57 : Int))) (Post (AV.int IntKind.i64 (2 : Int)) []) (condP (c == (45 : Int)) (Post (AV.int IntKind.i64 (3 : Int)) []) (Post (AV.int IntKind.i64 (4 : Int)) [])))
         (condP (c == (45 : Int)) (Post (AV.int IntKind.i64 (3 : Int)) []) (Post (AV.int IntKind.i64 (4 : Int)) []))))
        (condP (decide (c ≥ (48 : Int)))
         (condP (decide (c ≤ (57 : Int))) (Post (AV.int IntKind.i64 (2 : Int)) []) (condP (c == (45 : Int)) (Post (AV.int IntKind.i64 (3 : Int)) []) (Post (AV.int IntKind.i64 (4 : Int)) [])))
         (condP (c == (45 : Int)) (Post (AV.int IntKind.i64 (3 : Int)) []) (Post (AV.int IntKind.i64 (4 : Int)) [])))) →
    ASpec Tryd.prog 115 [AV.int IntKind.i64 c] [] Post := fun c Post h => Go.Ab.ASpec.of_vc g115 Go.Proofs.Tryd.func115 (by kernel_rfl) (by kernel_rfl) (by kernel_rfl) (Go.Ab.kc (by kernel_rfl) h)

-- 50
noncomputable def l50 : Nat → List Nat
  | 3 => [3, 8]
  | _ => []
noncomputable def u50 : Nat → Bool
  | _ => false
noncomputable def m50 : Nat → Bool
  | _ => false
noncomputable def g50 : Cfg := { N := 32, live := l50, cut := u50, mu := m50, ret := rets }
noncomputable def c50 : Go.Code := Go.Ab.bodyOf Go.Proofs.Tryd.f50
noncomputable def q50_0 : Nat → (AV → List AObj → Prop) → AQ := fun (n : Nat) (Post : AV → List AObj → Prop) => endQ Tryd.prog (resultsOf Tryd.f50) Post
noncomputable def q50_1 : Nat → (AV → List AObj → Prop) → AQ := fun (n : Nat) (Post : AV → List AObj → Prop) => seqQ (fun (s' : Slots) (H' : List AObj) => awp Tryd.prog g50 n (codeSnd (codeSnd (codeSnd c50))) s' H' (q50_0 n Post)) (q50_0 n Post)
noncomputable def q50_2 : Nat → (AV → List AObj → Prop) → AQ := fun (n : Nat) (Post : AV → List AObj → Prop) => blockQ 0 (q50_1 n Post)
noncomputable def c50_3 : Go.Code := codeFst (codeSnd (codeFst (codeSnd (codeSnd c50))))
theorem s50 : ∀ (s : ByteArray) (Post : AV → List AObj → Prop),
  AWP Tryd.prog 32 0 c50_3 [(3, AV.int IntKind.i64 (0 : Int)), (8, AV.ptr 0 0)] [AObj.siter s 0] (q50_2 0 Post) →
    ASpec Tryd.prog 50 [AV.str s] [] Post := fun s Post h => Go.Ab.ASpec.of_vc g50 Go.Proofs.Tryd.func50 (by kernel_rfl) (by kernel_rfl) (by kernel_rfl) (Go.Ab.kc (by kernel_rfl) h)
theorem v50_3 : ∀ (s : ByteArray) (pos : Nat) (n : Int) (n_1 : Nat) (Post : AV → List AObj → Prop),
  condP (decide (pos < ByteArray.size s))
      (ASpec Tryd.prog 107 [AV.int IntKind.i32 (↑(Prod.fst (Utf8.decode s pos)) : Int)] [AObj.siter s (pos + Prod.snd (Utf8.decode s pos))] fun (r : AV) (H' : List AObj) =>
        ∃ (x : Int),
         r = AV.int IntKind.i64 x ∧
         H' = [AObj.siter s (pos + Prod.snd (Utf8.decode s pos))] ∧
         condP (decide (x > (3 : Int))) (Post (AV.bool false) [AObj.siter s (pos + Prod.snd (Utf8.decode s pos))])
         (condP (n == (0 : Int))
         (condP (decide (x > (1 : Int))) (Post (AV.bool false) [AObj.siter s (pos + Prod.snd (Utf8.decode s pos))])
         (condP (n == (12 : Int)) (Post (AV.bool false) [AObj.siter s (pos + Prod.snd (Utf8.decode s pos))])
         (AWP Tryd.prog 32 n_1 c50_3 [(3, AV.int IntKind.i64 (IntKind.wrap IntKind.i64 (n + (1 : Int)))), (8, AV.ptr 0 0)]
         [AObj.siter s (pos + Prod.snd (Utf8.decode s pos))] (q50_2 n_1 Post))))
         (condP (n == (12 : Int)) (Post (AV.bool false) [AObj.siter s (pos + Prod.snd (Utf8.decode s pos))])
         (AWP Tryd.prog 32 n_1 c50_3 [(3, AV.int IntKind.i64 (IntKind.wrap IntKind.i64 (n + (1 : Int)))), (8, AV.ptr 0 0)]
         [AObj.siter s (pos + Prod.snd (Utf8.decode s pos))] (q50_2 n_1 Post)))))
      (Post (AV.bool (decide (n > (0 : Int)))) [AObj.siter s pos]) →
    AWP Tryd.prog 32 n_1 c50_3 [(3, AV.int IntKind.i64 n), (8, AV.ptr 0 0)] [AObj.siter s pos] (q50_2 n_1 Post) := fun s pos n n Post h => Go.Ab.AWP.loop' g50 (Cfg.live g50) c50_3 (by kernel_rfl) (by kernel_rfl) (Go.Ab.kc (by kernel_rfl) h)

-- 152
noncomputable def l152 : Nat → List Nat
  | 5 => [0, 1, 5, 6]
  | 7 => [0, 1, 5, 6]
  | 9 => [0, 1, 5, 6]
  | 11 => [0, 1, 5, 6]
  | 12 => [0, 1, 5, 6, 7]
  | 16 => [0, 1, 5, 6]
  | _ => []
noncomputable def u152 : Nat → Bool
  | 5 => true
  | 7 => true
  | 9 => true
  | 11 => true
  | 16 => true
  | _ => false
noncomputable def m152 : Nat → Bool
  | _ => false
noncomputable def g152 : Cfg := { N := 96, live := l152, cut := u152, mu := m152, ret := rets }
noncomputable def c152 : Go.Code := Go.Ab.bodyOf Go.Proofs.Tryd.f152
noncomputable def q152_0 : Nat → (AV → List AObj → Prop) → AQ := fun (n : Nat) (Post : AV → List AObj → Prop) => endQ Tryd.prog (resultsOf Tryd.f152) Post
noncomputable def c152_5 : Go.Code := codeSnd (codeSnd (codeSnd (codeSnd c152)))
theorem s152 : ∀ (s : ByteArray) (p : Int) (Post : AV → List AObj → Prop),
  needP ((0 : Int) ≤ p ∧ p < (↑(ByteArray.size s) : Int))
      (condP (decide (IntKind.wrap IntKind.i64 (↑(UInt8.toNat (List.getD (Array.toList (ByteArray.data s)) (Int.toNat p) (0 : UInt8))) : Int) ≥ (194 : Int)))
        (condP (decide (IntKind.wrap IntKind.i64 (↑(UInt8.toNat (List.getD (Array.toList (ByteArray.data s)) (Int.toNat p) (0 : UInt8))) : Int) ≤ (223 : Int)))
         (AWP Tryd.prog 96 0 c152_5
         [(0, AV.str s), (1, AV.int IntKind.i64 p), (5, AV.int IntKind.i64 (2 : Int)),
         (6, AV.int IntKind.i64 (IntKind.wrap IntKind.i64 (↑(UInt8.toNat (List.getD (Array.toList (ByteArray.data s)) (Int.toNat p) (0 : UInt8))) : Int)))]
         [] (q152_0 0 Post))
         (AWP Tryd.prog 96 0 c152_5
         [(0, AV.str s), (1, AV.int IntKind.i64 p), (5, AV.int IntKind.i64 (0 : Int)),
         (6, AV.int IntKind.i64 (IntKind.wrap IntKind.i64 (↑(UInt8.toNat (List.getD (Array.toList (ByteArray.data s)) (Int.toNat p) (0 : UInt8))) : Int)))]
         [] (q152_0 0 Post)))
        (AWP Tryd.prog 96 0 c152_5
         [(0, AV.str s), (1, AV.int IntKind.i64 p), (5, AV.int IntKind.i64 (0 : Int)),
         (6, AV.int IntKind.i64 (IntKind.wrap IntKind.i64 (↑(UInt8.toNat (List.getD (Array.toList (ByteArray.data s)) (Int.toNat p) (0 : UInt8))) : Int)))]
         [] (q152_0 0 Post))) →
    ASpec Tryd.prog 152 [AV.str s, AV.int IntKind.i64 p] [] Post := fun s p Post h => Go.Ab.ASpec.of_vc g152 Go.Proofs.Tryd.func152 (by kernel_rfl) (by kernel_rfl) (by kernel_rfl) (Go.Ab.kc (by kernel_rfl) h)
noncomputable def c152_7 : Go.Code := codeSnd c152_5
theorem v152_5 : ∀ (s : ByteArray) (p n c : Int) (n_1 : Nat) (Post : AV → List AObj → Prop),
  condP (decide (c ≥ (224 : Int)))
      (condP (decide (c ≤ (239 : Int)))
        (AWP Tryd.prog 96 n_1 c152_7 [(0, AV.str s), (1, AV.int IntKind.i64 p), (5, AV.int IntKind.i64 (3 : Int)), (6, AV.int IntKind.i64 c)] []
         (q152_0 n_1 Post))
        (AWP Tryd.prog 96 n_1 c152_7 [(0, AV.str s), (1, AV.int IntKind.i64 p), (5, AV.int IntKind.i64 n), (6, AV.int IntKind.i64 c)] [] (q152_0 n_1 Post)))
      (AWP Tryd.prog 96 n_1 c152_7 [(0, AV.str s), (1, AV.int IntKind.i64 p), (5, AV.int IntKind.i64 n), (6, AV.int IntKind.i64 c)] [] (q152_0 n_1 Post)) →
    AWP Tryd.prog 96 n_1 c152_5 [(0, AV.str s), (1, AV.int IntKind.i64 p), (5, AV.int IntKind.i64 n), (6, AV.int IntKind.i64 c)] [] (q152_0 n_1 Post) := fun s p n c n Post h => Go.Ab.awp_sound g152 n _ _ _ _ (Go.Ab.kc (by kernel_rfl) h)
noncomputable def c152_9 : Go.Code := codeSnd c152_7
theorem v152_7 : ∀ (s : ByteArray) (p n c : Int) (n_1 : Nat) (Post : AV → List AObj → Prop),
  condP (decide (c ≥ (240 : Int)))
      (condP (decide (c ≤ (244 : Int)))
        (AWP Tryd.prog 96 n_1 c152_9 [(0, AV.str s), (1, AV.int IntKind.i64 p), (5, AV.int IntKind.i64 (4 : Int)), (6, AV.int IntKind.i64 c)] []
         (q152_0 n_1 Post))
        (AWP Tryd.prog 96 n_1 c152_9 [(0, AV.str s), (1, AV.int IntKind.i64 p), (5, AV.int IntKind.i64 n), (6, AV.int IntKind.i64 c)] [] (q152_0 n_1 Post)))
      (AWP Tryd.prog 96 n_1 c152_9 [(0, AV.str s), (1, AV.int IntKind.i64 p), (5, AV.int IntKind.i64 n), (6, AV.int IntKind.i64 c)] [] (q152_0 n_1 Post)) →
    AWP Tryd.prog 96 n_1 c152_7 [(0, AV.str s), (1, AV.int IntKind.i64 p), (5, AV.int IntKind.i64 n), (6, AV.int IntKind.i64 c)] [] (q152_0 n_1 Post) := fun s p n c n Post h => Go.Ab.awp_sound g152 n _ _ _ _ (Go.Ab.kc (by kernel_rfl) h)
noncomputable def c152_11 : Go.Code := codeSnd c152_9
theorem v152_9 : ∀ (s : ByteArray) (p n c : Int) (n_1 : Nat) (Post : AV → List AObj → Prop),
  condP (n == (0 : Int)) (Post (AV.int IntKind.i64 (0 : Int)) [])
      (condP (decide (IntKind.wrap IntKind.i64 ((↑(ByteArray.size s) : Int) - p) < n)) (Post (AV.int IntKind.i64 (0 : Int)) [])
        (AWP Tryd.prog 96 n_1 c152_11 [(0, AV.str s), (1, AV.int IntKind.i64 p), (5, AV.int IntKind.i64 n), (6, AV.int IntKind.i64 c)] [] (q152_0 n_1 Post))) →
    AWP Tryd.prog 96 n_1 c152_9 [(0, AV.str s), (1, AV.int IntKind.i64 p), (5, AV.int IntKind.i64 n), (6, AV.int IntKind.i64 c)] [] (q152_0 n_1 Post) := fun s p n c n Post h => Go.Ab.awp_sound g152 n _ _ _ _ (Go.Ab.kc (by kernel_rfl) h)
noncomputable def c152_16 : Go.Code := codeSnd c152_11
noncomputable def q152_1 : Nat → (AV → List AObj → Prop) → AQ := fun (n : Nat) (Post : AV → List AObj → Prop) => seqQ (fun (s' : Slots) (H' : List AObj) => AWP Tryd.prog (Cfg.N g152) n c152_16 (restrict s' (Cfg.live g152 16)) H' (q152_0 n Post)) (q152_0 n Post)
noncomputable def q152_2 : Nat → (AV → List AObj → Prop) → AQ := fun (n : Nat) (Post : AV → List AObj → Prop) => blockQ 0 (q152_1 n Post)
noncomputable def c152_12 : Go.Code := codeFst (codeSnd (codeFst c152_11))
theorem v152_11 : ∀ (s : ByteArray) (p n c : Int) (n_1 : Nat) (Post : AV → List AObj → Prop),
  AWP Tryd.prog 96 n_1 c152_12
      [(0, AV.str s), (1, AV.int IntKind.i64 p), (5, AV.int IntKind.i64 n), (6, AV.int IntKind.i64 c), (7, AV.int IntKind.i64 (1 : Int))] [] (q152_2 n_1 Post) →
    AWP Tryd.prog 96 n_1 c152_11 [(0, AV.str s), (1, AV.int IntKind.i64 p), (5, AV.int IntKind.i64 n), (6, AV.int IntKind.i64 c)] [] (q152_0 n_1 Post) := fun s p n c n Post h => Go.Ab.awp_sound g152 n _ _ _ _ (Go.Ab.kc (by kernel_rfl) h)
theorem v152_16 : ∀ (s : ByteArray) (p n c : Int) (n_1 : Nat) (Post : AV → List AObj → Prop),
  needP ((0 : Int) ≤ IntKind.wrap IntKind.i64 (p + (1 : Int)) ∧ IntKind.wrap IntKind.i64 (p + (1 : Int)) < (↑(ByteArray.size s) : Int))
      (condP (c == (224 : Int))
        (condP (decide (IntKind.wrap IntKind.i64 (↑(UInt8.toNat (List.getD (Array.toList (ByteArray.data s)) (Int.toNat (IntKind.wrap IntKind.i64 (p + (1 : Int)))) (0 : UInt8))) : Int) < (160 : Int)))
         (Post (AV.int IntKind.i64 (0 : Int)) [])
         (condP (c == (237 : Int))
         (condP
         (decide (IntKind.wrap IntKind.i64 (↑(UInt8.toNat (List.getD (Array.toList (ByteArray.data s)) (Int.toNat (IntKind.wrap IntKind.i64 (p + (1 : Int)))) (0 : UInt8))) : Int) > (159 : Int)))
         (Post (AV.int IntKind.i64 (0 : Int)) [])
         (condP (c == (240 : Int))
         (condP
         (decide
         (IntKind.wrap IntKind.i64 (↑(UInt8.toNat (List.getD (Array.toList (ByteArray.data s)) (Int.toNat (IntKind.wrap IntKind.i64 (p + (1 : Int)))) (0 : UInt8))) : Int) < (144 : Int)))
         (Post (AV.int IntKind.i64 (0 : Int)) [])
         (condP (c == (244 : Int))
         (condP
         (decide
         (IntKind.wrap IntKind.i64 (↑(UInt8.toNat (List.getD (Array.toList (ByteArray.data s)) (Int.toNat (IntKind.wrap IntKind.i64 (p + (1 : Int)))) (0 : UInt8))) : Int) >
         (143 : Int)))
         (Post (AV.int IntKind.i64 (0 : Int)) []) (Post (AV.int IntKind.i64 n) []))
         (Post (AV.int IntKind.i64 n) [])))
         (condP (c == (244 : Int))
         (condP
         (decide
         (IntKind.wrap IntKind.i64 (↑(UInt8.toNat (List.getD (Array.toList (ByteArray.data s)) (Int.toNat (IntKind.wrap IntKind.i64 (p + (1 : Int)))) (0 : UInt8))) : Int) > (143 : Int)))
         (Post (AV.int IntKind.i64 (0 : Int)) []) (Post (AV.int IntKind.i64 n) []))
         (Post (AV.int IntKind.i64 n) []))))
         (condP (c == (240 : Int))
         (condP
         (decide
         (IntKind.wrap IntKind.i64 (↑(UInt8.toNat (List.getD (Array.toList (ByteArray.data s)) (Int.toNat (IntKind.wrap IntKind.i64 (p + (1 : Int)))) (0 : UInt8))) : Int) < (144 : Int)))
         (Post (AV.int IntKind.i64 (0 : Int)) [])
         (condP (c == (244 : Int))
         (condP
         (decide
         (IntKind.wrap IntKind.i64 (↑(UInt8.toNat (List.getD (Array.toList (ByteArray.data s)) (Int.toNat (IntKind.wrap IntKind.i64 (p + (1 : Int)))) (0 : UInt8))) : Int) > (143 : Int)))
         (Post (AV.int IntKind.i64 (0 : Int)) []) (Post (AV.int IntKind.i64 n) []))
         (Post (AV.int IntKind.i64 n) [])))
         (condP (c == (244 : Int))
         (condP
         (decide
         (IntKind.wrap IntKind.i64 (↑(UInt8.toNat (List.getD (Array.toList (ByteArray.data s)) (Int.toNat (IntKind.wrap IntKind.i64 (p + (1 : Int)))) (0 : UInt8))) : Int) > (143 : Int)))
         (Post (AV.int IntKind.i64 (0 : Int)) []) (Post (AV.int IntKind.i64 n) []))
         (Post (AV.int IntKind.i64 n) [])))))
        (condP (c == (237 : Int))
         (condP
         (decide (IntKind.wrap IntKind.i64 (↑(UInt8.toNat (List.getD (Array.toList (ByteArray.data s)) (Int.toNat (IntKind.wrap IntKind.i64 (p + (1 : Int)))) (0 : UInt8))) : Int) > (159 : Int)))
         (Post (AV.int IntKind.i64 (0 : Int)) [])
         (condP (c == (240 : Int))
         (condP
         (decide
         (IntKind.wrap IntKind.i64 (↑(UInt8.toNat (List.getD (Array.toList (ByteArray.data s)) (Int.toNat (IntKind.wrap IntKind.i64 (p + (1 : Int)))) (0 : UInt8))) : Int) < (144 : Int)))
         (Post (AV.int IntKind.i64 (0 : Int)) [])
         (condP (c == (244 : Int))
         (condP
         (decide
         (IntKind.wrap IntKind.i64 (↑(UInt8.toNat (List.getD (Array.toList (ByteArray.data s)) (Int.toNat (IntKind.wrap IntKind.i64 (p + (1 : Int)))) (0 : UInt8))) : Int) > (143 : Int)))
         (Post (AV.int IntKind.i64 (0 : Int)) []) (Post (AV.int IntKind.i64 n) []))
         (Post (AV.int IntKind.i64 n) [])))
         (condP (c == (244 : Int))
         (condP
         (decide
         (IntKind.wrap IntKind.i64 (↑(UInt8.toNat (List.getD (Array.toList (ByteArray.data s)) (Int.toNat (IntKind.wrap IntKind.i64 (p + (1 : Int)))) (0 : UInt8))) : Int) > (143 : Int)))
         (Post (AV.int IntKind.i64 (0 : Int)) []) (Post (AV.int IntKind.i64 n) []))
         (Post (AV.int IntKind.i64 n) []))))
         (condP (c == (240 : Int))
         (condP
         (decide (IntKind.wrap IntKind.i64 (↑(UInt8.toNat (List.getD (Array.toList (ByteArray.data s)) (Int.toNat (IntKind.wrap IntKind.i64 (p + (1 : Int)))) (0 : UInt8))) : Int) < (144 : Int)))
         (Post (AV.int IntKind.i64 (0 : Int)) [])
         (condP (c == (244 : Int))
         (condP
         (decide
         (IntKind.wrap IntKind.i64 (↑(UInt8.toNat (List.getD (Array.toList (ByteArray.data s)) (Int.toNat (IntKind.wrap IntKind.i64 (p + (1 : Int)))) (0 : UInt8))) : Int) > (143 : Int)))
         (Post (AV.int IntKind.i64 (0 : Int)) []) (Post (AV.int IntKind.i64 n) []))
         (Post (AV.int IntKind.i64 n) [])))
         (condP (c == (244 : Int))
         (condP
         (decide
         (IntKind.wrap IntKind.i64 (↑(UInt8.toNat (List.getD (Array.toList (ByteArray.data s)) (Int.toNat (IntKind.wrap IntKind.i64 (p + (1 : Int)))) (0 : UInt8))) : Int) > (143 : Int)))
         (Post (AV.int IntKind.i64 (0 : Int)) []) (Post (AV.int IntKind.i64 n) []))
         (Post (AV.int IntKind.i64 n) []))))) →
    AWP Tryd.prog 96 n_1 c152_16 [(0, AV.str s), (1, AV.int IntKind.i64 p), (5, AV.int IntKind.i64 n), (6, AV.int IntKind.i64 c)] [] (q152_0 n_1 Post) := fun s p n c n Post h => Go.Ab.awp_sound g152 n _ _ _ _ (Go.Ab.kc (by kernel_rfl) h)
theorem v152_12 : ∀ (s : ByteArray) (p n c i : Int) (n_1 : Nat) (Post : AV → List AObj → Prop),
  condP (decide (i < n))
      (needP ((0 : Int) ≤ IntKind.wrap IntKind.i64 (p + i) ∧ IntKind.wrap IntKind.i64 (p + i) < (↑(ByteArray.size s) : Int))
        (condP (decide ((↑(UInt8.toNat (List.getD (Array.toList (ByteArray.data s)) (Int.toNat (IntKind.wrap IntKind.i64 (p + i))) (0 : UInt8))) : Int) < (128 : Int)))
         (Post (AV.int IntKind.i64 (0 : Int)) [])
         (needP ((0 : Int) ≤ IntKind.wrap IntKind.i64 (p + i) ∧ IntKind.wrap IntKind.i64 (p + i) < (↑(ByteArray.size s) : Int))
         (condP (decide ((↑(UInt8.toNat (List.getD (Array.toList (ByteArray.data s)) (Int.toNat (IntKind.wrap IntKind.i64 (p + i))) (0 : UInt8))) : Int) > (191 : Int)))
         (Post (AV.int IntKind.i64 (0 : Int)) [])
         (AWP Tryd.prog 96 n_1 c152_12
         [(0, AV.str s), (1, AV.int IntKind.i64 p), (5, AV.int IntKind.i64 n), (6, AV.int IntKind.i64 c),
         (7, AV.int IntKind.i64 (IntKind.wrap IntKind.i64 (i + (1 : Int))))]
         [] (q152_2 n_1 Post))))))
      (AWP Tryd.prog 96 n_1 c152_16 [(0, AV.str s), (1, AV.int IntKind.i64 p), (5, AV.int IntKind.i64 n), (6, AV.int IntKind.i64 c)] [] (q152_0 n_1 Post)) →
    AWP Tryd.prog 96 n_1 c152_12
      [(0, AV.str s), (1, AV.int IntKind.i64 p), (5, AV.int IntKind.i64 n), (6, AV.int IntKind.i64 c), (7, AV.int IntKind.i64 i)] [] (q152_2 n_1 Post) := fun s p n c i n Post h => Go.Ab.AWP.loop' g152 (Cfg.live g152) c152_12 (by kernel_rfl) (by kernel_rfl) (Go.Ab.kc (by kernel_rfl) h)

-- 142
noncomputable def l142 : Nat → List Nat
  | 9 => [0, 1, 6, 7]
  | 11 => [0, 1, 6, 7]
  | 12 => [0, 1, 6, 7, 8]
  | _ => []
noncomputable def u142 : Nat → Bool
  | 9 => true
  | 11 => true
  | _ => false
noncomputable def m142 : Nat → Bool
  | _ => false
noncomputable def g142 : Cfg := { N := 58, live := l142, cut := u142, mu := m142, ret := rets }
noncomputable def c142 : Go.Code := Go.Ab.bodyOf Go.Proofs.Tryd.f142
noncomputable def q142_0 : Nat → (AV → List AObj → Prop) → AQ := fun (n : Nat) (Post : AV → List AObj → Prop) => endQ Tryd.prog (resultsOf Tryd.f142) Post
noncomputable def c142_9 : Go.Code := codeSnd (codeSnd (codeSnd (codeSnd (codeSnd (codeSnd c142)))))
theorem s142 : ∀ (s : ByteArray) (p : Int) (Post : AV → List AObj → Prop),
  needP ((0 : Int) ≤ p ∧ p < (↑(ByteArray.size s) : Int))
      (condP (decide ((↑(UInt8.toNat (List.getD (Array.toList (ByteArray.data s)) (Int.toNat p) (0 : UInt8))) : Int) < (128 : Int)))
        (needP ((0 : Int) ≤ p ∧ p < (↑(ByteArray.size s) : Int))
         (Post (AV.tup [AV.int IntKind.i64 (IntKind.wrap IntKind.i64 (↑(UInt8.toNat (List.getD (Array.toList (ByteArray.data s)) (Int.toNat p) (0 : UInt8))) : Int)), AV.int IntKind.i64 (1 : Int)])
         []))
        (ASpec Tryd.prog 152 [AV.str s, AV.int IntKind.i64 p] [] fun (r : AV) (H' : List AObj) =>
         ∃ (x : Int),
         r = AV.int IntKind.i64 x ∧
         H' = [] ∧
         condP (x == (0 : Int)) (Post (AV.tup [AV.int IntKind.i64 (65533 : Int), AV.int IntKind.i64 (1 : Int)]) [])
         (needP ((0 : Int) ≤ p ∧ p < (↑(ByteArray.size s) : Int))
         (needP ((32 : Int) ≠ (0 : Int))
         (condP (x == (3 : Int))
         (needP ((0 : Int) ≤ p ∧ p < (↑(ByteArray.size s) : Int))
         (needP ((16 : Int) ≠ (0 : Int))
         (AWP Tryd.prog 58 0 c142_9
         [(0, AV.str s), (1, AV.int IntKind.i64 p), (6, AV.int IntKind.i64 x),
         (7,
         AV.int IntKind.i64 (Int.tmod (IntKind.wrap IntKind.i64 (↑(UInt8.toNat (List.getD (Array.toList (ByteArray.data s)) (Int.toNat p) (0 : UInt8))) : Int)) (16 : Int)))]
         [] (q142_0 0 Post))))
         (AWP Tryd.prog 58 0 c142_9
         [(0, AV.str s), (1, AV.int IntKind.i64 p), (6, AV.int IntKind.i64 x),
         (7,
         AV.int IntKind.i64 (Int.tmod (IntKind.wrap IntKind.i64 (↑(UInt8.toNat (List.getD (Array.toList (ByteArray.data s)) (Int.toNat p) (0 : UInt8))) : Int)) (32 : Int)))]
         [] (q142_0 0 Post))))))) →
    ASpec Tryd.prog 142 [AV.str s, AV.int IntKind.i64 p] [] Post := fun s p Post h => Go.Ab.ASpec.of_vc g142 Go.Proofs.Tryd.func142 (by kernel_rfl) (by kernel_rfl) (by kernel_rfl) (Go.Ab.kc (by kernel_rfl) h)
noncomputable def c142_11 : Go.Code := codeSnd c142_9
theorem v142_9 : ∀ (s : ByteArray) (p n x : Int) (n_1 : Nat) (Post : AV → List AObj → Prop),
  condP (n == (4 : Int))
      (needP ((0 : Int) ≤ p ∧ p < (↑(ByteArray.size s) : Int))
        (needP ((8 : Int) ≠ (0 : Int))
         (AWP Tryd.prog 58 n_1 c142_11
         [(0, AV.str s), (1, AV.int IntKind.i64 p), (6, AV.int IntKind.i64 n),
         (7, AV.int IntKind.i64 (Int.tmod (IntKind.wrap IntKind.i64 (↑(UInt8.toNat (List.getD (Array.toList (ByteArray.data s)) (Int.toNat p) (0 : UInt8))) : Int)) (8 : Int)))]
         [] (q142_0 n_1 Post))))
      (AWP Tryd.prog 58 n_1 c142_11 [(0, AV.str s), (1, AV.int IntKind.i64 p), (6, AV.int IntKind.i64 n), (7, AV.int IntKind.i64 x)] [] (q142_0 n_1 Post)) →
    AWP Tryd.prog 58 n_1 c142_9 [(0, AV.str s), (1, AV.int IntKind.i64 p), (6, AV.int IntKind.i64 n), (7, AV.int IntKind.i64 x)] [] (q142_0 n_1 Post) := fun s p n x n Post h => Go.Ab.awp_sound g142 n _ _ _ _ (Go.Ab.kc (by kernel_rfl) h)
noncomputable def q142_1 : Nat → (AV → List AObj → Prop) → AQ := fun (n : Nat) (Post : AV → List AObj → Prop) => seqQ (fun (s' : Slots) (H' : List AObj) => awp Tryd.prog g142 n (codeSnd c142_11) s' H' (q142_0 n Post)) (q142_0 n Post)
noncomputable def q142_2 : Nat → (AV → List AObj → Prop) → AQ := fun (n : Nat) (Post : AV → List AObj → Prop) => blockQ 0 (q142_1 n Post)
noncomputable def c142_12 : Go.Code := codeFst (codeSnd (codeFst c142_11))
theorem v142_11 : ∀ (s : ByteArray) (p n x : Int) (n_1 : Nat) (Post : AV → List AObj → Prop),
  AWP Tryd.prog 58 n_1 c142_12
      [(0, AV.str s), (1, AV.int IntKind.i64 p), (6, AV.int IntKind.i64 n), (7, AV.int IntKind.i64 x), (8, AV.int IntKind.i64 (1 : Int))] [] (q142_2 n_1 Post) →
    AWP Tryd.prog 58 n_1 c142_11 [(0, AV.str s), (1, AV.int IntKind.i64 p), (6, AV.int IntKind.i64 n), (7, AV.int IntKind.i64 x)] [] (q142_0 n_1 Post) := fun s p n x n Post h => Go.Ab.awp_sound g142 n _ _ _ _ (Go.Ab.kc (by kernel_rfl) h)
theorem v142_12 : ∀ (s : ByteArray) (p n x i : Int) (n_1 : Nat) (Post : AV → List AObj → Prop),
  condP (decide (i < n))
      (needP ((0 : Int) ≤ IntKind.wrap IntKind.i64 (p + i) ∧ IntKind.wrap IntKind.i64 (p + i) < (↑(ByteArray.size s) : Int))
        (needP ((64 : Int) ≠ (0 : Int))
         (AWP Tryd.prog 58 n_1 c142_12
         [(0, AV.str s), (1, AV.int IntKind.i64 p), (6, AV.int IntKind.i64 n),
         (7,
         AV.int IntKind.i64
         (IntKind.wrap IntKind.i64
         (IntKind.wrap IntKind.i64 (x * (64 : Int)) +
         Int.tmod (IntKind.wrap IntKind.i64 (↑(UInt8.toNat (List.getD (Array.toList (ByteArray.data s)) (Int.toNat (IntKind.wrap IntKind.i64 (p + i))) (0 : UInt8))) : Int)) (64 : Int)))),
         (8, AV.int IntKind.i64 (IntKind.wrap IntKind.i64 (i + (1 : Int))))]
         [] (q142_2 n_1 Post))))
      (Post (AV.tup [AV.int IntKind.i64 x, AV.int IntKind.i64 n]) []) →
    AWP Tryd.prog 58 n_1 c142_12
      [(0, AV.str s), (1, AV.int IntKind.i64 p), (6, AV.int IntKind.i64 n), (7, AV.int IntKind.i64 x), (8, AV.int IntKind.i64 i)] [] (q142_2 n_1 Post) := fun s p n x i n Post h => Go.Ab.AWP.loop' g142 (Cfg.live g142) c142_12 (by kernel_rfl) (by kernel_rfl) (Go.Ab.kc (by kernel_rfl) h)

-- 114
noncomputable def l114 : Nat → List Nat
  | 3 => [0, 3, 4]
  | _ => []
noncomputable def u114 : Nat → Bool
  | _ => false
noncomputable def m114 : Nat → Bool
  | _ => false
noncomputable def g114 : Cfg := { N := 25, live := l114, cut := u114, mu := m114, ret := rets }
noncomputable def c114 : Go.Code := Go.Ab.bodyOf Go.Proofs.Tryd.f114
noncomputable def q114_0 : Nat → (AV → List AObj → Prop) → AQ := fun (n : Nat) (Post : AV → List AObj → Prop) => endQ Tryd.prog (resultsOf Tryd.f114) Post
noncomputable def q114_1 : Nat → (AV → List AObj → Prop) → AQ := fun (n : Nat) (Post : AV → List AObj → Prop) => seqQ (fun (s' : Slots) (H' : List AObj) => awp Tryd.prog g114 n (codeSnd (codeSnd (codeSnd (codeSnd c114)))) s' H' (q114_0 n Post)) (q114_0 n Post)
noncomputable def q114_2 : Nat → (AV → List AObj → Prop) → AQ := fun (n : Nat) (Post : AV → List AObj → Prop) => blockQ 0 (q114_1 n Post)
noncomputable def c114_3 : Go.Code := codeFst (codeFst (codeSnd (codeSnd (codeSnd c114))))
theorem s114 : ∀ (s : ByteArray) (Post : AV → List AObj → Prop),
  AWP Tryd.prog 25 0 c114_3 [(0, AV.str s), (3, AV.sl 0 (Seq.raw []) Tip.nil), (4, AV.int IntKind.i64 (0 : Int))] [] (q114_2 0 Post) →
    ASpec Tryd.prog 114 [AV.str s] [] Post := fun s Post h => Go.Ab.ASpec.of_vc g114 Go.Proofs.Tryd.func114 (by kernel_rfl) (by kernel_rfl) (by kernel_rfl) (Go.Ab.kc (by kernel_rfl) h)
theorem v114_3 : ∀ (s : ByteArray) (l : List Int) (p : Int) (n : Nat) (Post : AV → List AObj → Prop),
  condP (decide (p < (↑(ByteArray.size s) : Int)))
      (ASpec Tryd.prog 142 [AV.str s, AV.int IntKind.i64 p] [AObj.tok] fun (r : AV) (H' : List AObj) =>
        ∃ (x : Int × Int),
         r = AV.tup [AV.int IntKind.i64 (Prod.fst x), AV.int IntKind.i64 (Prod.snd x)] ∧
         H' = [AObj.tok] ∧
         needP ((List.length l + 1) * 8 ≤ 140737488351232)
         (AWP Tryd.prog 25 n c114_3
         [(0, AV.str s), (3, AV.sl 1 (Seq.app (Seq.map encI (0 : Int) l) (Seq.raw [[AV.int IntKind.i64 (Prod.fst x)]])) (Tip.tok 1)),
         (4, AV.int IntKind.i64 (IntKind.wrap IntKind.i64 (p + Prod.snd x)))]
         [AObj.gone, AObj.tok] (q114_2 n Post)))
      (Post (AV.sl 1 (Seq.map encI (0 : Int) l) (Tip.tok 0)) [AObj.tok]) →
    AWP Tryd.prog 25 n c114_3 [(0, AV.str s), (3, AV.sl 1 (Seq.map encI (0 : Int) l) (Tip.tok 0)), (4, AV.int IntKind.i64 p)] [AObj.tok] (q114_2 n Post) := fun s l p n Post h => Go.Ab.AWP.loop' g114 (Cfg.live g114) c114_3 (by kernel_rfl) (by kernel_rfl) (Go.Ab.kc (by kernel_rfl) h)

-- 59
noncomputable def l59 : Nat → List Nat
  | 5 => [3, 4]
  | _ => []
noncomputable def u59 : Nat → Bool
  | _ => false
noncomputable def m59 : Nat → Bool
  | _ => false
noncomputable def g59 : Cfg := { N := 42, live := l59, cut := u59, mu := m59, ret := rets }
noncomputable def c59 : Go.Code := Go.Ab.bodyOf Go.Proofs.Tryd.f59
noncomputable def q59_0 : Nat → (AV → List AObj → Prop) → AQ := fun (n : Nat) (Post : AV → List AObj → Prop) => endQ Tryd.prog (resultsOf Tryd.f59) Post
noncomputable def q59_1 : Nat → (AV → List AObj → Prop) → AQ := fun (n : Nat) (Post : AV → List AObj → Prop) => seqQ (fun (s' : Slots) (H' : List AObj) => awp Tryd.prog g59 n (codeSnd (codeSnd (codeSnd (codeSnd c59)))) s' H' (q59_0 n Post)) (q59_0 n Post)
noncomputable def q59_2 : Nat → (AV → List AObj → Prop) → AQ := fun (n : Nat) (Post : AV → List AObj → Prop) => blockQ 0 (q59_1 n Post)
noncomputable def c59_5 : Go.Code := codeFst (codeSnd (codeFst (codeSnd (codeSnd (codeSnd c59)))))
theorem s59 : ∀ (s : ByteArray) (Post : AV → List AObj → Prop),
  condP (decide ((↑(ByteArray.size s) : Int) > (100 : Int))) (Post (AV.bool false) [])
      (ASpec Tryd.prog 114 [AV.str s] [] fun (r : AV) (H' : List AObj) =>
        ∃ (x : List Int),
         r = AV.sl 1 (Seq.map encI (0 : Int) x) Tip.none ∧
         H' = [] ∧
         AWP Tryd.prog 42 0 c59_5 [(3, AV.sl 1 (Seq.map encI (0 : Int) x) Tip.none), (4, AV.int IntKind.i64 (0 : Int))] [] (q59_2 0 Post)) →
    ASpec Tryd.prog 59 [AV.str s] [] Post := fun s Post h => Go.Ab.ASpec.of_vc g59 Go.Proofs.Tryd.func59 (by kernel_rfl) (by kernel_rfl) (by kernel_rfl) (Go.Ab.kc (by kernel_rfl) h)
theorem v59_5 : ∀ (l : List Int) (i : Int) (n : Nat) (Post : AV → List AObj → Prop),
  condP (decide (i < (↑(List.length l) : Int)))
      (needP ((0 : Int) ≤ i ∧ i < (↑(List.length l) : Int))
        (ASpec Tryd.prog 115 [AV.int IntKind.i64 (List.getD l (Int.toNat i) (0 : Int))] [] fun (r : AV) (H' : List AObj) =>
         ∃ (x : Int),
         r = AV.int IntKind.i64 x ∧
         H' = [] ∧
         condP (x == (4 : Int)) (Post (AV.bool false) [])
         (condP (i == (0 : Int))
         (needP ((0 : Int) ≤ i ∧ i < (↑(List.length l) : Int))
         (ASpec Tryd.prog 115 [AV.int IntKind.i64 (List.getD l (Int.toNat i) (0 : Int))] [] fun (r : AV) (H' : List AObj) =>
         ∃ (x : Int),
         r = AV.int IntKind.i64 x ∧
         H' = [] ∧
         condP (decide (x > (1 : Int))) (Post (AV.bool false) [])
         (AWP Tryd.prog 42 n c59_5
         [(3, AV.sl 1 (Seq.map encI (0 : Int) l) Tip.none), (4, AV.int IntKind.i64 (IntKind.wrap IntKind.i64 (i + (1 : Int))))] [] (q59_2 n Post))))
         (AWP Tryd.prog 42 n c59_5 [(3, AV.sl 1 (Seq.map encI (0 : Int) l) Tip.none), (4, AV.int IntKind.i64 (IntKind.wrap IntKind.i64 (i + (1 : Int))))] []
         (q59_2 n Post)))))
      (condP (decide ((↑(List.length l) : Int) ≥ (1 : Int))) (Post (AV.bool (decide ((↑(List.length l) : Int) ≤ (12 : Int)))) []) (Post (AV.bool false) [])) →
    AWP Tryd.prog 42 n c59_5 [(3, AV.sl 1 (Seq.map encI (0 : Int) l) Tip.none), (4, AV.int IntKind.i64 i)] [] (q59_2 n Post) := fun l i n Post h => Go.Ab.AWP.loop' g59 (Cfg.live g59) c59_5 (by kernel_rfl) (by kernel_rfl) (Go.Ab.kc (by kernel_rfl) h)

end
end S
end

section
/- Printed: what the code of functions 30, 130, 79, 31, 82, 124, 127, 148, 125, 75, 37, 85 asks for, by the framework's own reading of it; each line is checked against the code. -/

set_option linter.unusedVariables false
set_option maxRecDepth 100000
set_option maxHeartbeats 4000000
open Go Go.Ab Go.Proofs
namespace Dk
noncomputable section

noncomputable def rowD : List AV → Nat
  | .msl _ id _ _ :: _ => id
  | _ => 1000
noncomputable def retD : List (Nat × Ret) := [
  (30, ⟨Bool, fun _ _ x => .bool x, fun _ H _ => H⟩),
  (79, ⟨Bool, fun _ _ x => .bool x, fun _ H _ => H⟩),
  (130, ⟨Bool, fun _ _ x => .bool x, fun _ H _ => H⟩),
  (31, ⟨Bool, fun _ _ x => .bool x, fun _ H _ => H⟩),
  (9020, ⟨Bool, fun _ _ x => .bool x, fun _ H _ => H⟩),
  (82, ⟨Bool, fun _ _ x => .bool x, fun _ H _ => H⟩),
  (37, ⟨Bool, fun _ _ x => .bool x, fun _ H _ => H⟩),
  (50, ⟨Bool, fun _ _ x => .bool x, fun _ H _ => H⟩),
  (59, ⟨Bool, fun _ _ x => .bool x, fun _ H _ => H⟩),
  (71, ⟨Bool, fun _ _ x => .bool x, fun _ H _ => H⟩),
  (127, ⟨Bool, fun _ _ x => .bool x, fun _ H _ => H⟩),
  (124, ⟨Int × Bool, fun _ _ x => .tup [.int .i64 x.1, .bool x.2], fun _ H _ => H⟩),
  (9023, ⟨Int × Bool, fun _ _ x => .tup [.int .i64 x.1, .bool x.2], fun _ H _ => H⟩),
  (128, ⟨Int, fun _ _ x => .int .i64 x, fun _ H _ => H⟩),
  (148, ⟨Int, fun _ _ x => .int .i64 x, fun _ H _ => H⟩),
  (75, ⟨List T.Pk, fun _ _ x => .sl 2 (.map T.encPk T.noPk x) .none, fun _ H _ => H⟩),
  (9025, ⟨List T.Pk, fun _ _ x => .sl 2 (.map T.encPk T.noPk x) .none, fun _ H _ => H⟩),
  (76, ⟨List T.Pk, fun _ _ x => .sl 2 (.map T.encPk T.noPk x) .none, fun _ H _ => H⟩),
  (9029, ⟨List T.Pk, fun _ _ x => .sl 2 (.map T.encPk T.noPk x) .none, fun _ H _ => H⟩),
  (121, ⟨ByteArray, fun _ _ x => .str x, fun _ H _ => H⟩),
  (85, ⟨ByteArray, fun _ _ x => .str x, fun _ H _ => H⟩),
  (118, ⟨ByteArray, fun _ _ x => .str x, fun _ H _ => H⟩),
  (9017, ⟨Unit, fun _ _ _ => .bool true, fun _ H _ => H⟩),
  (9030, ⟨List T.Pk × Bool, fun _ _ x => .tup [.sl 2 (.map T.encPk T.noPk x.1) .none, .bool x.2], fun _ H _ => H⟩),
  (126, ⟨List T.Pk, fun _ H x => .msl 2 H.length 0 x.length, fun _ H x => H ++ [.arr 2 (.map T.encPk T.noPk x)]⟩),
  (126, ⟨Unit, fun _ _ _ => .sl 2 (.map T.encPk T.noPk []) .none, fun _ H _ => H⟩),
  (125, ⟨List T.Pk, fun _ _ x => .sl 2 (.map T.encPk T.noPk x) .none, fun a H _ => H.set (rowD a) .gone⟩)]
noncomputable def rets : FuncId → List Ret := lookupR retD

-- 30
noncomputable def l30 : Nat → List Nat
  | 4 => [0, 3]
  | _ => []
noncomputable def u30 : Nat → Bool
  | _ => false
noncomputable def m30 : Nat → Bool
  | _ => false
noncomputable def g30 : Cfg := { N := 20, live := l30, cut := u30, mu := m30, ret := rets }
noncomputable def c30 : Go.Code := Go.Ab.bodyOf Go.Proofs.Tryd.f30
noncomputable def q30_0 : Nat → (AV → List AObj → Prop) → AQ := fun (n : Nat) (Post : AV → List AObj → Prop) => endQ Tryd.prog (resultsOf Tryd.f30) Post
noncomputable def q30_1 : Nat → (AV → List AObj → Prop) → AQ := fun (n : Nat) (Post : AV → List AObj → Prop) => seqQ (fun (s' : Slots) (H' : List AObj) => awp Tryd.prog g30 n (codeSnd (codeSnd (codeSnd c30))) s' H' (q30_0 n Post)) (q30_0 n Post)
noncomputable def q30_2 : Nat → (AV → List AObj → Prop) → AQ := fun (n : Nat) (Post : AV → List AObj → Prop) => blockQ 0 (q30_1 n Post)
noncomputable def c30_4 : Go.Code := codeFst (codeSnd (codeFst (codeSnd (codeSnd c30))))
theorem s30 : ∀ (s : List T.Pk) (Post : AV → List AObj → Prop),
  condP (decide ((↑(List.length s) : Int) > (60 : Int))) (Post (AV.bool true) [])
      (AWP Tryd.prog 20 0 c30_4 [(0, AV.sl 2 (Seq.map T.encPk T.noPk s) Tip.none), (3, AV.int IntKind.i64 (0 : Int))] [] (q30_2 0 Post)) →
    ASpec Tryd.prog 30 [AV.sl 2 (Seq.map T.encPk T.noPk s) Tip.none] [] Post := fun s Post h => Go.Ab.ASpec.of_vc g30 Go.Proofs.Tryd.func30 (by kernel_rfl) (by kernel_rfl) (by kernel_rfl) (Go.Ab.kc (by kernel_rfl) h)
theorem v30_4 : ∀ (s : List T.Pk) (i : Int) (n : Nat) (Post : AV → List AObj → Prop),
  condP (decide (i < (↑(List.length s) : Int)))
      (needP ((0 : Int) ≤ i ∧ i < (↑(List.length s) : Int))
        (condP (decide ((↑(ByteArray.size { data := List.toArray (Prod.fst (List.getD s (Int.toNat i) T.noPk)) }) : Int) > (200 : Int))) (Post (AV.bool true) [])
         (AWP Tryd.prog 20 n c30_4 [(0, AV.sl 2 (Seq.map T.encPk T.noPk s) Tip.none), (3, AV.int IntKind.i64 (IntKind.wrap IntKind.i64 (i + (1 : Int))))] []
         (q30_2 n Post))))
      (Post (AV.bool false) []) →
    AWP Tryd.prog 20 n c30_4 [(0, AV.sl 2 (Seq.map T.encPk T.noPk s) Tip.none), (3, AV.int IntKind.i64 i)] [] (q30_2 n Post) := fun s i n Post h => Go.Ab.AWP.loop' g30 (Cfg.live g30) c30_4 (by kernel_rfl) (by kernel_rfl) (Go.Ab.kc (by kernel_rfl) h)

-- 130
noncomputable def l130 : Nat → List Nat
  | _ => []
noncomputable def u130 : Nat → Bool
  | _ => false
noncomputable def m130 : Nat → Bool
  | _ => false
noncomputable def g130 : Cfg := { N := 16, live := l130, cut := u130, mu := m130, ret := rets }
theorem s130 : ∀ (p : T.Pk) (Post : AV → List AObj → Prop),
  (ASpec Tryd.prog 50 [AV.str { data := List.toArray (Prod.fst p) }] [AObj.cells [AV.str { data := List.toArray (Prod.fst p) }, AV.int IntKind.i64 (Prod.snd p)]]
      fun (r : AV) (H' : List AObj) =>
      ∃ (x : Bool),
        r = AV.bool x ∧
         H' = [AObj.cells [AV.str { data := List.toArray (Prod.fst p) }, AV.int IntKind.i64 (Prod.snd p)]] ∧
         condP x
         (condP (decide (Prod.snd p ≥ (0 : Int)))
         (Post (AV.bool (decide (Prod.snd p < (1000000000 : Int)))) [AObj.cells [AV.str { data := List.toArray (Prod.fst p) }, AV.int IntKind.i64 (Prod.snd p)]])
         (Post (AV.bool false) [AObj.cells [AV.str { data := List.toArray (Prod.fst p) }, AV.int IntKind.i64 (Prod.snd p)]]))
         (Post (AV.bool false) [AObj.cells [AV.str { data := List.toArray (Prod.fst p) }, AV.int IntKind.i64 (Prod.snd p)]])) →
    ASpec Tryd.prog 130 [AV.agg (T.encPk p)] [] Post := fun p Post h => Go.Ab.ASpec.of_vc g130 Go.Proofs.Tryd.func130 (by kernel_rfl) (by kernel_rfl) (by kernel_rfl) (Go.Ab.kc (by kernel_rfl) h)

-- 79
noncomputable def l79 : Nat → List Nat
  | 2 => [0, 5, 6, 7]
  | _ => []
noncomputable def u79 : Nat → Bool
  | _ => false
noncomputable def m79 : Nat → Bool
  | _ => false
noncomputable def g79 : Cfg := { N := 31, live := l79, cut := u79, mu := m79, ret := rets }
noncomputable def c79 : Go.Code := Go.Ab.bodyOf Go.Proofs.Tryd.f79
noncomputable def q79_0 : Nat → (AV → List AObj → Prop) → AQ := fun (n : Nat) (Post : AV → List AObj → Prop) => endQ Tryd.prog (resultsOf Tryd.f79) Post
noncomputable def q79_1 : Nat → (AV → List AObj → Prop) → AQ := fun (n : Nat) (Post : AV → List AObj → Prop) => seqQ (fun (s' : Slots) (H' : List AObj) => awp Tryd.prog g79 n (codeSnd (codeSnd c79)) s' H' (q79_0 n Post)) (q79_0 n Post)
noncomputable def q79_2 : Nat → (AV → List AObj → Prop) → AQ := fun (n : Nat) (Post : AV → List AObj → Prop) => blockQ 0 (q79_1 n Post)
noncomputable def c79_2 : Go.Code := codeFst (codeSnd (codeFst (codeSnd c79)))
theorem s79 : ∀ (s : List T.Pk) (Post : AV → List AObj → Prop),
  AWP Tryd.prog 31 0 c79_2
      [(0, AV.sl 2 (Seq.map T.encPk T.noPk s) Tip.none), (5, AV.sl 2 (Seq.map T.encPk T.noPk s) Tip.none), (6, AV.int IntKind.i64 (↑(List.length s) : Int)),
        (7, AV.int IntKind.i64 (0 : Int))]
      [] (q79_2 0 Post) →
    ASpec Tryd.prog 79 [AV.sl 2 (Seq.map T.encPk T.noPk s) Tip.none] [] Post := fun s Post h => Go.Ab.ASpec.of_vc g79 Go.Proofs.Tryd.func79 (by kernel_rfl) (by kernel_rfl) (by kernel_rfl) (Go.Ab.kc (by kernel_rfl) h)
theorem v79_2 : ∀ (s t : List T.Pk) (n i : Int) (n_1 : Nat) (Post : AV → List AObj → Prop),
  condP (decide (i < n))
      (needP ((0 : Int) ≤ i ∧ i < (↑(List.length t) : Int))
        (ASpec Tryd.prog 130 [AV.agg [AV.str { data := List.toArray (Prod.fst (List.getD t (Int.toNat i) T.noPk)) }, AV.int IntKind.i64 (Prod.snd (List.getD t (Int.toNat i) T.noPk))]]
         [AObj.cells [AV.str { data := List.toArray (Prod.fst (List.getD t (Int.toNat i) T.noPk)) }, AV.int IntKind.i64 (Prod.snd (List.getD t (Int.toNat i) T.noPk))]]
         fun (r : AV) (H' : List AObj) =>
         ∃ (x : Bool),
         r = AV.bool x ∧
         H' = [AObj.cells [AV.str { data := List.toArray (Prod.fst (List.getD t (Int.toNat i) T.noPk)) }, AV.int IntKind.i64 (Prod.snd (List.getD t (Int.toNat i) T.noPk))]] ∧
         condP (!x)
         (Post (AV.bool false) [AObj.cells [AV.str { data := List.toArray (Prod.fst (List.getD t (Int.toNat i) T.noPk)) }, AV.int IntKind.i64 (Prod.snd (List.getD t (Int.toNat i) T.noPk))]])
         (condP (decide (i > (0 : Int)))
         (needP ((0 : Int) ≤ IntKind.wrap IntKind.i64 (i - (1 : Int)) ∧ IntKind.wrap IntKind.i64 (i - (1 : Int)) < (↑(List.length s) : Int))
         (condP
         (Op.bytesLess (ByteArray.toList { data := List.toArray (Prod.fst (List.getD t (Int.toNat i) T.noPk)) })
         (ByteArray.toList { data := List.toArray (Prod.fst (List.getD s (Int.toNat (IntKind.wrap IntKind.i64 (i - (1 : Int)))) T.noPk)) }) ||
         ByteArray.toList { data := List.toArray (Prod.fst (List.getD t (Int.toNat i) T.noPk)) } ==
         ByteArray.toList { data := List.toArray (Prod.fst (List.getD s (Int.toNat (IntKind.wrap IntKind.i64 (i - (1 : Int)))) T.noPk)) })
         (Post (AV.bool false)
         [AObj.cells [AV.str { data := List.toArray (Prod.fst (List.getD t (Int.toNat i) T.noPk)) }, AV.int IntKind.i64 (Prod.snd (List.getD t (Int.toNat i) T.noPk))]])
         (AWP Tryd.prog 31 n_1 c79_2
         [(0, AV.sl 2 (Seq.map T.encPk T.noPk s) Tip.none), (5, AV.sl 2 (Seq.map T.encPk T.noPk t) Tip.none), (6, AV.int IntKind.i64 n),
         (7, AV.int IntKind.i64 (IntKind.wrap IntKind.i64 (i + (1 : Int))))]
         [AObj.cells [AV.str { data := List.toArray (Prod.fst (List.getD t (Int.toNat i) T.noPk)) }, AV.int IntKind.i64 (Prod.snd (List.getD t (Int.toNat i) T.noPk))]]
         (q79_2 n_1 Post))))
         (AWP Tryd.prog 31 n_1 c79_2
         [(0, AV.sl 2 (Seq.map T.encPk T.noPk s) Tip.none), (5, AV.sl 2 (Seq.map T.encPk T.noPk t) Tip.none), (6, AV.int IntKind.i64 n),
         (7, AV.int IntKind.i64 (IntKind.wrap IntKind.i64 (i + (1 : Int))))]
         [AObj.cells [AV.str { data := List.toArray (Prod.fst (List.getD t (Int.toNat i) T.noPk)) }, AV.int IntKind.i64 (Prod.snd (List.getD t (Int.toNat i) T.noPk))]]
         (q79_2 n_1 Post)))))
      (Post (AV.bool true) []) →
    AWP Tryd.prog 31 n_1 c79_2
      [(0, AV.sl 2 (Seq.map T.encPk T.noPk s) Tip.none), (5, AV.sl 2 (Seq.map T.encPk T.noPk t) Tip.none), (6, AV.int IntKind.i64 n),
        (7, AV.int IntKind.i64 i)]
      [] (q79_2 n_1 Post) := fun s t n i n Post h => Go.Ab.AWP.loop' g79 (Cfg.live g79) c79_2 (by kernel_rfl) (by kernel_rfl) (Go.Ab.kc (by kernel_rfl) h)

-- 31
noncomputable def l31 : Nat → List Nat
  | 2 => [0, 3]
  | _ => []
noncomputable def u31 : Nat → Bool
  | _ => false
noncomputable def m31 : Nat → Bool
  | _ => false
noncomputable def g31 : Cfg := { N := 44, live := l31, cut := u31, mu := m31, ret := rets }
noncomputable def c31 : Go.Code := Go.Ab.bodyOf Go.Proofs.Tryd.f31
noncomputable def q31_0 : Nat → (AV → List AObj → Prop) → AQ := fun (n : Nat) (Post : AV → List AObj → Prop) => endQ Tryd.prog (resultsOf Tryd.f31) Post
noncomputable def q31_1 : Nat → (AV → List AObj → Prop) → AQ := fun (n : Nat) (Post : AV → List AObj → Prop) => seqQ (fun (s' : Slots) (H' : List AObj) => awp Tryd.prog g31 n (codeSnd (codeSnd c31)) s' H' (q31_0 n Post)) (q31_0 n Post)
noncomputable def q31_2 : Nat → (AV → List AObj → Prop) → AQ := fun (n : Nat) (Post : AV → List AObj → Prop) => blockQ 0 (q31_1 n Post)
noncomputable def c31_2 : Go.Code := codeFst (codeSnd (codeFst (codeSnd c31)))
theorem s31 : ∀ (s : List T.Pk) (Post : AV → List AObj → Prop),
  AWP Tryd.prog 44 0 c31_2 [(0, AV.sl 2 (Seq.map T.encPk T.noPk s) Tip.none), (3, AV.int IntKind.i64 (0 : Int))] [] (q31_2 0 Post) →
    ASpec Tryd.prog 31 [AV.sl 2 (Seq.map T.encPk T.noPk s) Tip.none] [] Post := fun s Post h => Go.Ab.ASpec.of_vc g31 Go.Proofs.Tryd.func31 (by kernel_rfl) (by kernel_rfl) (by kernel_rfl) (Go.Ab.kc (by kernel_rfl) h)
theorem v31_2 : ∀ (s : List T.Pk) (i : Int) (n : Nat) (Post : AV → List AObj → Prop),
  condP (decide (i < (↑(List.length s) : Int)))
      (needP ((0 : Int) ≤ i ∧ i < (↑(List.length s) : Int))
        (ASpec Tryd.prog 59 [AV.str { data := List.toArray (Prod.fst (List.getD s (Int.toNat i) T.noPk)) }] [] fun (r : AV) (H' : List AObj) =>
         ∃ (x : Bool),
         r = AV.bool x ∧
         H' = [] ∧
         condP (!x) (Post (AV.bool false) [])
         (needP ((0 : Int) ≤ i ∧ i < (↑(List.length s) : Int))
         (ASpec Tryd.prog 71 [AV.int IntKind.i64 (Prod.snd (List.getD s (Int.toNat i) T.noPk))] [] fun (r : AV) (H' : List AObj) =>
         ∃ (x : Bool),
         r = AV.bool x ∧
         H' = [] ∧
         condP (!x) (Post (AV.bool false) [])
         (condP (decide (i > (0 : Int)))
         (needP ((0 : Int) ≤ i ∧ i < (↑(List.length s) : Int))
         (needP ((0 : Int) ≤ IntKind.wrap IntKind.i64 (i - (1 : Int)) ∧ IntKind.wrap IntKind.i64 (i - (1 : Int)) < (↑(List.length s) : Int))
         (condP
         (Op.bytesLess (ByteArray.toList { data := List.toArray (Prod.fst (List.getD s (Int.toNat i) T.noPk)) })
         (ByteArray.toList { data := List.toArray (Prod.fst (List.getD s (Int.toNat (IntKind.wrap IntKind.i64 (i - (1 : Int)))) T.noPk)) }) ||
         ByteArray.toList { data := List.toArray (Prod.fst (List.getD s (Int.toNat i) T.noPk)) } ==
         ByteArray.toList { data := List.toArray (Prod.fst (List.getD s (Int.toNat (IntKind.wrap IntKind.i64 (i - (1 : Int)))) T.noPk)) })
         (Post (AV.bool false) [])
         (AWP Tryd.prog 44 n c31_2
         [(0, AV.sl 2 (Seq.map T.encPk T.noPk s) Tip.none), (3, AV.int IntKind.i64 (IntKind.wrap IntKind.i64 (i + (1 : Int))))] []
         (q31_2 n Post)))))
         (AWP Tryd.prog 44 n c31_2
         [(0, AV.sl 2 (Seq.map T.encPk T.noPk s) Tip.none), (3, AV.int IntKind.i64 (IntKind.wrap IntKind.i64 (i + (1 : Int))))] [] (q31_2 n Post)))))))
      (Post (AV.bool true) []) →
    AWP Tryd.prog 44 n c31_2 [(0, AV.sl 2 (Seq.map T.encPk T.noPk s) Tip.none), (3, AV.int IntKind.i64 i)] [] (q31_2 n Post) := fun s i n Post h => Go.Ab.AWP.loop' g31 (Cfg.live g31) c31_2 (by kernel_rfl) (by kernel_rfl) (Go.Ab.kc (by kernel_rfl) h)

-- 82
noncomputable def l82 : Nat → List Nat
  | 4 => [0, 1, 12, 13]
  | _ => []
noncomputable def u82 : Nat → Bool
  | _ => false
noncomputable def m82 : Nat → Bool
  | _ => false
noncomputable def g82 : Cfg := { N := 26, live := l82, cut := u82, mu := m82, ret := rets }
noncomputable def c82 : Go.Code := Go.Ab.bodyOf Go.Proofs.Tryd.f82
noncomputable def q82_0 : Nat → (AV → List AObj → Prop) → AQ := fun (n : Nat) (Post : AV → List AObj → Prop) => endQ Tryd.prog (resultsOf Tryd.f82) Post
noncomputable def q82_1 : Nat → (AV → List AObj → Prop) → AQ := fun (n : Nat) (Post : AV → List AObj → Prop) => seqQ (fun (s' : Slots) (H' : List AObj) => awp Tryd.prog g82 n (codeSnd (codeSnd (codeSnd c82))) s' H' (q82_0 n Post)) (q82_0 n Post)
noncomputable def q82_2 : Nat → (AV → List AObj → Prop) → AQ := fun (n : Nat) (Post : AV → List AObj → Prop) => blockQ 0 (q82_1 n Post)
noncomputable def c82_4 : Go.Code := codeFst (codeSnd (codeFst (codeSnd (codeSnd c82))))
theorem s82 : ∀ (a b : List T.Pk) (Post : AV → List AObj → Prop),
  condP ((↑(List.length a) : Int) != (↑(List.length b) : Int)) (Post (AV.bool false) [])
      (AWP Tryd.prog 26 0 c82_4
        [(0, AV.sl 2 (Seq.map T.encPk T.noPk a) Tip.none), (1, AV.sl 2 (Seq.map T.encPk T.noPk b) Tip.none), (12, AV.int IntKind.i64 (↑(List.length a) : Int)),
         (13, AV.int IntKind.i64 (0 : Int))]
        [] (q82_2 0 Post)) →
    ASpec Tryd.prog 82 [AV.sl 2 (Seq.map T.encPk T.noPk a) Tip.none, AV.sl 2 (Seq.map T.encPk T.noPk b) Tip.none] [] Post := fun a b Post h => Go.Ab.ASpec.of_vc g82 Go.Proofs.Tryd.func82 (by kernel_rfl) (by kernel_rfl) (by kernel_rfl) (Go.Ab.kc (by kernel_rfl) h)
theorem v82_4 : ∀ (a b : List T.Pk) (n i : Int) (n_1 : Nat) (Post : AV → List AObj → Prop),
  condP (decide (i < n))
      (needP ((0 : Int) ≤ i ∧ i < (↑(List.length a) : Int))
        (needP ((0 : Int) ≤ i ∧ i < (↑(List.length b) : Int))
         (condP
         (!(ByteArray.toList { data := List.toArray (Prod.fst (List.getD a (Int.toNat i) T.noPk)) } == ByteArray.toList { data := List.toArray (Prod.fst (List.getD b (Int.toNat i) T.noPk)) } &&
         (Prod.snd (List.getD a (Int.toNat i) T.noPk) == Prod.snd (List.getD b (Int.toNat i) T.noPk) && true)))
         (Post (AV.bool false) [])
         (AWP Tryd.prog 26 n_1 c82_4
         [(0, AV.sl 2 (Seq.map T.encPk T.noPk a) Tip.none), (1, AV.sl 2 (Seq.map T.encPk T.noPk b) Tip.none), (12, AV.int IntKind.i64 n),
         (13, AV.int IntKind.i64 (IntKind.wrap IntKind.i64 (i + (1 : Int))))]
         [] (q82_2 n_1 Post)))))
      (Post (AV.bool true) []) →
    AWP Tryd.prog 26 n_1 c82_4
      [(0, AV.sl 2 (Seq.map T.encPk T.noPk a) Tip.none), (1, AV.sl 2 (Seq.map T.encPk T.noPk b) Tip.none), (12, AV.int IntKind.i64 n),
        (13, AV.int IntKind.i64 i)]
      [] (q82_2 n_1 Post) := fun a b n i n Post h => Go.Ab.AWP.loop' g82 (Cfg.live g82) c82_4 (by kernel_rfl) (by kernel_rfl) (Go.Ab.kc (by kernel_rfl) h)

-- 124
noncomputable def l37 : Nat → List Nat
  | 4 => [0, 1, 5]
  | _ => []
noncomputable def u37 : Nat → Bool
  | _ => false
noncomputable def m37 : Nat → Bool
  | _ => false
noncomputable def g37 : Cfg := { N := 26, live := l37, cut := u37, mu := m37, ret := rets }
noncomputable def c37 : Go.Code := Go.Ab.bodyOf Go.Proofs.Tryd.f37
noncomputable def q37_0 : Nat → (AV → List AObj → Prop) → AQ := fun (n : Nat) (Post : AV → List AObj → Prop) => endQ Tryd.prog (resultsOf Tryd.f37) Post
noncomputable def q37_1 : Nat → (AV → List AObj → Prop) → AQ := fun (n : Nat) (Post : AV → List AObj → Prop) => seqQ (fun (s' : Slots) (H' : List AObj) => awp Tryd.prog g37 n (codeSnd (codeSnd (codeSnd c37))) s' H' (q37_0 n Post)) (q37_0 n Post)
noncomputable def q37_2 : Nat → (AV → List AObj → Prop) → AQ := fun (n : Nat) (Post : AV → List AObj → Prop) => blockQ 0 (q37_1 n Post)
noncomputable def c37_4 : Go.Code := codeFst (codeSnd (codeFst (codeSnd (codeSnd c37))))
theorem s37 : ∀ (a b : List T.Pk) (Post : AV → List AObj → Prop),
  condP ((↑(List.length a) : Int) != (↑(List.length b) : Int)) (Post (AV.bool false) [])
      (AWP Tryd.prog 26 0 c37_4
        [(0, AV.sl 2 (Seq.map T.encPk T.noPk a) Tip.none), (1, AV.sl 2 (Seq.map T.encPk T.noPk b) Tip.none), (5, AV.int IntKind.i64 (0 : Int))] []
        (q37_2 0 Post)) →
    ASpec Tryd.prog 37 [AV.sl 2 (Seq.map T.encPk T.noPk a) Tip.none, AV.sl 2 (Seq.map T.encPk T.noPk b) Tip.none] [] Post := fun a b Post h => Go.Ab.ASpec.of_vc g37 Go.Proofs.Tryd.func37 (by kernel_rfl) (by kernel_rfl) (by kernel_rfl) (Go.Ab.kc (by kernel_rfl) h)
theorem v37_4 : ∀ (a b : List T.Pk) (i : Int) (n : Nat) (Post : AV → List AObj → Prop),
  condP (decide (i < (↑(List.length a) : Int)))
      (needP ((0 : Int) ≤ i ∧ i < (↑(List.length a) : Int))
        (needP ((0 : Int) ≤ i ∧ i < (↑(List.length b) : Int))
         (condP
         (!(ByteArray.toList { data := List.toArray (Prod.fst (List.getD a (Int.toNat i) T.noPk)) } == ByteArray.toList { data := List.toArray (Prod.fst (List.getD b (Int.toNat i) T.noPk)) } &&
         (Prod.snd (List.getD a (Int.toNat i) T.noPk) == Prod.snd (List.getD b (Int.toNat i) T.noPk) && true)))
         (Post (AV.bool false) [])
         (AWP Tryd.prog 26 n c37_4
         [(0, AV.sl 2 (Seq.map T.encPk T.noPk a) Tip.none), (1, AV.sl 2 (Seq.map T.encPk T.noPk b) Tip.none),
         (5, AV.int IntKind.i64 (IntKind.wrap IntKind.i64 (i + (1 : Int))))]
         [] (q37_2 n Post)))))
      (Post (AV.bool true) []) →
    AWP Tryd.prog 26 n c37_4
      [(0, AV.sl 2 (Seq.map T.encPk T.noPk a) Tip.none), (1, AV.sl 2 (Seq.map T.encPk T.noPk b) Tip.none), (5, AV.int IntKind.i64 i)] [] (q37_2 n Post) := fun a b i n Post h => Go.Ab.AWP.loop' g37 (Cfg.live g37) c37_4 (by kernel_rfl) (by kernel_rfl) (Go.Ab.kc (by kernel_rfl) h)

-- 85
end
end Dk
end

section
/- The plain law of numbers as bytes. -/

namespace V

/-- the digits that go on -/
def lead (v : Nat) : List UInt8 := if _h : v = 0 then [] else lead (v / 128) ++ [UInt8.ofNat (128 + v % 128)]
  termination_by v
  decreasing_by omega

def enc (v : Nat) : List UInt8 := lead (v / 128) ++ [UInt8.ofNat (v % 128)]

theorem lead_zero : lead 0 = [] := by rw [lead]; simp
theorem lead_pos {v : Nat} (h : 0 < v) : lead v = lead (v / 128) ++ [UInt8.ofNat (128 + v % 128)] := by rw [lead, dif_neg (by omega)]

/-- a number that is held -/
def held (x : Int) : Nat := (min (max x 0) 1099511627776).toNat

theorem held_le (x : Int) : held x ≤ 1099511627776 := by unfold held; omega
theorem held_of {x : Int} (h0 : 0 ≤ x) (h1 : x ≤ 1099511627776) : (held x : Int) = x := by unfold held; omega

/-- digits from the j-th down to the first -/
def down (v : Nat) : Nat → List UInt8
  | 0 => []
  | j + 1 => UInt8.ofNat (128 + v / 128 ^ (j + 1) % 128) :: down v j

theorem down_succ (v : Nat) : ∀ j, down v (j + 1) = down (v / 128) j ++ [UInt8.ofNat (128 + v / 128 % 128)]
  | 0 => by simp [down]
  | j + 1 => by
    rw [down, down_succ v j, down]
    have : v / 128 ^ (j + 1 + 1) = v / 128 / 128 ^ (j + 1) := by rw [Nat.div_div_eq_div_mul, Nat.pow_succ 128 (j + 1), Nat.mul_comm]
    rw [this]; rfl

theorem down_lead : ∀ (j v : Nat), v / 128 ^ j < 128 → (j = 0 ∨ 128 ^ j ≤ v) → down v j = lead (v / 128)
  | 0, v, h, _ => by
    have : v / 128 = 0 := by simp at h; omega
    rw [this, lead_zero]; rfl
  | j + 1, v, h, hj => by
    have hv : 128 ^ (j + 1) ≤ v := by rcases hj with e | e; · cases e
                                      · exact e
    have hp : 0 < 128 ^ j := Nat.pos_of_ne_zero (by simp)
    have h128 : 128 ≤ v := Nat.le_trans (by rw [Nat.pow_succ]; omega) hv
    rw [down_succ, lead_pos (by omega : 0 < v / 128)]
    congr 1
    refine down_lead j (v / 128) ?_ (.inr ?_)
    · rw [Nat.div_div_eq_div_mul, Nat.mul_comm, ← Nat.pow_succ]; exact h
    · rw [Nat.le_div_iff_mul_le (by omega), ← Nat.pow_succ]; exact hv

theorem lead_length : ∀ (k v : Nat), v < 128 ^ k → (lead v).length ≤ k
  | 0, v, h => by
    have : v = 0 := by simp at h; omega
    subst this; simp [lead_zero]
  | k + 1, v, h => by
    rcases Nat.eq_zero_or_pos v with e | e
    · subst e; simp [lead_zero]
    · rw [lead_pos e]
      have := lead_length k (v / 128) (by rw [Nat.div_lt_iff_lt_mul (by omega), ← Nat.pow_succ]; exact h)
      simp; omega

theorem enc_length (v : Nat) (h : v ≤ 1099511627776) : (enc v).length ≤ 6 := by
  have := lead_length 5 (v / 128) (by omega)
  simp [enc]; omega

end V
end

section
/- vlq.Put: what it computes. -/

set_option linter.unusedVariables false
set_option linter.unusedSimpArgs false
open Go Go.Ab Go.Proofs
namespace V

def big : Nat := 140737488351232

theorem tdivN (a b : Nat) : Int.tdiv (a : Int) (b : Int) = ((a / b : Nat) : Int) := by rfl
theorem tmodN (a b : Nat) : Int.tmod (a : Int) (b : Int) = ((a % b : Nat) : Int) := by rfl

theorem selTok : Sel 0 [1] [AObj.gone, AObj.tok] [AObj.tok] := Sel.one 1 rfl rfl

theorem leApp {l : List UInt8} {x : List AV} {b : UInt8} {H : List AObj} (hx : x = encB b) : Le (.sl 1 (.app (.map encB 0 l) (.raw [x])) (.tok 1)) (AV.ren (selR [1] H.length) (.sl 1 (.map encB 0 (l ++ [b])) (.tok 0))) := by
  refine Le.sl ?_ (.inl rfl) (.inl rfl)
  subst hx
  simp [Seq.toList, Seq.ren, encB, renL, AV.ren]

theorem put9 {ns : List Int} {k : Nat} {i : Int} {Post : AV → List AObj → Prop} {v : Nat} (hv : v ≤ 1099511627776) (hi : 0 ≤ i) (hi2 : i < 9223372036854775807) : ∀ (j : Nat) (l : List UInt8), j ≤ 6 → l.length + j + 1 ≤ big →
    AWP Tryd.prog 48 0 c90_3 [(5, .sl 1 (.map encB 0 (l ++ down v j ++ [UInt8.ofNat (v % 128)])) (.tok 0)), (12, .sl 1 (.map encI 0 ns) .none), (13, .int .i64 k), (14, .int .i64 (i + 1))] [.tok] (q90_2 0 Post) →
    AWP Tryd.prog 48 0 c90_9 [(5, .sl 1 (.map encB 0 l) (.tok 0)), (7, .int .i64 v), (8, .int .i64 ((128 ^ j : Nat) : Int)), (12, .sl 1 (.map encI 0 ns) .none), (13, .int .i64 k), (14, .int .i64 i)] [.tok] (q90_9 0 Post)
  | 0, l, _, hl, h => by
    refine v90_9 _ _ _ _ _ _ _ _ _ (condD (fun h => by simp at h) fun _ => needJ (by decide) (needJ (by unfold big at hl; omega) ?_))
    refine AWP.shape [1] _ _ selTok ?_ h
    rw [wrap64 (x := i + 1) (by omega) (by omega)]
    refine ⟨rfl, ?_, rfl, ?_, rfl, Le.refl _, rfl, Le.refl _, trivial⟩
    · have : l ++ down v 0 ++ [UInt8.ofNat (v % 128)] = l ++ [UInt8.ofNat (v % 128)] := by simp [down]
      rw [this]
      refine leApp ?_
      rw [show (128 : Int) = ((128 : Nat) : Int) from rfl, tmodN, wrapU8, Int.emod_eq_of_lt (by omega) (by omega)]
      rw [encB_ofNat (by omega) (by omega)]
      rfl
    · exact Le.refl _
  | j + 1, l, hj, hl, h => by
    have hw : (128 : Nat) ^ (j + 1) ≤ 128 ^ 6 := Nat.pow_le_pow_right (by omega) hj
    have hw6 : (128 : Nat) ^ 6 = 4398046511104 := by decide
    have hw1 : 0 < (128 : Nat) ^ j := Nat.pos_of_ne_zero (by simp)
    refine v90_9 _ _ _ _ _ _ _ _ _ (condD (fun _ => needJ ?_ (needJ (by decide) (needJ (by unfold big at hl; omega) (needJ (by decide) ?_)))) (fun hn => ?_))
    · rw [Nat.pow_succ]; omega
    · have hd : v / 128 ^ (j + 1) ≤ v := Nat.div_le_self _ _
      have hq : ((128 ^ (j + 1) : Nat) : Int).tdiv 128 = ((128 ^ j : Nat) : Int) := by
        rw [show (128 : Int) = ((128 : Nat) : Int) from rfl, tdivN, Nat.pow_succ, Nat.mul_div_cancel _ (by omega)]
      rw [hq, wrap64 (x := ((128 ^ j : Nat) : Int)) (by omega) (by rw [Nat.pow_succ] at hw; omega)]
      refine AWP.shape [1] _ _ selTok ?_ (put9 (ns := ns) (k := k) hv hi hi2 j (l ++ [UInt8.ofNat (128 + v / 128 ^ (j + 1) % 128)]) (by omega) (by simp; omega) ?_)
      · refine ⟨rfl, leApp ?_, rfl, Le.refl _, rfl, Le.refl _, rfl, ?_, rfl, Le.refl _, rfl, Le.refl _, trivial⟩
        · rw [tdivN, wrapN (Nat.le_trans hd (by omega)), show (128 : Int) = ((128 : Nat) : Int) from rfl, tmodN, wrap64 (by omega) (by omega), wrapU8,
            Int.emod_eq_of_lt (by omega) (by omega), encB_ofNat (by omega) (by omega)]
          congr 2
        · exact Le.refl _
      · simpa [down] using h
    · rw [Nat.pow_succ] at hn; omega

theorem put7 {ns : List Int} {k : Nat} {i : Int} {Post : AV → List AObj → Prop} {v : Nat} (hv : v ≤ 1099511627776) (hi : 0 ≤ i) (hi2 : i < 9223372036854775807) (l : List UInt8) (hl : l.length + 7 ≤ big)
    (h : AWP Tryd.prog 48 0 c90_3 [(5, .sl 1 (.map encB 0 (l ++ enc v)) (.tok 0)), (12, .sl 1 (.map encI 0 ns) .none), (13, .int .i64 k), (14, .int .i64 (i + 1))] [.tok] (q90_2 0 Post)) : ∀ (m j : Nat), m + j = 6 → (j = 0 ∨ 128 ^ j ≤ v) →
    AWP Tryd.prog 48 0 c90_7 [(5, .sl 1 (.map encB 0 l) (.tok 0)), (7, .int .i64 v), (8, .int .i64 ((128 ^ j : Nat) : Int)), (12, .sl 1 (.map encI 0 ns) .none), (13, .int .i64 k), (14, .int .i64 i)] [.tok] (q90_7 0 Post) := by
  intro m
  induction m with
  | zero =>
    intro j hm hj
    have : j = 6 := by omega
    subst this
    rcases hj with e | e
    · cases e
    · have : (128 : Nat) ^ 6 = 4398046511104 := by decide
      omega
  | succ m ih =>
    intro j hm hj
    have hw : (128 : Nat) ^ j ≤ 128 ^ 5 := Nat.pow_le_pow_right (by omega) (by omega)
    have hw5 : (128 : Nat) ^ 5 = 34359738368 := by decide
    have hw1 : 0 < (128 : Nat) ^ j := Nat.pos_of_ne_zero (by simp)
    have hd : v / 128 ^ j ≤ v := Nat.div_le_self _ _
    refine v90_7 _ _ _ _ _ _ _ _ _ (needJ (by omega) (condD (fun hc => ?_) (fun hc => ?_)))
    · rw [tdivN, wrapN (Nat.le_trans hd (by omega))] at hc
      have e : ((128 ^ j : Nat) : Int) * 128 = ((128 ^ (j + 1) : Nat) : Int) := by rw [Nat.pow_succ]; simp
      rw [e, wrap64 (by omega) (by rw [Nat.pow_succ]; omega)]
      refine ih (j + 1) (by omega) (.inr ?_)
      have : 128 ≤ v / 128 ^ j := by omega
      rw [Nat.le_div_iff_mul_le hw1] at this
      rw [Nat.pow_succ, Nat.mul_comm]; exact this
    · rw [tdivN, wrapN (Nat.le_trans hd (by omega))] at hc
      refine put9 hv hi hi2 j l (by omega) (by omega) ?_
      rw [down_lead j v (by omega) hj, List.append_assoc]
      exact h

def putM (bs : List UInt8) (ns : List Int) : List UInt8 := bs ++ ns.flatMap fun x => enc (held x)

theorem clamp_held (x : Int) : (if 1099511627776 < if 0 > x then 0 else x then 1099511627776 else if 0 > x then 0 else x) = ((held x : Nat) : Int) := by
  unfold held
  by_cases h : 0 > x
  · simp only [if_pos h]; omega
  · simp only [if_neg h]
    split <;> omega

theorem put3 {ns : List Int} {Post : AV → List AObj → Prop} (hns : ns.length ≤ big) : ∀ (m i : Nat) (l : List UInt8), m + i = ns.length → l.length + 7 * m ≤ big →
    Post (.sl 1 (.map encB 0 (l ++ (ns.drop i).flatMap fun x => enc (held x))) (.tok 0)) [.tok] →
    AWP Tryd.prog 48 0 c90_3 [(5, .sl 1 (.map encB 0 l) (.tok 0)), (12, .sl 1 (.map encI 0 ns) .none), (13, .int .i64 ns.length), (14, .int .i64 i)] [.tok] (q90_2 0 Post) := by
  intro m
  unfold big at hns
  induction m with
  | zero =>
    intro i l hm hl h
    refine v90_3 _ _ _ _ _ _ _ (condD (fun hc => by omega) fun hc => ?_)
    rw [List.drop_eq_nil_of_le (by omega)] at h
    simpa using h
  | succ m ih =>
    intro i l hm hl h
    refine v90_3 _ _ _ _ _ _ _ (condD (fun hc => needJ (by omega) ?_) fun hc => by omega)
    rw [Int.toNat_natCast, clamp_held]
    have hh := held_le (ns.getD i 0)
    refine put7 hh (by omega) (by omega) l (by omega) ?_ 6 0 rfl (.inl rfl)
    have hel := enc_length (held (ns.getD i 0)) hh
    refine ih (i + 1) _ (by omega) (by rw [List.length_append]; omega) ?_
    have hg : ns.drop i = ns.getD i 0 :: ns.drop (i + 1) := by
      rw [List.drop_eq_getElem_cons (by omega)]
      simp [List.getD, List.getElem?_eq_getElem (show i < ns.length by omega)]
    rw [hg] at h
    simpa using h

theorem put_spec (bs : List UInt8) (ns : List Int) (hb : bs.length + 7 * ns.length ≤ big) (H : List AObj) :
    ASpec Tryd.prog 90 [.sl 1 (.map encB 0 bs) .none, .sl 1 (.map encI 0 ns) .none] H (fun r H' => r = .sl 1 (.map encB 0 (putM bs ns)) (.tok H.length) ∧ H' = H ++ [.tok]) := by
  refine ASpec.anyH (args := [.sl 1 (.map encB 0 bs) .none, .sl 1 (.map encI 0 ns) .none]) (r0 := .sl 1 (.map encB 0 (putM bs ns)) (.tok 0)) (Hl := [.tok]) H ?_ _ _ _ rfl rfl rfl
  refine s90 _ _ _ _ _ (needJ oneB (needJ (by unfold big at hb; omega) ?_))
  refine AWP.spell _ ?_ (put3 (ns := ns) (by omega) ns.length 0 bs (by omega) (by omega) ⟨rfl, rfl⟩)
  exact ⟨rfl, Le.sl (by simp [Seq.toList]) (.inl rfl) (.inl rfl), rfl, Le.refl _, rfl, Le.refl _, rfl, Le.refl _, trivial⟩

end V
end

section
/- The reader of bytes: what its methods compute. -/

set_option linter.unusedVariables false
set_option linter.unusedSimpArgs false
open Go Go.Ab Go.Proofs
namespace V

def scan : Nat → List UInt8 → Nat → Nat → Int ⊕ (Nat × Nat)
  | 0, _, _, _ => .inl 4
  | _ + 1, [], _, _ => .inl 2
  | f + 1, c :: s, x, i => if 128 ≤ c.toNat then scan f s (x * 128 + c.toNat % 128) (i + 1) else .inr (x * 128 + c.toNat % 128, i + 1)

/-- the number ahead, how many bytes it has, and what is wrong -/
def lookM (s : List UInt8) (most : Int) : Int × Nat × Int :=
  match s with
  | [] => (0, 0, 2)
  | c :: _ => if c = 128 then (0, 0, 3) else match scan 6 s 0 0 with
    | .inl e => (0, 0, e)
    | .inr (n, k) => if (n : Int) > min most 1099511627776 then (0, 0, 4) else (n, k, 0)

theorem getD_drop (bs : List UInt8) (q : Nat) (h : q < bs.length) : bs.drop q = bs.getD q 0 :: bs.drop (q + 1) := by
  rw [List.drop_eq_getElem_cons h]
  simp [List.getD, List.getElem?_eq_getElem h]

def peekP (bs : List UInt8) (p : Nat) (most : Int) (Post : AV → List AObj → Prop) : Int ⊕ (Nat × Nat) → Prop
  | .inl e => Post (.tup [.int .i64 0, .int .i64 p]) [rd bs p e]
  | .inr (n, k) => if (n : Int) > min most 1099511627776 then Post (.tup [.int .i64 0, .int .i64 p]) [rd bs p 4] else Post (.tup [.int .i64 n, .int .i64 (p + k : Nat)]) [rd bs p 0]

theorem min_if (most : Int) : (if 1099511627776 < most then 1099511627776 else most) = min most 1099511627776 := by
  split <;> omega

theorem peek9 {bs : List UInt8} {p : Nat} {most : Int} {Post : AV → List AObj → Prop} (hb : bs.length ≤ big) (hp : p ≤ bs.length) : ∀ (f i x : Nat), f + i = 6 → p + i ≤ bs.length → x < 128 ^ i →
    peekP bs p most Post (scan f (bs.drop (p + i)) x i) →
    AWP Tryd.prog 113 1 c135_9 [(0, .ptr 0 0), (1, .int .i64 most), (6, .int .i64 x), (44, .int .i64 i)] [rd bs p 0] (q135_2 1 Post) := by
  intro f
  unfold big at hb
  induction f with
  | zero =>
    intro i x hf hpi hx h
    refine v135_9 _ _ _ _ _ _ _ _ (condD (fun hc => by omega) fun hc => ⟨⟨rfl, rfl⟩, h⟩)
  | succ f ih =>
    intro i x hf hpi hx h
    have hi6 : (128 : Nat) ^ i ≤ 128 ^ 5 := Nat.pow_le_pow_right (by omega) (by omega)
    have h5 : (128 : Nat) ^ 5 = 34359738368 := by decide
    have hwp : IntKind.wrap .i64 ((p : Int) + i) = ((p + i : Nat) : Int) := by rw [wrap64 (by omega) (by omega)]; simp
    refine v135_9 _ _ _ _ _ _ _ _ (condD (fun hc => ?_) fun hc => by omega)
    rw [hwp]
    refine condE (fun he => ?_) fun he => ?_
    · have he : p + i = bs.length := by omega
      refine ⟨⟨rfl, rfl⟩, ?_⟩
      rw [List.drop_eq_nil_of_le (by omega)] at h
      exact h
    · have he : p + i ≠ bs.length := by omega
      refine needJ (by omega) (needJ (by decide) ?_)
      rw [Int.toNat_natCast]
      rw [getD_drop bs (p + i) (by omega)] at h
      generalize bs.getD (p + i) 0 = c at h ⊢
      have hc8 : c.toNat < 256 := c.toNat_lt
      have hwc : IntKind.wrap .i64 (c.toNat : Int) = (c.toNat : Int) := wrapN (by omega)
      have hx1 : IntKind.wrap .i64 (IntKind.wrap .i64 ((x : Int) * 128) + (c.toNat : Int).tmod 128) = ((x * 128 + c.toNat % 128 : Nat) : Int) := by
        rw [show (128 : Int) = ((128 : Nat) : Int) from rfl, tmodN, wrap64 (x := (x : Int) * ((128 : Nat) : Int)) (by omega) (by omega), wrap64 (by omega) (by omega)]
        simp
      rw [hwc, hx1]
      simp only [scan] at h
      refine condD (fun hg => ?_) fun hg => ?_
      · rw [if_pos (by omega)] at h
        rw [show IntKind.wrap .i64 ((i : Int) + 1) = ((i + 1 : Nat) : Int) by rw [wrap64 (by omega) (by omega)]; simp]
        refine ih (i + 1) _ (by omega) (by omega) ?_ ?_
        · rw [Nat.pow_succ]; omega
        · exact h
      · rw [if_neg (by omega)] at h
        simp only [peekP] at h
        rw [min_if]
        refine condD (fun hm => ?_) fun hm => ?_
        · rw [if_pos hm] at h
          exact ⟨⟨rfl, rfl⟩, h⟩
        · rw [if_neg hm] at h
          rw [show IntKind.wrap .i64 (((p + i : Nat) : Int) + 1) = ((p + (i + 1) : Nat) : Int) by rw [wrap64 (by omega) (by omega)]; omega]
          exact ⟨⟨rfl, rfl⟩, h⟩

theorem peek_spec {bs : List UInt8} {p : Nat} (most : Int) (hb : bs.length ≤ big) (hp : p ≤ bs.length) :
    ASpec Tryd.prog 135 [.ptr 0 0, .int .i64 most] [rd bs p 0] (fun r H' => r = .tup [.int .i64 (lookM (bs.drop p) most).1, .int .i64 (p + (lookM (bs.drop p) most).2.1 : Nat)] ∧ H' = [rd bs p (lookM (bs.drop p) most).2.2]) := by
  refine s135 _ _ _ _ _ (condE (fun he => ?_) fun he => ?_)
  · have he : p = bs.length := by omega
    rw [List.drop_eq_nil_of_le (by omega)]
    exact ⟨⟨rfl, rfl⟩, rfl, rfl⟩
  · have he : p ≠ bs.length := by omega
    refine needJ (by omega) ?_
    rw [Int.toNat_natCast]
    have hd := getD_drop bs p (by omega)
    refine condE (fun h1 => ?_) fun h1 => ?_
    · have h1 : (bs.getD p 0) = 128 := by
        have : (bs.getD p 0).toNat = 128 := by omega
        exact UInt8.toNat_inj.1 this
      have e : lookM (bs.drop p) most = (0, 0, 3) := by rw [hd]; simp only [lookM, if_pos h1]
      rw [e]
      exact ⟨⟨rfl, rfl⟩, rfl, rfl⟩
    · have h1 : (bs.getD p 0) ≠ 128 := by
        intro e
        rw [e] at h1
        exact h1 rfl
      refine peek9 hb hp 6 0 0 rfl (by omega) (by simp) ?_
      rw [Nat.add_zero]
      have e : lookM (bs.drop p) most = match scan 6 (bs.drop p) 0 0 with
        | .inl e => (0, 0, e)
        | .inr (n, k) => if (n : Int) > min most 1099511627776 then (0, 0, 4) else (n, k, 0) := by
        rw [hd]; simp only [lookM, if_neg h1]
      rw [e]
      cases scan 6 (bs.drop p) 0 0 with
      | inl er => exact ⟨rfl, rfl⟩
      | inr nk =>
        obtain ⟨n, k⟩ := nk
        simp only [peekP]
        split
        · exact ⟨rfl, rfl⟩
        · exact ⟨rfl, rfl⟩

theorem scan_le : ∀ (f : Nat) (s : List UInt8) (x i n k : Nat), scan f s x i = .inr (n, k) → i < k ∧ k ≤ i + s.length
  | 0, s, x, i, n, k, h => by simp [scan] at h
  | f + 1, [], x, i, n, k, h => by simp [scan] at h
  | f + 1, c :: s, x, i, n, k, h => by
    simp only [scan] at h
    split at h
    · have := scan_le f s _ _ _ _ h
      simp; omega
    · simp at h
      simp; omega

theorem lookM_le (s : List UInt8) (most : Int) : (lookM s most).2.1 ≤ s.length ∧ 0 ≤ (lookM s most).1 ∧ (lookM s most).1 ≤ 1099511627776 ∧ ((lookM s most).2.2 ≠ 0 → (lookM s most).1 = 0 ∧ (lookM s most).2.1 = 0) := by
  cases s with
  | nil => simp [lookM]
  | cons c s =>
    simp only [lookM]
    split
    · simp
    · split
      · simp
      · rename_i n k hs
        have := scan_le _ _ _ _ _ _ hs
        split
        · simp
        · refine ⟨?_, by simp, ?_, by simp⟩
          · show k ≤ _
            omega
          · show (n : Int) ≤ _
            omega

/-- a reader's next number: the answer, the place, the error -/
def numM (bs : List UInt8) (p : Nat) (e most : Int) : Int × Nat × Int :=
  if e ≠ 0 then (0, p, e) else ((lookM (bs.drop p) most).1, p + (lookM (bs.drop p) most).2.1, (lookM (bs.drop p) most).2.2)

def strM (bs : List UInt8) (p : Nat) (e most : Int) : List UInt8 × Nat × Int :=
  if e ≠ 0 then ([], p, e) else
    if (lookM (bs.drop p) most).2.2 ≠ 0 then ([], p, (lookM (bs.drop p) most).2.2) else
    if (lookM (bs.drop p) most).1 > (bs.length : Int) - ((p + (lookM (bs.drop p) most).2.1 : Nat) : Int) then ([], p, 2) else
      ((bs.drop (p + (lookM (bs.drop p) most).2.1)).take (lookM (bs.drop p) most).1.toNat, p + (lookM (bs.drop p) most).2.1 + (lookM (bs.drop p) most).1.toNat, 0)

theorem num_spec0 {bs : List UInt8} {p : Nat} (e most : Int) (hb : bs.length ≤ big) (hp : p ≤ bs.length) :
    ASpec Tryd.prog 94 [.ptr 0 0, .int .i64 most] [rd bs p e] (fun r H' => r = .int .i64 (numM bs p e most).1 ∧ H' = [rd bs (numM bs p e most).2.1 (numM bs p e most).2.2]) := by
  refine s94 _ _ _ _ _ (condNe (fun he => ?_) fun he => ?_)
  · rw [show numM bs p e most = (0, p, e) by simp only [numM, if_pos he]]
    exact ⟨rfl, rfl⟩
  · subst he
    rw [show numM bs p 0 most = ((lookM (bs.drop p) most).1, p + (lookM (bs.drop p) most).2.1, (lookM (bs.drop p) most).2.2) by simp [numM]]
    refine ASpec.call (peek_spec most hb hp) (Les.refl _) ⟨(_, _, _, _), rfl, rfl, rfl, rfl⟩

theorem str_spec0 {bs : List UInt8} {p : Nat} (e most : Int) (hb : bs.length ≤ big) (hp : p ≤ bs.length) :
    ASpec Tryd.prog 96 [.ptr 0 0, .int .i64 most] [rd bs p e] (fun r H' => r = .str ⟨(strM bs p e most).1.toArray⟩ ∧ H' = [rd bs (strM bs p e most).2.1 (strM bs p e most).2.2]) := by
  refine s96 _ _ _ _ _ (condNe (fun he => ?_) fun he => ?_)
  · rw [show strM bs p e most = ([], p, e) by simp only [strM, if_pos he]]
    exact ⟨rfl, rfl⟩
  · subst he
    obtain ⟨h1, h2, h3, h4⟩ := lookM_le (bs.drop p) most
    have hs : strM bs p 0 most = if (lookM (bs.drop p) most).2.2 ≠ 0 then ([], p, (lookM (bs.drop p) most).2.2) else
      if (lookM (bs.drop p) most).1 > (bs.length : Int) - ((p + (lookM (bs.drop p) most).2.1 : Nat) : Int) then ([], p, 2) else
      ((bs.drop (p + (lookM (bs.drop p) most).2.1)).take (lookM (bs.drop p) most).1.toNat, p + (lookM (bs.drop p) most).2.1 + (lookM (bs.drop p) most).1.toNat, 0) := by simp [strM]
    refine ASpec.call (peek_spec most hb hp) (Les.refl _) ⟨((lookM (bs.drop p) most).1, ((p + (lookM (bs.drop p) most).2.1 : Nat) : Int), p, (lookM (bs.drop p) most).2.2), rfl, rfl, ?_⟩
    generalize lookM (bs.drop p) most = q at h1 h2 h3 h4 hs ⊢
    obtain ⟨n, k, er⟩ := q
    unfold big at hb
    rw [List.length_drop] at h1
    simp only at h1 h2 h3 h4 hs ⊢
    refine condNe (fun he => ?_) fun he => ?_
    · rw [hs, if_pos he]; exact ⟨rfl, rfl⟩
    · subst he
      rw [wrap64 (x := (bs.length : Int) - ((p + k : Nat) : Int)) (by omega) (by omega)]
      refine condD (fun hg => ?_) fun hg => ?_
      · rw [hs, if_neg (by simp), if_pos hg]; exact ⟨rfl, rfl⟩
      · rw [hs, if_neg (by simp), if_neg hg]
        have hw : IntKind.wrap .i64 (((p + k : Nat) : Int) + n) = ((p + k + n.toNat : Nat) : Int) := by
          have h5 : 0 ≤ n := h2
          rw [wrap64 (x := ((p + k : Nat) : Int) + n) (by omega) (by omega)]; omega
        rw [hw]
        refine needJ (by omega) (needJ (allBytes_map _) ?_)
        rw [bytesOf_map, Int.toNat_natCast, Int.toNat_natCast, List.drop_take]
        refine ⟨?_, rfl⟩
        rw [show p + k + n.toNat - (p + k) = n.toNat by omega]

end V
end

section
/- The document's numbers, texts and reader: what they compute. -/

set_option linter.unusedVariables false
set_option linter.unusedSimpArgs false
open Go Go.Ab Go.Proofs
namespace V

abbrev B (l : List UInt8) : ByteArray := ⟨l.toArray⟩

theorem B_size (l : List UInt8) : (B l).size = l.length := by simp [ByteArray.size]
theorem B_toList (l : List UInt8) : (B l).toList = l := by rw [ByteArray.toList_eq]
theorem B_append (a b : List UInt8) : B a ++ B b = B (a ++ b) := by
  apply ByteArray.ext
  simp
theorem B_beq (a b : List UInt8) : ((B a).toList == (B b).toList) = (a == b) := by rw [B_toList, B_toList]
theorem B_extract (l : List UInt8) (i j : Nat) (h : j ≤ l.length) : (B l).extract i j = B ((l.take j).drop i) := by
  apply ByteArray.ext
  apply Array.toList_inj.1
  simp [List.drop_take]

theorem condS {a b : List UInt8} {A C : Prop} (h1 : a = b → A) (h2 : a ≠ b → C) : condP ((B a).toList == (B b).toList) A C := by
  rw [B_beq]
  by_cases h : a = b
  · rw [beq_iff_eq.2 h]; exact h1 h
  · rw [beq_eq_false_iff_ne.2 h]; exact h2 h

theorem bytesOf_one {x : Int} : bytesOf (.raw [[.int .u8 x]]) = B [UInt8.ofNat x.toNat] := rfl
theorem allBytes_one {x : Int} : allBytes (.raw [[.int .u8 x]]) := by
  intro y hy
  simp only [Seq.toList, List.mem_singleton] at hy
  exact ⟨x, hy⟩

/-! ### numbers -/

theorem rnum3 {Post : AV → List AObj → Prop} : ∀ (f v : Nat) (l : List UInt8), v < 128 ^ (f + 1) → v ≤ 1099511627776 → l.length + f ≤ 100 →
    Post (.str (B (lead (v / 128) ++ l))) [] → AWP Tryd.prog 25 0 c104_3 [(0, .int .i64 v), (3, .str (B l))] [] (q104_2 0 Post) := by
  intro f
  induction f with
  | zero =>
    intro v l hv hv2 hl h
    refine v104_3 _ _ _ _ (condD (fun hc => by simp at hv; omega) fun hc => ?_)
    rw [show v / 128 = 0 by omega, lead_zero] at h
    exact h
  | succ f ih =>
    intro v l hv hv2 hl h
    refine v104_3 _ _ _ _ (condD (fun hc => ?_) fun hc => ?_)
    · have hw : IntKind.wrap .i64 ((v : Int).tdiv 128) = ((v / 128 : Nat) : Int) := by
        rw [show (128 : Int) = ((128 : Nat) : Int) from rfl, tdivN, wrapN (by omega)]
      have hw2 : IntKind.wrap .u8 (IntKind.wrap .i64 (128 + ((v / 128 : Nat) : Int).tmod 128)) = ((128 + v / 128 % 128 : Nat) : Int) := by
        rw [show (128 : Int) = ((128 : Nat) : Int) from rfl, tmodN, wrap64 (by omega) (by omega), wrapU8, Int.emod_eq_of_lt (by omega) (by omega)]
        simp
      rw [hw, hw2, bytesOf_one, B_append, Int.toNat_natCast]
      refine needJ (by decide) (needJ (by decide) (needJ allBytes_one (needJ ?_ ?_)))
      · rw [B_size, B_size]; simp; omega
      · refine ih (v / 128) _ ?_ (by omega) (by simp; omega) ?_
        · rw [Nat.div_lt_iff_lt_mul (by omega), ← Nat.pow_succ]; exact hv
        · rw [lead_pos (by omega : 0 < v / 128)] at h
          rw [List.append_assoc] at h
          exact h
    · rw [show v / 128 = 0 by omega, lead_zero] at h
      exact h

theorem rnum_spec (x : Int) (H : List AObj) : ASpec Tryd.prog 104 [.int .i64 x] H (fun r H' => r = .str (B (enc (held x))) ∧ H' = H) := by
  have k : ASpec Tryd.prog 104 [.int .i64 x] [] (fun r H' => r = .str (B (enc (held x))) ∧ H' = []) := by
    refine s104 _ _ (needJ (by decide) (needJ allBytes_one ?_))
    rw [clamp_held]
    have hh := held_le x
    generalize held x = v at hh ⊢
    rw [show (128 : Int) = ((128 : Nat) : Int) from rfl, tmodN, wrapU8, Int.emod_eq_of_lt (by omega) (by omega), bytesOf_one]
    refine rnum3 5 v _ (by omega) hh (by simp) ⟨?_, rfl⟩
    rfl
  exact ASpec.pureH H k _ _ rfl rfl

theorem rtext_spec (s : List UInt8) (hs : s.length ≤ big) (H : List AObj) : ASpec Tryd.prog 105 [.str (B s)] H (fun r H' => r = .str (B (enc (held s.length) ++ s)) ∧ H' = H) := by
  have k : ASpec Tryd.prog 105 [.str (B s)] [] (fun r H' => r = .str (B (enc (held s.length) ++ s)) ∧ H' = []) := by
    refine s105 _ _ (ASpec.call (rnum_spec _ _) (Les.refl _) ⟨_, rfl, rfl, ?_⟩)
    have hel := enc_length (held s.length) (held_le _)
    refine needJ ?_ ⟨by rw [B_append, B_size], rfl⟩
    simp only [B_size]
    unfold big at hs
    omega
  exact ASpec.pureH H k _ _ rfl rfl

/-! ### the document's look -/

def acc (x : Nat) : List UInt8 → Nat
  | [] => x
  | c :: s => acc (x * 128 + c.toNat % 128) s

theorem acc_lt : ∀ (s : List UInt8) (x i : Nat), x < 128 ^ i → acc x s < 128 ^ (i + s.length)
  | [], x, i, h => h
  | c :: s, x, i, h => by
    simp only [acc, List.length_cons]
    have := acc_lt s (x * 128 + c.toNat % 128) (i + 1) (by rw [Nat.pow_succ]; omega)
    rwa [show i + (s.length + 1) = i + 1 + s.length by omega]

theorem acc_append (x : Nat) : ∀ (s t : List UInt8), acc x (s ++ t) = acc (acc x s) t
  | [], t => rfl
  | c :: s, t => acc_append _ s t

theorem scan_hi : ∀ (k : Nat) (s : List UInt8) (x i f : Nat), k ≤ s.length → k ≤ f → (∀ j, j < k → 128 ≤ (s.getD j 0).toNat) → scan f s x i = scan (f - k) (s.drop k) (acc x (s.take k)) (i + k)
  | 0, s, x, i, f, _, _, _ => by simp [acc]
  | k + 1, [], x, i, f, h, _, _ => by simp at h
  | k + 1, c :: s, x, i, 0, _, h, _ => by omega
  | k + 1, c :: s, x, i, f + 1, h1, h2, h3 => by
    have hc : 128 ≤ c.toNat := by simpa using h3 0 (by omega)
    simp only [scan, if_pos hc]
    rw [scan_hi k s _ (i + 1) f (by simpa using h1) (by omega) (fun j hj => by simpa using h3 (j + 1) (by omega))]
    simp only [List.take_succ_cons, acc, List.drop_succ_cons]
    congr 1 <;> omega

theorem look14 {l : List UInt8} {most : Int} {k : Nat} {Post : AV → List AObj → Prop} (hk : k < 6) (hkl : k < l.length) : ∀ (m i : Nat), m + i = k + 1 →
    (if (acc 0 (l.take (k + 1)) : Int) > min most 1099511627776 then Post (.tup [.int .i64 0, .int .i64 0, .int .i64 4]) [] else Post (.tup [.int .i64 (acc 0 (l.take (k + 1)) : Nat), .int .i64 (k + 1 : Nat), .int .i64 0]) []) →
    AWP Tryd.prog 60 0 c137_14 [(0, .str (B l)), (1, .int .i64 most), (7, .int .i64 k), (8, .int .i64 (acc 0 (l.take i) : Nat)), (9, .int .i64 i)] [] (q137_4 0 Post) := by
  intro m
  induction m with
  | zero =>
    intro i hm h
    refine v137_14 _ _ _ _ _ _ _ (condD (fun hc => by omega) fun hc => ?_)
    rw [show i = k + 1 by omega]
    refine condD (fun h1 => ?_) fun h1 => condD (fun h2 => ?_) fun h2 => ?_
    · rw [if_pos (by omega)] at h; exact h
    · rw [if_pos (by omega)] at h; exact h
    · rw [if_neg (by omega)] at h
      rw [show IntKind.wrap .i64 ((k : Int) + 1) = ((k + 1 : Nat) : Int) by rw [wrap64 (by omega) (by omega)]; simp]
      exact h
  | succ m ih =>
    intro i hm h
    refine v137_14 _ _ _ _ _ _ _ (condD (fun hc => needJ ?_ (needJ (by decide) ?_)) fun hc => by omega)
    · rw [B_size]; omega
    · have hx := acc_lt (l.take i) 0 0 (by simp)
      have hlen : (l.take i).length ≤ 5 := by simp; omega
      have hp : (128 : Nat) ^ (0 + (l.take i).length) ≤ 128 ^ 5 := Nat.pow_le_pow_right (by omega) (by omega)
      have h5 : (128 : Nat) ^ 5 = 34359738368 := by decide
      have e : acc 0 (l.take (i + 1)) = acc 0 (l.take i) * 128 + (l.getD i 0).toNat % 128 := by
        have : l.take (i + 1) = l.take i ++ [l.getD i 0] := by
          rw [List.take_add_one]
          simp [List.getElem?_eq_getElem (show i < l.length by omega)]
        rw [this, acc_append]; rfl
      have := ih (i + 1) (by omega) h
      rw [e] at this
      generalize acc 0 (l.take i) = x at this hx ⊢
      have hg : (B l).data.toList.getD (Int.toNat (i : Int)) 0 = l.getD i 0 := rfl
      rw [hg]
      generalize l.getD i 0 = c at this ⊢
      have hc8 : c.toNat < 256 := c.toNat_lt
      rw [show IntKind.wrap .i64 ((i : Int) + 1) = ((i + 1 : Nat) : Int) by rw [wrap64 (by omega) (by omega)]; simp]
      rw [show (128 : Int) = ((128 : Nat) : Int) from rfl, tmodN, wrap64 (x := (x : Int) * ((128 : Nat) : Int)) (by omega) (by omega), wrap64 (x := ((c.toNat % 128 : Nat) : Int)) (by omega) (by omega), wrap64 (by omega) (by omega)]
      have e2 : (x : Int) * ((128 : Nat) : Int) + ((c.toNat % 128 : Nat) : Int) = ((x * 128 + c.toNat % 128 : Nat) : Int) := by simp
      rw [e2]
      exact this

def lookP (Post : AV → List AObj → Prop) (most : Int) : Int ⊕ (Nat × Nat) → Prop
  | .inl e => Post (.tup [.int .i64 0, .int .i64 0, .int .i64 e]) []
  | .inr (n, k) => if (n : Int) > min most 1099511627776 then Post (.tup [.int .i64 0, .int .i64 0, .int .i64 4]) [] else Post (.tup [.int .i64 n, .int .i64 k, .int .i64 0]) []

theorem look6 {l : List UInt8} {most : Int} {Post : AV → List AObj → Prop} (hl : l.length ≤ 10 * big) : ∀ (m k : Nat), m + k = 6 → k ≤ l.length → (∀ j, j < k → 128 ≤ (l.getD j 0).toNat) → lookP Post most (scan 6 l 0 0) →
    AWP Tryd.prog 60 0 c137_6 [(0, .str (B l)), (1, .int .i64 most), (7, .int .i64 k)] [] (q137_2 0 Post) := by
  unfold big at hl
  -- behind the loop
  have tail : ∀ k, k ≤ 6 → k ≤ l.length → (∀ j, j < k → 128 ≤ (l.getD j 0).toNat) → (k < 6 → k < l.length → (l.getD k 0).toNat < 128) → lookP Post most (scan 6 l 0 0) →
      condP ((k : Int) == (6 : Int)) (Post (.tup [.int .i64 0, .int .i64 0, .int .i64 4]) [])
        (condP ((k : Int) == ((B l).size : Int)) (Post (.tup [.int .i64 0, .int .i64 0, .int .i64 2]) [])
          (AWP Tryd.prog 60 0 c137_14 [(0, .str (B l)), (1, .int .i64 most), (7, .int .i64 k), (8, .int .i64 0), (9, .int .i64 0)] [] (q137_4 0 Post))) := by
    intro k hk hkl hhi hlo h
    rw [scan_hi k l 0 0 6 hkl hk hhi] at h
    refine condE (fun e => ?_) fun e => condE (fun e2 => ?_) fun e2 => ?_
    · have : k = 6 := by omega
      subst this
      exact h
    · rw [B_size] at e2
      have : k = l.length := by omega
      rw [List.drop_eq_nil_of_le (by omega), show 6 - k = (5 - k) + 1 by omega] at h
      exact h
    · rw [B_size] at e2
      have hlt : (l.getD k 0).toNat < 128 := hlo (by omega) (by omega)
      rw [getD_drop l k (by omega), show 6 - k = (5 - k) + 1 by omega] at h
      simp only [scan, if_neg (show ¬ 128 ≤ (l.getD k 0).toNat by omega)] at h
      refine look14 (by omega) (by omega) (k + 1) 0 rfl ?_
      have e : acc 0 (l.take (k + 1)) = acc 0 (l.take k) * 128 + (l.getD k 0).toNat % 128 := by
        have : l.take (k + 1) = l.take k ++ [l.getD k 0] := by
          rw [List.take_add_one]
          simp [List.getElem?_eq_getElem (show k < l.length by omega)]
        rw [this, acc_append]; rfl
      rw [e]
      simpa [lookP] using h
  intro m
  induction m with
  | zero =>
    intro k hm hkl hhi h
    have : k = 6 := by omega
    subst this
    refine v137_6 _ _ _ _ _ (condD (fun _ => condD (fun hc => by omega) fun _ => ?_) fun _ => ?_)
    · exact tail 6 (by omega) hkl hhi (fun h => by omega) h
    · exact tail 6 (by omega) hkl hhi (fun h => by omega) h
  | succ m ih =>
    intro k hm hkl hhi h
    refine v137_6 _ _ _ _ _ (condD (fun hc => condD (fun _ => needJ ?_ ?_) fun hc => by omega) fun hc => ?_)
    · exact ⟨by omega, hc⟩
    · rw [B_size] at hc
      have hg : (B l).data.toList.getD (Int.toNat (k : Int)) 0 = l.getD k 0 := rfl
      rw [hg]
      refine condD (fun hx => ?_) fun hx => ?_
      · rw [show IntKind.wrap .i64 ((k : Int) + 1) = ((k + 1 : Nat) : Int) by rw [wrap64 (by omega) (by omega)]; simp]
        refine ih (k + 1) (by omega) (by omega) (fun j hj => ?_) h
        by_cases e : j = k
        · subst e; omega
        · exact hhi j (by omega)
      · exact tail k (by omega) hkl hhi (fun _ _ => by omega) h
    · rw [B_size] at hc
      exact tail k (by omega) hkl hhi (fun _ h => by omega) h

theorem look_spec (l : List UInt8) (most : Int) (hl : l.length ≤ 10 * big) (H : List AObj) :
    ASpec Tryd.prog 137 [.str (B l), .int .i64 most] H (fun r H' => r = .tup [.int .i64 (lookM l most).1, .int .i64 (lookM l most).2.1, .int .i64 (lookM l most).2.2] ∧ H' = H) := by
  have k : ASpec Tryd.prog 137 [.str (B l), .int .i64 most] [] (fun r H' => r = .tup [.int .i64 (lookM l most).1, .int .i64 (lookM l most).2.1, .int .i64 (lookM l most).2.2] ∧ H' = []) := by
    refine s137 _ _ _ (condS (b := []) (fun e => ?_) fun e => ?_)
    · subst e; exact ⟨rfl, rfl⟩
    · cases l with
      | nil => exact (e rfl).elim
      | cons c l =>
        refine needJ ⟨by omega, by rw [B_size]; simp⟩ ?_
        have hg : (B (c :: l)).data.toList.getD 0 0 = c := rfl
        rw [hg]
        refine condE (fun h1 => ?_) fun h1 => ?_
        · have h1 : c = 128 := UInt8.toNat_inj.1 (by have : c.toNat = 128 := by omega
                                                     exact this)
          rw [show lookM (c :: l) most = (0, 0, 3) by simp only [lookM, if_pos h1]]
          exact ⟨rfl, rfl⟩
        · have h1 : c ≠ 128 := by intro e; rw [e] at h1; exact h1 rfl
          refine look6 hl 6 0 rfl (by omega) (fun j hj => by omega) ?_
          have e : lookM (c :: l) most = match scan 6 (c :: l) 0 0 with
            | .inl e => (0, 0, e)
            | .inr (n, k) => if (n : Int) > min most 1099511627776 then (0, 0, 4) else (n, k, 0) := by simp only [lookM, if_neg h1] <;> rfl
          rw [e]
          cases scan 6 (c :: l) 0 0 with
          | inl er => exact ⟨rfl, rfl⟩
          | inr nk =>
            obtain ⟨n, k⟩ := nk
            by_cases hm : (n : Int) > min most 1099511627776
            · simp [lookP, hm]
            · simp [lookP, hm]
  exact ASpec.pureH H k _ _ rfl rfl

end V
end

section
/- Readers as objects, in any heap; the chapter's examples. -/

set_option linter.unusedVariables false
set_option linter.unusedSimpArgs false
open Go Go.Ab Go.Proofs
namespace V

/-- a reader stands at id -/
abbrev At (H : List AObj) (id : Nat) (bs : List UInt8) (p : Nat) (e : Int) : Prop := H[id]? = some (rd bs p e)

theorem num_spec {H : List AObj} {id : Nat} {bs : List UInt8} {p : Nat} {e : Int} (most : Int) (hb : bs.length ≤ big) (hp : p ≤ bs.length) (h : At H id bs p e) :
    ASpec Tryd.prog 94 [.ptr id 0, .int .i64 most] H (fun r H' => r = .int .i64 (numM bs p e most).1 ∧ H' = H.set id (rd bs (numM bs p e most).2.1 (numM bs p e most).2.2)) :=
  ASpec.oneH H id (num_spec0 e most hb hp) _ _ _ rfl rfl h rfl

theorem str_spec {H : List AObj} {id : Nat} {bs : List UInt8} {p : Nat} {e : Int} (most : Int) (hb : bs.length ≤ big) (hp : p ≤ bs.length) (h : At H id bs p e) :
    ASpec Tryd.prog 96 [.ptr id 0, .int .i64 most] H (fun r H' => r = .str (B (strM bs p e most).1) ∧ H' = H.set id (rd bs (strM bs p e most).2.1 (strM bs p e most).2.2)) :=
  ASpec.oneH H id (str_spec0 e most hb hp) _ _ _ rfl rfl h rfl

theorem set_same {α : Type _} {l : List α} {i : Nat} {a : α} (h : l[i]? = some a) : l.set i a = l := by
  apply List.ext_getElem?
  intro j
  rw [List.getElem?_set]
  split
  · rename_i e; subst e
    have := (List.getElem?_eq_some_iff.1 h).1
    simp only [this, if_true]
    exact h.symm
  · rfl

theorem err_spec {H : List AObj} {id : Nat} {bs : List UInt8} {p : Nat} {e : Int} (h : At H id bs p e) : ASpec Tryd.prog 95 [.ptr id 0] H (fun r H' => r = .int .i64 e ∧ H' = H) := by
  have k : ASpec Tryd.prog 95 [.ptr 0 0] [rd bs p e] (fun r H' => r = .int .i64 e ∧ H' = [rd bs p e]) := s95 _ _ _ _ ⟨rfl, rfl⟩
  have := ASpec.oneH H id k [.ptr id 0] (.int .i64 e) (rd bs p e) rfl rfl h rfl
  rw [set_same h] at this
  exact this

theorem left_spec {H : List AObj} {id : Nat} {bs : List UInt8} {p : Nat} {e : Int} (hb : bs.length ≤ big) (hp : p ≤ bs.length) (h : At H id bs p e) : ASpec Tryd.prog 136 [.ptr id 0] H (fun r H' => r = .int .i64 (bs.length - p : Nat) ∧ H' = H) := by
  have k : ASpec Tryd.prog 136 [.ptr 0 0] [rd bs p e] (fun r H' => r = .int .i64 (bs.length - p : Nat) ∧ H' = [rd bs p e]) := by
    refine s136 _ _ _ _ ⟨?_, rfl⟩
    unfold big at hb
    rw [wrap64 (by omega) (by omega)]
    congr 1
    omega
  have := ASpec.oneH H id k [.ptr id 0] (.int .i64 (bs.length - p : Nat)) (rd bs p e) rfl rfl h rfl
  rw [set_same h] at this
  exact this

theorem copied_all (bs : List UInt8) (l : List (List AV)) (hl : l.length = bs.length) : (copied (.raw l) 0 (.map encB 0 bs)).toList = bs.map encB := by
  simp [copied, Seq.toList, hl]

theorem open_spec (bs : List UInt8) (hb : bs.length ≤ big) (H : List AObj) : ASpec Tryd.prog 93 [.sl 1 (.map encB 0 bs) .none] H (fun r H' => r = .ptr H.length 0 ∧ H' = H ++ [rd bs 0 0]) := by
  have k : ASpec Tryd.prog 93 [.sl 1 (.map encB 0 bs) .none] [] (fun r H' => r = .ptr 0 0 ∧ H' = [rd bs 0 0]) := by
    unfold big at hb
    refine s93 _ _ _ (needJ ⟨by omega, by omega, by omega, by omega⟩ (needJ oneB (needJ (by simp) ?_)))
    generalize hq : copied _ _ _ = q
    have hq2 : q.toList = bs.map encB := by rw [← hq]; exact copied_all _ _ (by simp)
    refine AWP.re (ReSt.freeze (id := 0) (sz := 1) (q := q) (s2 := [(3, .sl 1 (.map encB 0 bs) .none)]) rfl (by simp) (fun d => ?_)) ?_
    · by_cases e : d = 3
      · subst e
        right; right
        exact ⟨0, bs.length, .map encB 0 bs, rfl, by rw [hq2]; simp, rfl, by rw [hq2]; simp [Seq.toList, List.take_of_length_le]⟩
      · left
        have : Nat.beq 3 d = false := by
          cases hx : Nat.beq 3 d with
          | false => rfl
          | true => exact absurd (Nat.eq_of_beq_eq_true hx).symm e
        simp only [Ab.get, this]; rfl
    · exact AWP.shape [] [(3, .sl 1 (.map encB 0 bs) .none)] [] Sel.none ⟨rfl, Le.refl _, trivial⟩ (v93_3 _ _ _ ⟨rfl, rfl⟩)
  exact ASpec.anyH H k _ _ _ rfl rfl rfl

theorem put_spec' {args : List AV} {bs : List UInt8} {ns : List Int} {H : List AObj} {Post : AV → List AObj → Prop} (hle : Les args [.sl 1 (.map encB 0 bs) .none, .sl 1 (.map encI 0 ns) .none]) (hb : bs.length + 7 * ns.length ≤ big)
    (h : Post (.sl 1 (.map encB 0 (putM bs ns)) (.tok H.length)) (H ++ [.tok])) : ASpec Tryd.prog 90 args H Post := ASpec.call (put_spec bs ns hb H) hle h

theorem leNil : Le (.sl 0 (.raw []) .nil) (.sl 1 (.map encB 0 []) .none) := Le.sl rfl (.inr ⟨rfl, fun _ h => by cases h⟩) (.inr rfl)
theorem leOne (x : Int) : Le (.sl 1 (.raw [[.int .i64 x]]) .full) (.sl 1 (.map encI 0 [x]) .none) := Le.sl rfl (.inl rfl) (.inr rfl)

end V
end

section
/- VlqOrder: the law's function returns true. -/

set_option linter.unusedVariables false
set_option linter.unusedSimpArgs false
open Go Go.Ab Go.Proofs
namespace V

end V
end

section
/- VlqBack: what was put is read: the law's function returns true. -/

set_option linter.unusedVariables false
set_option linter.unusedSimpArgs false
open Go Go.Ab Go.Proofs
namespace V

theorem text_spec (bs s : List UInt8) (hb : bs.length + s.length + 100 ≤ big) (H : List AObj) :
    ASpec Tryd.prog 91 [.sl 1 (.map encB 0 bs) .none, .str (B s)] H (fun r H' => r = .sl 1 (.map encB 0 (bs ++ enc (held s.length) ++ s)) (.tok H.length) ∧ H' = H ++ [.tok]) := by
  refine ASpec.anyH (args := [.sl 1 (.map encB 0 bs) .none, .str (B s)]) (r0 := .sl 1 (.map encB 0 (bs ++ enc (held s.length) ++ s)) (.tok 0)) (Hl := [.tok]) H ?_ _ _ _ rfl rfl rfl
  have hel := enc_length (held s.length) (held_le _)
  unfold big at hb
  refine ASpec.sel (s91 _ _ _ _ (put_spec' (bs := bs) (ns := [(s.length : Int)]) ⟨Le.refl _, ?_, trivial⟩ (by unfold big; simp; omega) ⟨_, rfl, rfl, needJ oneB (needJ ?_ ?_)⟩))
  · rw [B_size]; exact leOne _
  · simp only [putM, Ab.Seq.len, bytesSeq, List.flatMap_cons, List.flatMap_nil, List.append_nil, List.length_append]
    have : (B s).data.toList.length = s.length := rfl
    omega
  · refine ⟨[1], [.tok], .sl 1 (.map encB 0 (bs ++ enc (held s.length) ++ s)) (.tok 0), selTok, Le.sl ?_ (.inl rfl) (.inl rfl), rfl, rfl⟩
    simp [Ab.Seq.toList, Seq.ren, encB, renL, AV.ren, bytesSeq, putM]
    rfl

theorem scan_lead (rest : List UInt8) : ∀ (m v f : Nat), v < 128 ^ m → (lead v).length ≤ f → scan f (lead v ++ rest) 0 0 = scan (f - (lead v).length) rest v (lead v).length
  | 0, v, f, hv, hf => by
    have : v = 0 := by simp at hv; omega
    subst this; simp [lead_zero]
  | m + 1, v, f, hv, hf => by
    rcases Nat.eq_zero_or_pos v with e | e
    · subst e; simp [lead_zero]
    · rw [lead_pos e, List.length_append, List.length_singleton, List.append_assoc] at *
      rw [scan_lead _ m (v / 128) f (by rw [Nat.div_lt_iff_lt_mul (by omega), ← Nat.pow_succ]; exact hv) (by omega)]
      have hd : (UInt8.ofNat (128 + v % 128)).toNat = 128 + v % 128 := by rw [UInt8.toNat_ofNat', Nat.mod_eq_of_lt (by omega)]
      rw [show f - (lead (v / 128)).length = (f - ((lead (v / 128)).length + 1)) + 1 by omega, List.singleton_append]
      simp only [scan]
      rw [hd, if_pos (by omega)]
      congr 1
      omega

theorem scan_enc (rest : List UInt8) {v : Nat} (hv : v ≤ 1099511627776) : scan 6 (enc v ++ rest) 0 0 = .inr (v, (enc v).length) := by
  have hl := lead_length 5 (v / 128) (by omega)
  unfold enc
  rw [List.append_assoc, scan_lead _ 5 (v / 128) 6 (by omega) (by omega), show 6 - (lead (v / 128)).length = (5 - (lead (v / 128)).length) + 1 by omega, List.singleton_append]
  have hd : (UInt8.ofNat (v % 128)).toNat = v % 128 := by rw [UInt8.toNat_ofNat', Nat.mod_eq_of_lt (by omega)]
  simp only [scan]
  rw [hd, if_neg (by omega)]
  congr 2
  · omega
  · simp

theorem lead_head : ∀ (m v : Nat), v < 128 ^ m → 0 < v → ∃ c l, lead v = c :: l ∧ c ≠ 128
  | 0, v, hv, h => by simp at hv; omega
  | m + 1, v, hv, h => by
    rw [lead_pos h]
    rcases Nat.eq_zero_or_pos (v / 128) with e | e
    · rw [e, lead_zero]
      refine ⟨_, _, rfl, fun hc => ?_⟩
      have := congrArg UInt8.toNat hc
      rw [UInt8.toNat_ofNat', Nat.mod_eq_of_lt (by omega)] at this
      have h2 : (128 : UInt8).toNat = 128 := rfl
      omega
    · obtain ⟨c, l, h1, h2⟩ := lead_head m (v / 128) (by rw [Nat.div_lt_iff_lt_mul (by omega), ← Nat.pow_succ]; exact hv) e
      exact ⟨c, l ++ [_], by rw [h1]; rfl, h2⟩

theorem enc_head {v : Nat} (hv : v ≤ 1099511627776) : ∃ c l, enc v = c :: l ∧ c ≠ 128 := by
  unfold enc
  rcases Nat.eq_zero_or_pos (v / 128) with e | e
  · rw [e, lead_zero]
    refine ⟨_, _, rfl, fun hc => ?_⟩
    have := congrArg UInt8.toNat hc
    rw [UInt8.toNat_ofNat', Nat.mod_eq_of_lt (by omega)] at this
    have h2 : (128 : UInt8).toNat = 128 := rfl
    omega
  · obtain ⟨c, l, h1, h2⟩ := lead_head 6 (v / 128) (by omega) e
    exact ⟨c, l ++ [_], by rw [h1]; rfl, h2⟩

theorem look_enc (rest : List UInt8) {v : Nat} {most : Int} (hv : v ≤ 1099511627776) (hm : (v : Int) ≤ most) : lookM (enc v ++ rest) most = ((v : Int), (enc v).length, 0) := by
  obtain ⟨c, l, h1, h2⟩ := enc_head hv
  have hs := scan_enc rest hv
  rw [h1, List.cons_append] at hs ⊢
  simp only [lookM, if_neg h2, hs]
  rw [if_neg (by omega)]

end V
end

section
/- The document's reader, and a reader that is none: what their methods compute, in any heap. -/

set_option linter.unusedVariables false
set_option linter.unusedSimpArgs false
open Go Go.Ab Go.Proofs
namespace V

/-- the document's reader -/
abbrev dr (l : List UInt8) (e : Int) : AObj := .cells [.str (B l), .int .i64 e]
abbrev AtD (H : List AObj) (id : Nat) (l : List UInt8) (e : Int) : Prop := H[id]? = some (dr l e)

def dnumM (l : List UInt8) (e most : Int) : Int × List UInt8 × Int :=
  if e ≠ 0 then (0, l, e) else ((lookM l most).1, l.drop (lookM l most).2.1, (lookM l most).2.2)
def dstrM (l : List UInt8) (e most : Int) : List UInt8 × List UInt8 × Int :=
  if e ≠ 0 then ([], l, e) else if (lookM l most).2.2 ≠ 0 then ([], l, (lookM l most).2.2) else
    if (lookM l most).1 > (l.length : Int) - ((lookM l most).2.1 : Nat) then ([], l, 2) else
    ((l.drop (lookM l most).2.1).take (lookM l most).1.toNat, l.drop ((lookM l most).2.1 + (lookM l most).1.toNat), 0)

theorem dnum_spec0 (l : List UInt8) (e most : Int) (hl : l.length ≤ 10 * big) :
    ASpec Tryd.prog 100 [.ptr 0 0, .int .i64 most] [dr l e] (fun r H' => r = .int .i64 (dnumM l e most).1 ∧ H' = [dr (dnumM l e most).2.1 (dnumM l e most).2.2]) := by
  refine s100 _ _ _ _ (condNe (fun he => ?_) fun he => ?_)
  · rw [show dnumM l e most = (0, l, e) by simp only [dnumM, if_pos he]]
    exact ⟨rfl, rfl⟩
  · subst he
    rw [show dnumM l 0 most = ((lookM l most).1, l.drop (lookM l most).2.1, (lookM l most).2.2) by simp [dnumM]]
    obtain ⟨h1, h2, h3, h4⟩ := lookM_le l most
    refine ASpec.call (look_spec l most hl _) (Les.refl _) ⟨((lookM l most).1, ((lookM l most).2.1 : Nat), (lookM l most).2.2), rfl, rfl, needJ ?_ ⟨rfl, ?_⟩⟩
    · simp only [B_size]; omega
    · simp only [Int.toNat_natCast, B_size]
      rw [B_extract _ _ _ (Nat.le_refl _), List.take_of_length_le (Nat.le_refl _)]

theorem dstr_spec0 (l : List UInt8) (e most : Int) (hl : l.length ≤ 10 * big) :
    ASpec Tryd.prog 101 [.ptr 0 0, .int .i64 most] [dr l e] (fun r H' => r = .str (B (dstrM l e most).1) ∧ H' = [dr (dstrM l e most).2.1 (dstrM l e most).2.2]) := by
  refine s101 _ _ _ _ (condNe (fun he => ?_) fun he => ?_)
  · rw [show dstrM l e most = ([], l, e) by simp only [dstrM, if_pos he]]
    exact ⟨rfl, rfl⟩
  · subst he
    obtain ⟨h1, h2, h3, h4⟩ := lookM_le l most
    refine ASpec.call (look_spec l most hl _) (Les.refl _) ⟨((lookM l most).1, ((lookM l most).2.1 : Nat), (lookM l most).2.2), rfl, rfl, ?_⟩
    have hs : dstrM l 0 most = if (lookM l most).2.2 ≠ 0 then ([], l, (lookM l most).2.2) else
      if (lookM l most).1 > (l.length : Int) - ((lookM l most).2.1 : Nat) then ([], l, 2) else
      ((l.drop (lookM l most).2.1).take (lookM l most).1.toNat, l.drop ((lookM l most).2.1 + (lookM l most).1.toNat), 0) := by simp [dstrM]
    rw [hs]
    generalize lookM l most = q at h1 h2 h3 h4 ⊢
    obtain ⟨n, k, er⟩ := q
    unfold big at hl
    simp only at h1 h2 h3 h4 ⊢
    simp only [B_size]
    refine condE (fun he => ?_) fun he => ?_
    · subst he
      rw [wrap64 (x := (l.length : Int) - ((k : Nat) : Int)) (by omega) (by omega)]
      refine condD (fun hg => ?_) fun hg => ?_
      · rw [if_neg (by simp), if_pos hg]; exact ⟨rfl, rfl⟩
      · rw [if_neg (by simp), if_neg hg]
        have hw : IntKind.wrap .i64 (((k : Nat) : Int) + n) = ((k + n.toNat : Nat) : Int) := by
          rw [wrap64 (x := ((k : Nat) : Int) + n) (by omega) (by omega)]; omega
        refine condNe (fun h => (h rfl).elim) fun _ => ?_
        rw [hw]
        refine needJ (by omega) (needJ (by omega) ?_)
        simp only [Int.toNat_natCast]
        rw [B_extract _ _ _ (by omega), B_extract _ _ _ (Nat.le_refl _), List.take_of_length_le (Nat.le_refl _), List.drop_take, show k + n.toNat - k = n.toNat by omega]
        exact ⟨rfl, rfl⟩
    · refine condNe (fun h => ?_) fun h => (he h).elim
      rw [if_pos he]; exact ⟨rfl, rfl⟩

theorem dnum_spec {H : List AObj} {id : Nat} {l : List UInt8} {e : Int} (most : Int) (hl : l.length ≤ 10 * big) (h : AtD H id l e) :
    ASpec Tryd.prog 100 [.ptr id 0, .int .i64 most] H (fun r H' => r = .int .i64 (dnumM l e most).1 ∧ H' = H.set id (dr (dnumM l e most).2.1 (dnumM l e most).2.2)) :=
  ASpec.oneH H id (dnum_spec0 l e most hl) _ _ _ rfl rfl h rfl
theorem dstr_spec {H : List AObj} {id : Nat} {l : List UInt8} {e : Int} (most : Int) (hl : l.length ≤ 10 * big) (h : AtD H id l e) :
    ASpec Tryd.prog 101 [.ptr id 0, .int .i64 most] H (fun r H' => r = .str (B (dstrM l e most).1) ∧ H' = H.set id (dr (dstrM l e most).2.1 (dstrM l e most).2.2)) :=
  ASpec.oneH H id (dstr_spec0 l e most hl) _ _ _ rfl rfl h rfl

def closeM (e : Int) (left : Nat) : Int := if e ≠ 0 then e else if 0 < left then 3 else 0

theorem close_spec {H : List AObj} {id : Nat} {bs : List UInt8} {p : Nat} {e : Int} (hb : bs.length ≤ big) (hp : p ≤ bs.length) (h : At H id bs p e) :
    ASpec Tryd.prog 99 [.ptr id 0] H (fun r H' => r = .int .i64 (closeM e (bs.length - p)) ∧ H' = H) := by
  have k : ASpec Tryd.prog 99 [.ptr 0 0] [rd bs p e] (fun r H' => r = .int .i64 (closeM e (bs.length - p)) ∧ H' = [rd bs p e]) := by
    refine s99 _ _ _ _ (ASpec.call (err_spec (id := 0) (bs := bs) (p := p) (e := e) rfl) (Les.refl _) ⟨e, rfl, rfl, ?_⟩)
    refine condNe (fun he => ?_) fun he => ?_
    · rw [show closeM e (bs.length - p) = e from if_pos he]; exact ⟨rfl, rfl⟩
    · subst he
      refine ASpec.call (left_spec (id := 0) (bs := bs) (p := p) (e := 0) hb hp rfl) (Les.refl _) ⟨_, rfl, rfl, ?_⟩
      refine condD (fun hc => ?_) fun hc => ?_
      · rw [show closeM 0 (bs.length - p) = 3 by simp only [closeM]; rw [if_neg (by simp), if_pos (by omega)]]; exact ⟨rfl, rfl⟩
      · rw [show closeM 0 (bs.length - p) = 0 by simp only [closeM]; rw [if_neg (by simp), if_neg (by omega)]]; exact ⟨rfl, rfl⟩
  have := ASpec.oneH H id k [.ptr id 0] (.int .i64 (closeM e (bs.length - p))) (rd bs p e) rfl rfl h rfl
  rw [set_same h] at this
  exact this

theorem condSn {a b : List UInt8} {A C : Prop} (h1 : a ≠ b → A) (h2 : a = b → C) : condP (!(B a).toList == (B b).toList) A C := by
  rw [B_beq]
  by_cases h : a = b
  · rw [beq_iff_eq.2 h]; exact h2 h
  · rw [beq_eq_false_iff_ne.2 h]; exact h1 h

theorem dclose_spec {H : List AObj} {id : Nat} {l : List UInt8} {e : Int} (h : AtD H id l e) :
    ASpec Tryd.prog 103 [.ptr id 0] H (fun r H' => r = .int .i64 (closeM e l.length) ∧ H' = H) := by
  have k : ASpec Tryd.prog 103 [.ptr 0 0] [dr l e] (fun r H' => r = .int .i64 (closeM e l.length) ∧ H' = [dr l e]) := by
    refine s103 _ _ _ (condE (fun he => condSn (b := []) (fun hl => ?_) fun hl => ?_) fun he => ?_)
    · subst he
      rw [show closeM 0 l.length = 3 by simp only [closeM]; rw [if_neg (by simp), if_pos (List.length_pos_iff.2 hl)]]; exact ⟨rfl, rfl⟩
    · subst he; subst hl
      exact ⟨rfl, rfl⟩
    · rw [show closeM e l.length = e from if_pos he]; exact ⟨rfl, rfl⟩
  have := ASpec.oneH H id k [.ptr id 0] (.int .i64 (closeM e l.length)) (dr l e) rfl rfl h rfl
  rw [set_same h] at this
  exact this

/-! ### a reader that is none -/

/-! ### the reader and the document's -/

theorem num_doc (bs : List UInt8) (p : Nat) (e most : Int) (hp : p ≤ bs.length) :
    dnumM (bs.drop p) e most = ((numM bs p e most).1, bs.drop (numM bs p e most).2.1, (numM bs p e most).2.2) ∧ (numM bs p e most).2.1 ≤ bs.length := by
  have h := (lookM_le (bs.drop p) most).1
  rw [List.length_drop] at h
  unfold dnumM numM
  split
  · exact ⟨rfl, hp⟩
  · refine ⟨by simp [List.drop_drop], by simp only; omega⟩

theorem str_doc (bs : List UInt8) (p : Nat) (e most : Int) (hp : p ≤ bs.length) :
    dstrM (bs.drop p) e most = ((strM bs p e most).1, bs.drop (strM bs p e most).2.1, (strM bs p e most).2.2) ∧ (strM bs p e most).2.1 ≤ bs.length := by
  obtain ⟨h, h2, -, -⟩ := lookM_le (bs.drop p) most
  rw [List.length_drop] at h
  unfold dstrM strM
  simp only [List.length_drop]
  split
  · exact ⟨rfl, hp⟩
  split
  · exact ⟨rfl, hp⟩
  split
  · rename_i hg
    rw [if_pos (by omega)]
    exact ⟨rfl, hp⟩
  · rename_i hg
    rw [if_neg (by omega)]
    refine ⟨by simp [List.drop_drop, Nat.add_assoc], by simp only; omega⟩

end V
end

section
/- Events as cells. -/

open Go Go.Ab Go.Proofs
namespace T
/-- kind, needs, ticks, ticket, body -/
abbrev Ev := Int × List Need × Int × Int × List UInt8
end T
end

section
/- Printed: what the code of functions 57, 112 asks for, by the framework's own reading of it; each line is checked against the code. -/

set_option linter.unusedVariables false
set_option maxRecDepth 100000
set_option maxHeartbeats 4000000
open Go Go.Ab Go.Proofs
namespace E
noncomputable section

end
end E
end

section
/- Printed: what the code of functions  asks for, by the framework's own reading of it; each line is checked against the code. -/

set_option linter.unusedVariables false
set_option maxRecDepth 100000
set_option maxHeartbeats 4000000
open Go Go.Ab Go.Proofs
namespace EB
noncomputable section

end
end EB
end

section
/- Printed: what the code of functions  asks for, by the framework's own reading of it; each line is checked against the code. -/

set_option linter.unusedVariables false
set_option maxRecDepth 100000
set_option maxHeartbeats 4000000
open Go Go.Ab Go.Proofs
namespace W
noncomputable section

end
end W
end

section
/- Stamps: what the code and the document sum up, close and open. -/

set_option linter.unusedVariables false
set_option linter.unusedSimpArgs false
open Go Go.Ab Go.Proofs V
namespace Go.Ab

theorem Le.tup {l r : List AV} (h : Les l r) : Le (.tup l) (.tup r) := by
  intro M w loc v hv
  cases hv with
  | tup _ vs hs hr =>
    have hl := h.len
    exact .tup _ vs (by omega) fun i hi => h.get i (by omega) hi M w loc _ (hr i (by omega))

theorem Le.agg {l r : List AV} (h : Les l r) : Le (.agg l) (.agg r) := by
  intro M w loc v hv
  cases hv with
  | agg _ vs hs hr =>
    have hl := h.len
    exact .agg _ vs (by omega) fun i hi => h.get i (by omega) hi M w loc _ (hr i (by omega))

end Go.Ab
namespace S

def fnv : Nat → List UInt8 → Nat
  | n, [] => n
  | n, c :: l => fnv ((n ^^^ c.toNat) * 16777619 % 4294967296) l

abbrev sum (l : List UInt8) : Nat := fnv 2166136261 l
/-! ### xor, bit by bit -/

/-! ### sums -/

/-! ### sealing -/

theorem sealLe {q : Seq} {tip : Tip} {ρ : Nat → Nat} (l : List UInt8) (h : q.toList = l.map encB) : Le (.sl 1 q tip) (AV.ren ρ (.sl 1 (.map encB 0 l) .none)) :=
  Le.sl (s' := Seq.ren ρ (.map encB 0 l)) (by rw [h]; simp [Ab.Seq.toList, Seq.ren, encB, renL, AV.ren]) (.inl rfl) (.inr rfl)

/-! ### opening -/

end S
end

section
/- Labels: runes, kinds, and which names may be. -/

set_option linter.unusedVariables false
set_option linter.unusedSimpArgs false
set_option maxRecDepth 100000
open Go Go.Ab Go.Proofs V
namespace S

def kindM (c : Int) : Int := if 97 ≤ c ∧ c ≤ 122 then 0 else if 945 ≤ c ∧ c ≤ 969 then 1 else if 48 ≤ c ∧ c ≤ 57 then 2 else if c = 45 then 3 else 4

theorem kind_spec (c : Int) (H : List AObj) : ASpec Tryd.prog 107 [.int .i32 c] H (fun r H' => r = .int .i64 (kindM c) ∧ H' = H) := by
  have k : ASpec Tryd.prog 107 [.int .i32 c] [] (fun r H' => r = .int .i64 (kindM c) ∧ H' = []) := by
    refine s107 _ _ ?_
    repeat' (first | refine condD (fun _ => ?_) fun _ => ?_ | refine condE (fun _ => ?_) fun _ => ?_)
    all_goals (refine ⟨?_, rfl⟩; congr 1; unfold kindM; repeat' split)
    all_goals omega
  exact ASpec.pureH H k _ _ rfl rfl

theorem rkind_spec (c : Int) (H : List AObj) : ASpec Tryd.prog 115 [.int .i64 c] H (fun r H' => r = .int .i64 (kindM c) ∧ H' = H) := by
  have k : ASpec Tryd.prog 115 [.int .i64 c] [] (fun r H' => r = .int .i64 (kindM c) ∧ H' = []) := by
    refine s115 _ _ ?_
    repeat' (first | refine condD (fun _ => ?_) fun _ => ?_ | refine condE (fun _ => ?_) fun _ => ?_)
    all_goals (refine ⟨?_, rfl⟩; congr 1; unfold kindM; repeat' split)
    all_goals omega
  exact ASpec.pureH H k _ _ rfl rfl

theorem kindM_range (c : Int) : 0 ≤ kindM c ∧ kindM c ≤ 4 := by
  unfold kindM; repeat' split
  all_goals omega

/-! ### the rune at a place -/

/-- a byte behind a place -/
abbrev bt (l : List UInt8) (p k : Nat) : Nat := (l.getD (p + k) 0).toNat

theorem bt_lt (l : List UInt8) (p k : Nat) : bt l p k < 256 := (l.getD (p + k) 0).toNat_lt

theorem get_B (l : List UInt8) (j : Nat) : (B l).get! j = l.getD j 0 := by
  show l.toArray[j]! = _
  rw [getElem!_def]
  simp [List.getD]
  rfl

abbrev wideC (a b0 b1 b2 b3 : Nat) : Nat :=
  if 194 ≤ b0 ∧ b0 ≤ 223 then (if 2 ≤ a ∧ (128 ≤ b1 ∧ b1 ≤ 191) then 2 else 0)
  else if 224 ≤ b0 ∧ b0 ≤ 239 then (if 3 ≤ a ∧ (128 ≤ b1 ∧ b1 ≤ 191) ∧ (128 ≤ b2 ∧ b2 ≤ 191) ∧ ¬ (b0 = 224 ∧ b1 < 160) ∧ ¬ (b0 = 237 ∧ 159 < b1) then 3 else 0)
  else if 240 ≤ b0 ∧ b0 ≤ 244 then (if 4 ≤ a ∧ (128 ≤ b1 ∧ b1 ≤ 191) ∧ (128 ≤ b2 ∧ b2 ≤ 191) ∧ (128 ≤ b3 ∧ b3 ≤ 191) ∧ ¬ (b0 = 240 ∧ b1 < 144) ∧ ¬ (b0 = 244 ∧ 143 < b1) then 4 else 0)
  else 0

def wideM (l : List UInt8) (p : Nat) : Nat := wideC (l.length - p) (bt l p 0) (bt l p 1) (bt l p 2) (bt l p 3)

abbrev runeC (w b0 b1 b2 b3 : Nat) : Nat × Nat :=
  if b0 < 128 then (b0, 1) else if w = 0 then (65533, 1) else if w = 2 then (b0 % 32 * 64 + b1 % 64, 2)
  else if w = 3 then ((b0 % 16 * 64 + b1 % 64) * 64 + b2 % 64, 3) else (((b0 % 8 * 64 + b1 % 64) * 64 + b2 % 64) * 64 + b3 % 64, 4)

def runeM (l : List UInt8) (p : Nat) : Nat × Nat := runeC (wideM l p) (bt l p 0) (bt l p 1) (bt l p 2) (bt l p 3)

theorem decode_core (a b0 b1 b2 b3 : Nat) (h0 : b0 < 256) (h1 : b1 < 256) (h2 : b2 < 256) (h3 : b3 < 256) :
    (if b0 < 128 then (b0, 1)
     else if b0 / 32 = 6 ∧ (1 < a ∧ b1 / 64 = 2) then (if 128 ≤ b0 % 32 * 64 + b1 % 64 then (b0 % 32 * 64 + b1 % 64, 2) else (65533, 1))
     else if b0 / 16 = 14 ∧ (1 < a ∧ b1 / 64 = 2) ∧ (2 < a ∧ b2 / 64 = 2) then
       (if 2048 ≤ b0 % 16 * 4096 + b1 % 64 * 64 + b2 % 64 ∧ (b0 % 16 * 4096 + b1 % 64 * 64 + b2 % 64 < 55296 ∨ (57344 ≤ b0 % 16 * 4096 + b1 % 64 * 64 + b2 % 64 ∧ b0 % 16 * 4096 + b1 % 64 * 64 + b2 % 64 ≤ 1114111))
        then (b0 % 16 * 4096 + b1 % 64 * 64 + b2 % 64, 3) else (65533, 1))
     else if b0 / 8 = 30 ∧ (1 < a ∧ b1 / 64 = 2) ∧ (2 < a ∧ b2 / 64 = 2) ∧ (3 < a ∧ b3 / 64 = 2) then
       (if 65536 ≤ b0 % 8 * 262144 + b1 % 64 * 4096 + b2 % 64 * 64 + b3 % 64 ∧ (b0 % 8 * 262144 + b1 % 64 * 4096 + b2 % 64 * 64 + b3 % 64 < 55296 ∨ (57344 ≤ b0 % 8 * 262144 + b1 % 64 * 4096 + b2 % 64 * 64 + b3 % 64 ∧ b0 % 8 * 262144 + b1 % 64 * 4096 + b2 % 64 * 64 + b3 % 64 ≤ 1114111))
        then (b0 % 8 * 262144 + b1 % 64 * 4096 + b2 % 64 * 64 + b3 % 64, 4) else (65533, 1))
     else ((65533 : Nat), (1 : Nat))) = runeC (wideC a b0 b1 b2 b3) b0 b1 b2 b3 := by
  have e2 : ∀ w : Nat, w = 0 ∨ w = 2 ∨ w = 3 ∨ w = 4 ∨ 4 < w ∨ w = 1 := by omega
  by_cases c0 : b0 < 128
  · rw [if_pos c0]; unfold runeC; rw [if_pos c0]
  rw [if_neg c0]
  unfold runeC
  rw [if_neg c0]
  by_cases c1 : 194 ≤ b0 ∧ b0 ≤ 223
  · unfold wideC
    rw [if_pos c1]
    by_cases d : 1 < a ∧ b1 / 64 = 2
    · rw [if_pos ⟨by omega, d⟩, if_pos (by omega), if_pos (show 2 ≤ a ∧ (128 ≤ b1 ∧ b1 ≤ 191) by omega)]; rfl
    · rw [if_neg (fun h => d h.2), if_neg (fun h => d h.2.1), if_neg (fun h => d h.2.1), if_neg (show ¬ (2 ≤ a ∧ (128 ≤ b1 ∧ b1 ≤ 191)) by omega)]; rfl
  by_cases c2 : 224 ≤ b0 ∧ b0 ≤ 239
  · unfold wideC
    rw [if_neg c1, if_pos c2]
    rw [if_neg (show ¬ (b0 / 32 = 6 ∧ (1 < a ∧ b1 / 64 = 2)) by omega)]
    by_cases d : (1 < a ∧ b1 / 64 = 2) ∧ (2 < a ∧ b2 / 64 = 2)
    · rw [if_pos ⟨by omega, d⟩]
      by_cases f : ¬ (b0 = 224 ∧ b1 < 160) ∧ ¬ (b0 = 237 ∧ 159 < b1)
      · rw [if_pos (show 3 ≤ a ∧ (128 ≤ b1 ∧ b1 ≤ 191) ∧ (128 ≤ b2 ∧ b2 ≤ 191) ∧ ¬ (b0 = 224 ∧ b1 < 160) ∧ ¬ (b0 = 237 ∧ 159 < b1) by omega), if_pos (by omega)]
        simp only [if_neg (show ¬ (3 = 0) by omega), if_neg (show ¬ (3 = 2) by omega), if_true]
        rw [show b0 % 16 * 4096 + b1 % 64 * 64 + b2 % 64 = (b0 % 16 * 64 + b1 % 64) * 64 + b2 % 64 by omega]
      · rw [if_neg (show ¬ (3 ≤ a ∧ (128 ≤ b1 ∧ b1 ≤ 191) ∧ (128 ≤ b2 ∧ b2 ≤ 191) ∧ ¬ (b0 = 224 ∧ b1 < 160) ∧ ¬ (b0 = 237 ∧ 159 < b1)) by omega), if_neg (by omega)]; rfl
    · rw [if_neg (fun h => d h.2), if_neg (show ¬ (b0 / 8 = 30 ∧ (1 < a ∧ b1 / 64 = 2) ∧ (2 < a ∧ b2 / 64 = 2) ∧ (3 < a ∧ b3 / 64 = 2)) by omega),
        if_neg (show ¬ (3 ≤ a ∧ (128 ≤ b1 ∧ b1 ≤ 191) ∧ (128 ≤ b2 ∧ b2 ≤ 191) ∧ ¬ (b0 = 224 ∧ b1 < 160) ∧ ¬ (b0 = 237 ∧ 159 < b1)) by omega)]; rfl
  by_cases c3 : 240 ≤ b0 ∧ b0 ≤ 244
  · unfold wideC
    rw [if_neg c1, if_neg c2, if_pos c3]
    rw [if_neg (show ¬ (b0 / 32 = 6 ∧ (1 < a ∧ b1 / 64 = 2)) by omega), if_neg (show ¬ (b0 / 16 = 14 ∧ (1 < a ∧ b1 / 64 = 2) ∧ (2 < a ∧ b2 / 64 = 2)) by omega)]
    by_cases d : (1 < a ∧ b1 / 64 = 2) ∧ (2 < a ∧ b2 / 64 = 2) ∧ (3 < a ∧ b3 / 64 = 2)
    · rw [if_pos ⟨by omega, d⟩]
      by_cases f : ¬ (b0 = 240 ∧ b1 < 144) ∧ ¬ (b0 = 244 ∧ 143 < b1)
      · rw [if_pos (show 4 ≤ a ∧ (128 ≤ b1 ∧ b1 ≤ 191) ∧ (128 ≤ b2 ∧ b2 ≤ 191) ∧ (128 ≤ b3 ∧ b3 ≤ 191) ∧ ¬ (b0 = 240 ∧ b1 < 144) ∧ ¬ (b0 = 244 ∧ 143 < b1) by omega), if_pos (by omega)]
        simp only [if_neg (show ¬ (4 = 0) by omega), if_neg (show ¬ (4 = 2) by omega), if_neg (show ¬ (4 = 3) by omega)]
        rw [show b0 % 8 * 262144 + b1 % 64 * 4096 + b2 % 64 * 64 + b3 % 64 = ((b0 % 8 * 64 + b1 % 64) * 64 + b2 % 64) * 64 + b3 % 64 by omega]
      · rw [if_neg (show ¬ (4 ≤ a ∧ (128 ≤ b1 ∧ b1 ≤ 191) ∧ (128 ≤ b2 ∧ b2 ≤ 191) ∧ (128 ≤ b3 ∧ b3 ≤ 191) ∧ ¬ (b0 = 240 ∧ b1 < 144) ∧ ¬ (b0 = 244 ∧ 143 < b1)) by omega), if_neg (by omega)]; rfl
    · rw [if_neg (fun h => d h.2), if_neg (show ¬ (4 ≤ a ∧ (128 ≤ b1 ∧ b1 ≤ 191) ∧ (128 ≤ b2 ∧ b2 ≤ 191) ∧ (128 ≤ b3 ∧ b3 ≤ 191) ∧ ¬ (b0 = 240 ∧ b1 < 144) ∧ ¬ (b0 = 244 ∧ 143 < b1)) by omega)]; rfl
  · unfold wideC
    rw [if_neg c1, if_neg c2, if_neg c3]
    by_cases d : b0 / 32 = 6 ∧ (1 < a ∧ b1 / 64 = 2)
    · rw [if_pos d, if_neg (by omega)]; rfl
    rw [if_neg d, if_neg (show ¬ (b0 / 16 = 14 ∧ (1 < a ∧ b1 / 64 = 2) ∧ (2 < a ∧ b2 / 64 = 2)) by omega)]
    by_cases f : b0 / 8 = 30 ∧ (1 < a ∧ b1 / 64 = 2) ∧ (2 < a ∧ b2 / 64 = 2) ∧ (3 < a ∧ b3 / 64 = 2)
    · rw [if_pos f, if_neg (by omega)]; rfl
    · rw [if_neg f]; rfl

theorem validN (n : Nat) : Utf8.valid (n : Int) = (decide (n < 55296) || (decide (57344 ≤ n) && decide (n ≤ 1114111))) := by
  unfold Utf8.valid
  rw [Bool.eq_iff_iff]
  simp only [Bool.and_eq_true, Bool.or_eq_true, decide_eq_true_eq]
  omega

set_option maxRecDepth 100000 in
theorem decode_eq (l : List UInt8) (p : Nat) (hp : p < l.length) : Utf8.decode (B l) p = runeM l p := by
  unfold runeM wideM
  rw [← decode_core (l.length - p) _ _ _ _ (bt_lt l p 0) (bt_lt l p 1) (bt_lt l p 2) (bt_lt l p 3)]
  have hb : ∀ k, ((B l).get! (p + k)).toNat = bt l p k := fun k => by rw [get_B]
  have hc : ∀ k, decide (p + k < (B l).size) = decide (k < l.length - p) := fun k => by rw [B_size]; apply decide_eq_decide.2; omega
  unfold Utf8.decode
  simp only [hb, hc, validN]
  generalize bt l p 0 = b0
  generalize bt l p 1 = b1
  generalize bt l p 2 = b2
  generalize bt l p 3 = b3
  generalize l.length - p = a
  simp only [Utf8.runeError, Bool.and_eq_true, Bool.or_eq_true, decide_eq_true_eq, beq_iff_eq, ge_iff_le, and_assoc]

theorem runeM_width (l : List UInt8) (p : Nat) : 1 ≤ (runeM l p).2 ∧ (runeM l p).2 ≤ 4 := by
  unfold runeM runeC
  repeat' split
  all_goals simp

theorem wideM_cases (l : List UInt8) (p : Nat) : wideM l p = 0 ∨ (wideM l p = 2 ∧ 194 ≤ bt l p 0 ∧ bt l p 0 ≤ 223 ∧ p + 2 ≤ l.length) ∨
    (wideM l p = 3 ∧ 224 ≤ bt l p 0 ∧ bt l p 0 ≤ 239 ∧ p + 3 ≤ l.length ∧ (128 ≤ bt l p 1 ∧ bt l p 1 ≤ 191) ∧ ¬ (bt l p 0 = 224 ∧ bt l p 1 < 160)) ∨
    (wideM l p = 4 ∧ 240 ≤ bt l p 0 ∧ bt l p 0 ≤ 244 ∧ p + 4 ≤ l.length ∧ (128 ≤ bt l p 1 ∧ bt l p 1 ≤ 191) ∧ ¬ (bt l p 0 = 240 ∧ bt l p 1 < 144)) := by
  unfold wideM wideC
  repeat' split
  all_goals omega

/-- a rune that a name may have has two bytes at most -/
theorem runeM_small {l : List UInt8} {p : Nat} (h : kindM ((runeM l p).1 : Nat) ≤ 3) : (runeM l p).2 ≤ 2 := by
  have hk : ((runeM l p).1 : Int) ≤ 969 := by
    unfold kindM at h
    repeat' split at h
    all_goals omega
  rcases wideM_cases l p with e | ⟨e, h1⟩ | ⟨e, h1, h2, h3, h4, h5⟩ | ⟨e, h1, h2, h3, h4, h5⟩
  · unfold runeM runeC
    repeat' split
    all_goals simp_all
  · unfold runeM runeC
    repeat' split
    all_goals simp_all
  · exfalso
    unfold runeM runeC at hk
    rw [e] at hk
    rw [if_neg (by omega), if_neg (by omega), if_neg (by omega), if_pos rfl] at hk
    simp only at hk
    omega
  · exfalso
    unfold runeM runeC at hk
    rw [e] at hk
    rw [if_neg (by omega), if_neg (by omega), if_neg (by omega), if_neg (by omega)] at hk
    simp only at hk
    omega

/-! ### the document's walk over a rune's bytes -/

section
variable {l : List UInt8} {p : Nat} {Post : AV → List AObj → Prop}

theorem btInt (hl : l.length ≤ 10 * big) (i : Nat) (hp : p + i < l.length) :
    IntKind.wrap .i64 ((p : Int) + (i : Int)) = ((p + i : Nat) : Int) := by
  unfold big at hl
  rw [wrap64 (by omega) (by omega)]; simp

theorem btGet (i : Nat) : ((List.getD (Array.toList (ByteArray.data (B l))) (p + i) 0).toNat : Int) = (bt l p i : Nat) := rfl

def nOf (b0 : Nat) : Nat := if 194 ≤ b0 ∧ b0 ≤ 223 then 2 else if 224 ≤ b0 ∧ b0 ≤ 239 then 3 else if 240 ≤ b0 ∧ b0 ≤ 244 then 4 else 0

theorem nOf_cases (b0 : Nat) : (nOf b0 = 2 ∧ 194 ≤ b0 ∧ b0 ≤ 223) ∨ (nOf b0 = 3 ∧ 224 ≤ b0 ∧ b0 ≤ 239) ∨ (nOf b0 = 4 ∧ 240 ≤ b0 ∧ b0 ≤ 244) ∨ (nOf b0 = 0 ∧ ¬ (194 ≤ b0 ∧ b0 ≤ 244)) := by
  unfold nOf
  repeat' split
  all_goals omega

theorem wide_short (h : l.length - p < nOf (bt l p 0) ∨ nOf (bt l p 0) = 0) : wideM l p = 0 := by
  have := nOf_cases (bt l p 0)
  unfold wideM wideC
  repeat' split
  all_goals omega

theorem wide_bad {i : Nat} (h1 : 1 ≤ i) (h2 : i < nOf (bt l p 0)) (h : bt l p i < 128 ∨ 191 < bt l p i) : wideM l p = 0 := by
  have := nOf_cases (bt l p 0)
  have hi : i = 1 ∨ i = 2 ∨ i = 3 := by omega
  unfold wideM wideC
  rcases hi with rfl | rfl | rfl <;> repeat' split
  all_goals omega

theorem wideC_no {a b0 b1 b2 b3 : Nat} (h : (b0 = 224 ∧ b1 < 160) ∨ (b0 = 237 ∧ 159 < b1) ∨ (b0 = 240 ∧ b1 < 144) ∨ (b0 = 244 ∧ 143 < b1)) : wideC a b0 b1 b2 b3 = 0 := by
  unfold wideC
  repeat' split
  all_goals omega

theorem wideC_yes {a n b0 b1 b2 b3 : Nat} (hcs : (n = 2 ∧ 194 ≤ b0 ∧ b0 ≤ 223) ∨ (n = 3 ∧ 224 ≤ b0 ∧ b0 ≤ 239) ∨ (n = 4 ∧ 240 ≤ b0 ∧ b0 ≤ 244)) (ha : n ≤ a) (hc1 : 128 ≤ b1 ∧ b1 ≤ 191) (hc2 : 2 < n → 128 ≤ b2 ∧ b2 ≤ 191) (hc3 : 3 < n → 128 ≤ b3 ∧ b3 ≤ 191)
    (k1 : ¬ (b0 = 224 ∧ b1 < 160)) (k2 : ¬ (b0 = 237 ∧ 159 < b1)) (k3 : ¬ (b0 = 240 ∧ b1 < 144)) (k4 : ¬ (b0 = 244 ∧ 143 < b1)) : wideC a b0 b1 b2 b3 = n := by
  unfold wideC
  rcases hcs with ⟨rfl, g1, g2⟩ | ⟨rfl, g1, g2⟩ | ⟨rfl, g1, g2⟩
  · rw [if_pos ⟨g1, g2⟩, if_pos ⟨ha, hc1⟩]
  · rw [if_neg (by omega), if_pos ⟨g1, g2⟩, if_pos ⟨ha, hc1, hc2 (by omega), k1, k2⟩]
  · rw [if_neg (by omega), if_neg (by omega), if_pos ⟨g1, g2⟩, if_pos ⟨ha, hc1, hc2 (by omega), hc3 (by omega), k3, k4⟩]

theorem w16 (hl : l.length ≤ 10 * big) (hn : nOf (bt l p 0) ≠ 0) (hp : p + nOf (bt l p 0) ≤ l.length) (hc : ∀ i, 1 ≤ i → i < nOf (bt l p 0) → 128 ≤ bt l p i ∧ bt l p i ≤ 191) (h : Post (.int .i64 (wideM l p : Nat)) []) :
    AWP Tryd.prog 96 0 c152_16 [(0, .str (B l)), (1, .int .i64 p), (5, .int .i64 (nOf (bt l p 0) : Nat)), (6, .int .i64 (bt l p 0 : Nat))] [] (q152_0 0 Post) := by
  have hcs := nOf_cases (bt l p 0)
  have h256 := bt_lt l p 1
  have e1 : IntKind.wrap .i64 ((p : Int) + 1) = ((p + 1 : Nat) : Int) := by unfold big at hl; rw [wrap64 (by omega) (by omega)]; simp
  have hc1 := hc 1 (by omega) (by omega)
  have hc2 : 2 < nOf (bt l p 0) → 128 ≤ bt l p 2 ∧ bt l p 2 ≤ 191 := hc 2 (by omega)
  have hc3 : 3 < nOf (bt l p 0) → 128 ≤ bt l p 3 ∧ bt l p 3 ≤ 191 := hc 3 (by omega)
  have hcs3 : (nOf (bt l p 0) = 2 ∧ 194 ≤ bt l p 0 ∧ bt l p 0 ≤ 223) ∨ (nOf (bt l p 0) = 3 ∧ 224 ≤ bt l p 0 ∧ bt l p 0 ≤ 239) ∨ (nOf (bt l p 0) = 4 ∧ 240 ≤ bt l p 0 ∧ bt l p 0 ≤ 244) := by omega
  have fin0 : (bt l p 0 = 224 ∧ bt l p 1 < 160) ∨ (bt l p 0 = 237 ∧ 159 < bt l p 1) ∨ (bt l p 0 = 240 ∧ bt l p 1 < 144) ∨ (bt l p 0 = 244 ∧ 143 < bt l p 1) → Post (.int .i64 0) [] := by
    intro hh
    have := wideC_no (a := l.length - p) (b2 := bt l p 2) (b3 := bt l p 3) hh
    unfold wideM at h
    rw [this] at h
    exact h
  have finn : ¬ (bt l p 0 = 224 ∧ bt l p 1 < 160) → ¬ (bt l p 0 = 237 ∧ 159 < bt l p 1) → ¬ (bt l p 0 = 240 ∧ bt l p 1 < 144) → ¬ (bt l p 0 = 244 ∧ 143 < bt l p 1) → Post (.int .i64 (nOf (bt l p 0) : Nat)) [] := by
    intro k1 k2 k3 k4
    have := wideC_yes (a := l.length - p) (b2 := bt l p 2) (b3 := bt l p 3) hcs3 (by omega) hc1 hc2 hc3 k1 k2 k3 k4
    unfold wideM at h
    rw [this] at h
    exact h
  have hn2 : 2 ≤ nOf (bt l p 0) := by omega
  clear hc hcs hcs3 hc2 hc3 h
  refine v152_16 _ _ _ _ _ _ ?_
  rw [e1, Int.toNat_natCast, btGet 1, wrapN (n := bt l p 1) (by omega)]
  refine needJ ⟨by omega, by rw [B_size]; omega⟩ ?_
  generalize nOf (bt l p 0) = n at *
  generalize bt l p 0 = b0 at *
  generalize bt l p 1 = b1 at *
  repeat' (first | refine condD (fun _ => ?_) fun _ => ?_ | refine condE (fun _ => ?_) fun _ => ?_)
  all_goals first
    | exact fin0 (by omega)
    | exact finn (by omega) (by omega) (by omega) (by omega)

theorem w12 (hl : l.length ≤ 10 * big) (hn : nOf (bt l p 0) ≠ 0) (hp : p + nOf (bt l p 0) ≤ l.length) (h : Post (.int .i64 (wideM l p : Nat)) []) :
    ∀ (m i : Nat), m + i = nOf (bt l p 0) → 1 ≤ i → (∀ j, 1 ≤ j → j < i → 128 ≤ bt l p j ∧ bt l p j ≤ 191) →
    AWP Tryd.prog 96 0 c152_12 [(0, .str (B l)), (1, .int .i64 p), (5, .int .i64 (nOf (bt l p 0) : Nat)), (6, .int .i64 (bt l p 0 : Nat)), (7, .int .i64 i)] [] (q152_2 0 Post) := by
  have hcs := nOf_cases (bt l p 0)
  intro m
  induction m with
  | zero =>
    intro i hm h1 hc
    refine v152_12 _ _ _ _ _ _ _ (condD (fun hi => by omega) fun _ => w16 hl hn hp (fun j a b => hc j a (by omega)) h)
  | succ m ih =>
    intro i hm h1 hc
    have e1 := btInt (p := p) hl i (by omega)
    refine v152_12 _ _ _ _ _ _ _ (condD (fun hi => ?_) fun hi => by omega)
    rw [e1, Int.toNat_natCast, btGet i]
    refine needJ ⟨by omega, by rw [B_size]; omega⟩ (condD (fun hb => ?_) fun hb => needJ ⟨by omega, by rw [B_size]; omega⟩ (condD (fun hb2 => ?_) fun hb2 => ?_))
    · rw [wide_bad (l := l) (p := p) h1 (by omega) (.inl (by omega))] at h; exact h
    · rw [wide_bad (l := l) (p := p) h1 (by omega) (.inr (by omega))] at h; exact h
    · rw [show IntKind.wrap .i64 ((i : Int) + 1) = ((i + 1 : Nat) : Int) by rw [wrap64 (by omega) (by omega)]; simp]
      refine ih (i + 1) (by omega) (by omega) (fun j a b => ?_)
      by_cases e : j = i
      · subst e; omega
      · exact hc j a (by omega)

theorem w9 (hl : l.length ≤ 10 * big) (hp : p < l.length) (h : Post (.int .i64 (wideM l p : Nat)) []) :
    AWP Tryd.prog 96 0 c152_9 [(0, .str (B l)), (1, .int .i64 p), (5, .int .i64 (nOf (bt l p 0) : Nat)), (6, .int .i64 (bt l p 0 : Nat))] [] (q152_0 0 Post) := by
  have hcs := nOf_cases (bt l p 0)
  have hl' := hl
  unfold big at hl'
  refine v152_9 _ _ _ _ _ _ (condE (fun e => ?_) fun e => ?_)
  · rw [wide_short (l := l) (p := p) (.inr (by omega))] at h; exact h
  rw [B_size, wrap64 (x := (l.length : Int) - (p : Int)) (by omega) (by omega)]
  refine condD (fun e2 => ?_) fun e2 => ?_
  · rw [wide_short (l := l) (p := p) (.inl (by omega))] at h; exact h
  · refine v152_11 _ _ _ _ _ _ ?_
    exact w12 hl (by omega) (by omega) h (nOf (bt l p 0) - 1) 1 (by omega) (by omega) (fun j a b => by omega)

theorem wide_spec0 (hl : l.length ≤ 10 * big) (hp : p < l.length) : ASpec Tryd.prog 152 [.str (B l), .int .i64 p] [] (fun r H' => r = .int .i64 (wideM l p : Nat) ∧ H' = []) := by
  have h256 := bt_lt l p 0
  have hcs := nOf_cases (bt l p 0)
  have k9 : ∀ n : Int, n = (nOf (bt l p 0) : Nat) → AWP Tryd.prog 96 0 c152_9 [(0, .str (B l)), (1, .int .i64 p), (5, .int .i64 n), (6, .int .i64 (bt l p 0 : Nat))] [] (q152_0 0 (fun r H' => r = .int .i64 (wideM l p : Nat) ∧ H' = [])) := by
    intro n e; subst e; exact w9 hl hp ⟨rfl, rfl⟩
  refine s152 _ _ _ (needJ ⟨by omega, by rw [B_size]; omega⟩ ?_)
  rw [Int.toNat_natCast, show ((List.getD (Array.toList (ByteArray.data (B l))) p 0).toNat : Int) = (bt l p 0 : Nat) from rfl, wrapN (n := bt l p 0) (by omega)]
  generalize nOf (bt l p 0) = n at *
  generalize bt l p 0 = b0 at *
  have k7 : ∀ m : Int, m = (if 240 ≤ b0 ∧ b0 ≤ 244 then m else (n : Int)) → AWP Tryd.prog 96 0 c152_7 [(0, .str (B l)), (1, .int .i64 p), (5, .int .i64 m), (6, .int .i64 (b0 : Nat))] [] (q152_0 0 (fun r H' => r = .int .i64 (wideM l p : Nat) ∧ H' = [])) := by
    intro m hm
    refine v152_7 _ _ _ _ _ _ (condD (fun _ => condD (fun _ => k9 _ (by omega)) fun _ => k9 _ ?_) fun _ => k9 _ ?_)
    · rw [if_neg (by omega)] at hm; exact hm
    · rw [if_neg (by omega)] at hm; exact hm
  have k5 : ∀ m : Int, m = (if 224 ≤ b0 ∧ b0 ≤ 244 then m else (n : Int)) → AWP Tryd.prog 96 0 c152_5 [(0, .str (B l)), (1, .int .i64 p), (5, .int .i64 m), (6, .int .i64 (b0 : Nat))] [] (q152_0 0 (fun r H' => r = .int .i64 (wideM l p : Nat) ∧ H' = [])) := by
    intro m hm
    refine v152_5 _ _ _ _ _ _ (condD (fun _ => condD (fun _ => k7 _ ?_) fun _ => k7 _ ?_) fun _ => k7 _ ?_)
    · rw [if_neg (by omega)]; omega
    · split
      · rfl
      · rw [if_neg (by omega)] at hm; exact hm
    · split
      · rfl
      · rw [if_neg (by omega)] at hm; exact hm
  refine condD (fun _ => condD (fun _ => k5 _ ?_) fun _ => k5 _ ?_) fun _ => k5 _ ?_
  · rw [if_neg (by omega)]; omega
  · split
    · rfl
    · omega
  · split
    · rfl
    · omega

theorem wide_spec (hl : l.length ≤ 10 * big) (hp : p < l.length) (H : List AObj) : ASpec Tryd.prog 152 [.str (B l), .int .i64 p] H (fun r H' => r = .int .i64 (wideM l p : Nat) ∧ H' = H) :=
  ASpec.pureH H (wide_spec0 hl hp) _ _ rfl rfl

end
end S
end

section
/- Which names may be: the code's walk and the document's. -/

set_option linter.unusedVariables false
set_option linter.unusedSimpArgs false
set_option maxRecDepth 100000
open Go Go.Ab Go.Proofs V
namespace S
theorem condBn {b : Bool} {A C : Prop} (h1 : b = false → A) (h2 : b = true → C) : condP (!b) A C := by cases b <;> simp_all [condP]
section
variable {l : List UInt8} {p : Nat}

def foldx (l : List UInt8) (p : Nat) : Nat → Nat → Nat → Nat
  | 0, _, x => x
  | m + 1, i, x => foldx l p m (i + 1) (x * 64 + bt l p i % 64)

theorem u12 {Post : AV → List AObj → Prop} (hl : l.length ≤ 10 * big) {n : Nat} (hn : n ≤ 4) (hp : p + n ≤ l.length) : ∀ (m i x : Nat), m + i = n → x < 64 ^ i → Post (.tup [.int .i64 (foldx l p m i x : Nat), .int .i64 n]) [] →
    AWP Tryd.prog 58 0 c142_12 [(0, .str (B l)), (1, .int .i64 p), (6, .int .i64 n), (7, .int .i64 x), (8, .int .i64 i)] [] (q142_2 0 Post) := by
  intro m
  induction m with
  | zero =>
    intro i x hm hx h
    exact v142_12 _ _ _ _ _ _ _ (condD (fun hi => by omega) fun _ => h)
  | succ m ih =>
    intro i x hm hx h
    have e1 := btInt (p := p) hl i (by omega)
    have h256 := bt_lt l p i
    have h4 : (64 : Nat) ^ i ≤ 64 ^ 4 := Nat.pow_le_pow_right (by omega) (by omega)
    have e4 : (64 : Nat) ^ 4 = 16777216 := by decide
    have hn := ih (i + 1) (x * 64 + bt l p i % 64) (by omega) (by rw [Nat.pow_succ]; omega) h
    refine v142_12 _ _ _ _ _ _ _ (condD (fun hi => ?_) fun hi => by omega)
    rw [e1, Int.toNat_natCast, btGet i]
    refine needJ ⟨by omega, by rw [B_size]; omega⟩ (needJ (by decide) ?_)
    generalize bt l p i = b at h256 hn ⊢
    have m64 : Int.tmod (b : Int) 64 = ((b % 64 : Nat) : Int) := tmodN b 64
    rw [wrapN (n := b) (by omega), m64, wrap64 (x := (x : Int) * 64) (by omega) (by omega), wrap64 (x := (x : Int) * 64 + ((b % 64 : Nat) : Int)) (by omega) (by omega)]
    rw [show IntKind.wrap .i64 ((i : Int) + 1) = ((i + 1 : Nat) : Int) by rw [wrap64 (by omega) (by omega)]; simp]
    rw [show (x : Int) * 64 + ((b % 64 : Nat) : Int) = ((x * 64 + b % 64 : Nat) : Int) by simp]
    exact hn

theorem rune_spec0 (hl : l.length ≤ 10 * big) (hp : p < l.length) :
    ASpec Tryd.prog 142 [.str (B l), .int .i64 p] [] (fun r H' => r = .tup [.int .i64 ((runeM l p).1 : Nat), .int .i64 ((runeM l p).2 : Nat)] ∧ H' = []) := by
  have h256 := bt_lt l p 0
  have hin : (0 : Int) ≤ (p : Int) ∧ (p : Int) < ((B l).size : Int) := ⟨by omega, by rw [B_size]; omega⟩
  have hcs := wideM_cases l p
  have hR : runeM l p = runeC (wideM l p) (bt l p 0) (bt l p 1) (bt l p 2) (bt l p 3) := rfl
  refine s142 _ _ _ (needJ hin ?_)
  rw [Int.toNat_natCast, show ((List.getD (Array.toList (ByteArray.data (B l))) p 0).toNat : Int) = (bt l p 0 : Nat) from rfl, wrapN (n := bt l p 0) (by omega)]
  have m32 : Int.tmod (bt l p 0 : Nat) 32 = ((bt l p 0 % 32 : Nat) : Int) := tmodN _ 32
  have m16 : Int.tmod (bt l p 0 : Nat) 16 = ((bt l p 0 % 16 : Nat) : Int) := tmodN _ 16
  have m8 : Int.tmod (bt l p 0 : Nat) 8 = ((bt l p 0 % 8 : Nat) : Int) := tmodN _ 8
  refine condD (fun hc => needJ hin ?_) fun hc => ?_
  · rw [hR, runeC, if_pos (by omega)]
    exact ⟨rfl, rfl⟩
  refine ASpec.call (wide_spec hl hp []) (Les.refl _) ⟨_, rfl, rfl, condE (fun h0 => ?_) fun h0 => needJ hin (needJ (by decide) ?_)⟩
  · rw [hR, runeC, if_neg (by omega), if_pos (by omega)]
    exact ⟨rfl, rfl⟩
  have key : ∀ (n x0 : Nat), n = wideM l p → x0 < 64 → foldx l p (n - 1) 1 x0 = (runeM l p).1 → n = (runeM l p).2 →
      AWP Tryd.prog 58 0 c142_11 [(0, .str (B l)), (1, .int .i64 p), (6, .int .i64 n), (7, .int .i64 x0)] [] (q142_0 0 (fun r H' => r = .tup [.int .i64 ((runeM l p).1 : Nat), .int .i64 ((runeM l p).2 : Nat)] ∧ H' = [])) := by
    intro n x0 hn hx e1 e2
    refine v142_11 _ _ _ _ _ _ (u12 hl (n := n) (by omega) (by omega) (n - 1) 1 x0 (by omega) hx ?_)
    rw [e1, e2]
    exact ⟨rfl, rfl⟩
  refine condE (fun h3 => needJ hin (needJ (by decide) ?_)) fun h3 => ?_
  · have hw : wideM l p = 3 := by omega
    rw [m16]
    refine v142_9 _ _ _ _ _ _ (condE (fun h => by omega) fun _ => key _ _ rfl (by omega) ?_ ?_)
    · rw [hR, runeC, if_neg (by omega), if_neg (by omega), if_neg (by omega), if_pos hw, hw]; rfl
    · rw [hR, runeC, if_neg (by omega), if_neg (by omega), if_neg (by omega), if_pos hw, hw]
  · rw [m32]
    refine v142_9 _ _ _ _ _ _ (condE (fun h => needJ hin (needJ (by decide) ?_)) fun h => key _ _ rfl (by omega) ?_ ?_)
    · have hw : wideM l p = 4 := by omega
      rw [Int.toNat_natCast, show ((List.getD (Array.toList (ByteArray.data (B l))) p 0).toNat : Int) = (bt l p 0 : Nat) from rfl, wrapN (n := bt l p 0) (by omega), m8]
      refine key _ _ rfl (by omega) ?_ ?_
      · rw [hR, runeC, if_neg (by omega), if_neg (by omega), if_neg (by omega), if_neg (by omega), hw]; rfl
      · rw [hR, runeC, if_neg (by omega), if_neg (by omega), if_neg (by omega), if_neg (by omega), hw]
    · have hw : wideM l p = 2 := by omega
      rw [hR, runeC, if_neg (by omega), if_neg (by omega), if_pos hw, hw]; rfl
    · have hw : wideM l p = 2 := by omega
      rw [hR, runeC, if_neg (by omega), if_neg (by omega), if_pos hw, hw]

theorem rune_spec (hl : l.length ≤ 10 * big) (hp : p < l.length) (H : List AObj) :
    ASpec Tryd.prog 142 [.str (B l), .int .i64 p] H (fun r H' => r = .tup [.int .i64 ((runeM l p).1 : Nat), .int .i64 ((runeM l p).2 : Nat)] ∧ H' = H) :=
  ASpec.pureH H (rune_spec0 hl hp) _ _ rfl rfl

/-! ### all runes -/

def runesF : Nat → List UInt8 → Nat → List Int
  | 0, _, _ => []
  | f + 1, l, p => if p < l.length then ((runeM l p).1 : Int) :: runesF f l (p + (runeM l p).2) else []
def runesM (l : List UInt8) : List Int := runesF l.length l 0

theorem leAppI {l : List Int} {x : Int} {H : List AObj} : Le (.sl 1 (.app (.map encI 0 l) (.raw [[.int .i64 x]])) (.tok 1)) (AV.ren (selR [1] H.length) (.sl 1 (.map encI 0 (l ++ [x])) (.tok 0))) := by
  refine Le.sl ?_ (.inl rfl) (.inl rfl)
  simp [Ab.Seq.toList, Seq.ren, encI, renL, AV.ren]

theorem runes3 {Post : AV → List AObj → Prop} (hl : l.length ≤ 1000000) : ∀ (f p : Nat) (acc : List Int), l.length - p ≤ f → acc.length ≤ p → p ≤ l.length + 4 → Post (.sl 1 (.map encI 0 (acc ++ runesF f l p)) (.tok 0)) [.tok] →
    AWP Tryd.prog 25 0 c114_3 [(0, .str (B l)), (3, .sl 1 (.map encI 0 acc) (.tok 0)), (4, .int .i64 p)] [.tok] (q114_2 0 Post) := by
  intro f
  induction f with
  | zero =>
    intro p acc hf ha hp h
    refine v114_3 _ _ _ _ _ (condD (fun hc => by rw [B_size] at hc; omega) fun _ => ?_)
    simpa [runesF] using h
  | succ f ih =>
    intro p acc hf ha hp h
    refine v114_3 _ _ _ _ _ (condD (fun hc => ?_) fun hc => ?_)
    · rw [B_size] at hc
      have hpl : p < l.length := by omega
      have hw := runeM_width l p
      refine ASpec.call (rune_spec (by unfold big; omega) hpl _) (Les.refl _) ⟨(((runeM l p).1 : Int), ((runeM l p).2 : Int)), rfl, rfl, needJ (by omega) ?_⟩
      rw [show IntKind.wrap .i64 ((p : Int) + ((runeM l p).2 : Int)) = ((p + (runeM l p).2 : Nat) : Int) by rw [wrap64 (by omega) (by omega)]; simp]
      refine AWP.shape [1] [(0, .str (B l)), (3, .sl 1 (.map encI 0 (acc ++ [((runeM l p).1 : Int)])) (.tok 0)), (4, .int .i64 (p + (runeM l p).2 : Nat))] _ selTok ⟨rfl, Le.refl _, rfl, leAppI, rfl, Le.refl _, trivial⟩ (ih (p + (runeM l p).2) (acc ++ [((runeM l p).1 : Int)]) (by omega) (by simp; omega) (by omega) ?_)
      simp only [runesF, if_pos hpl] at h
      simpa using h
    · rw [B_size] at hc
      simp only [runesF, if_neg (show ¬ p < l.length by omega)] at h
      simpa using h

theorem runes_spec (hl : l.length ≤ 1000000) (H : List AObj) : ASpec Tryd.prog 114 [.str (B l)] H (fun r H' => r = .sl 1 (.map encI 0 (runesM l)) .none ∧ H' = H) := by
  have k : ASpec Tryd.prog 114 [.str (B l)] [] (fun r H' => r = .sl 1 (.map encI 0 (runesM l)) .none ∧ H' = []) := by
    refine ASpec.sel (s114 _ _ ?_)
    refine AWP.re (ReSt.tok (k := 3) (q' := .map encI 0 []) (sz' := 1) (s2 := [(0, .str (B l)), (3, .sl 1 (.map encI 0 []) (.tok 0)), (4, .int .i64 0)]) rfl (.inl rfl) rfl (.inr rfl) (fun d hd => ?_) rfl) ?_
    · simp only [Ab.get]
      have e : Nat.beq 3 d = false := by
        cases hx : Nat.beq 3 d with
        | false => rfl
        | true => exact absurd (Nat.eq_of_beq_eq_true hx).symm hd
      rw [e]; rfl
    · refine runes3 hl l.length 0 [] (by omega) (by simp) (by omega) ?_
      refine ⟨[], [], .sl 1 (.map encI 0 (runesM l)) .none, Sel.none, ?_, rfl, rfl⟩
      exact Le.sl (s' := Seq.ren _ (.map encI 0 (runesM l))) (by simp [Ab.Seq.toList, Seq.ren, encI, renL, AV.ren, runesM]) (.inl rfl) (.inr rfl)
  exact ASpec.pureH H k _ _ rfl rfl

/-! ### names -/

def fitF (n : Nat) : List Int → Bool
  | [] => decide (0 < n)
  | c :: r => if 3 < kindM c ∨ (n = 0 ∧ 1 < kindM c) ∨ n = 12 then false else fitF (n + 1) r

def fitM (l : List UInt8) : Bool := fitF 0 (runesM l)

theorem fit3 {Post : AV → List AObj → Prop} (hl : l.length ≤ 10 * big) : ∀ (f p n : Nat), l.length - p ≤ f → n ≤ 12 → (∀ q, Post (.bool (fitF n (runesF f l p))) [.siter (B l) q]) →
    AWP Tryd.prog 32 0 c50_3 [(3, .int .i64 n), (8, .ptr 0 0)] [.siter (B l) p] (q50_2 0 Post) := by
  intro f
  induction f with
  | zero =>
    intro p n hf hn h
    refine v50_3 _ _ _ _ _ (condD (fun hc => by rw [B_size] at hc; omega) fun _ => ?_)
    have := h p
    simp only [runesF, fitF] at this
    rw [show decide ((n : Int) > 0) = decide (0 < n) from decide_eq_decide.2 (by omega)]
    exact this
  | succ f ih =>
    intro p n hf hn h
    refine v50_3 _ _ _ _ _ (condD (fun hc => ?_) fun hc => ?_)
    · rw [B_size] at hc
      rw [decode_eq l p hc]
      have hw := runeM_width l p
      simp only [runesF, if_pos hc, fitF] at h
      refine ASpec.call (kind_spec _ _) (Les.refl _) ⟨_, rfl, rfl, ?_⟩
      generalize kindM ((runeM l p).1 : Nat) = k at h ⊢
      have no : (3 < k ∨ (n = 0 ∧ 1 < k) ∨ n = 12) → Post (.bool false) [.siter (B l) (p + (runeM l p).2)] := by
        intro hh
        have := h (p + (runeM l p).2)
        rw [if_pos hh] at this
        exact this
      have yes : ¬ (3 < k ∨ (n = 0 ∧ 1 < k) ∨ n = 12) → AWP Tryd.prog 32 0 c50_3 [(3, .int .i64 (IntKind.wrap .i64 ((n : Int) + 1))), (8, .ptr 0 0)] [.siter (B l) (p + (runeM l p).2)] (q50_2 0 Post) := by
        intro hh
        rw [show IntKind.wrap .i64 ((n : Int) + 1) = ((n + 1 : Nat) : Int) by rw [wrap64 (by omega) (by omega)]; simp]
        refine ih (p + (runeM l p).2) (n + 1) (by omega) (by omega) (fun q => ?_)
        have := h q
        rw [if_neg hh] at this
        exact this
      refine condD (fun h1 => no (.inl h1)) fun h1 => condE (fun h2 => condD (fun h3 => no (.inr (.inl ⟨by omega, h3⟩))) fun h3 => condE (fun h4 => no (.inr (.inr (by omega)))) fun h4 => yes (by omega)) fun h2 => condE (fun h4 => no (.inr (.inr (by omega)))) fun h4 => yes (by omega)
    · rw [B_size] at hc
      have := h p
      simp only [runesF, if_neg hc, fitF] at this
      rw [show decide ((n : Int) > 0) = decide (0 < n) from decide_eq_decide.2 (by omega)]
      exact this

theorem fit_spec (hl : l.length ≤ 10 * big) (H : List AObj) : ASpec Tryd.prog 50 [.str (B l)] H (fun r H' => r = .bool (fitM l) ∧ H' = H) := by
  have k : ASpec Tryd.prog 50 [.str (B l)] [] (fun r H' => r = .bool (fitM l) ∧ H' = []) := by
    refine ASpec.sel (s50 _ _ (fit3 hl l.length 0 0 (by omega) (by omega) (fun q => ⟨[], [], .bool (fitM l), Sel.none, Le.refl _, rfl, rfl⟩)))
  exact ASpec.pureH H k _ _ rfl rfl

theorem fitF_short (hl : True) : ∀ (f p n : Nat), l.length - p ≤ f → n ≤ 12 → fitF n (runesF f l p) = true → l.length - p ≤ 2 * (12 - n) := by
  intro f
  induction f with
  | zero => intro p n hf hn h; omega
  | succ f ih =>
    intro p n hf hn h
    by_cases hc : p < l.length
    · simp only [runesF, if_pos hc, fitF] at h
      split at h
      · cases h
      rename_i hh
      have hw := runeM_small (l := l) (p := p) (by omega)
      have := ih (p + (runeM l p).2) (n + 1) (by have := runeM_width l p; omega) (by omega) h
      omega
    · omega

theorem fitM_short (h : fitM l = true) : l.length ≤ 24 := by
  have := fitF_short (l := l) trivial l.length 0 0 (by omega) (by omega) h
  omega

/-- the document's: by places in a list -/
def fitD (i : Nat) : List Int → Bool
  | [] => true
  | c :: r => if kindM c = 4 ∨ (i = 0 ∧ 1 < kindM c) then false else fitD (i + 1) r

theorem fitF_fitD : ∀ (r : List Int) (i : Nat), i ≤ 12 → fitF i r = (fitD i r && decide (1 ≤ i + r.length) && decide (i + r.length ≤ 12))
  | [], i, hi => by
    simp only [fitF, fitD, List.length_nil, Nat.add_zero, Bool.true_and]
    rw [Bool.eq_iff_iff]; simp; omega
  | c :: r, i, hi => by
    have hk := kindM_range c
    simp only [fitF, fitD, List.length_cons]
    by_cases h1 : kindM c = 4 ∨ (i = 0 ∧ 1 < kindM c)
    · rw [if_pos h1, if_pos (by omega)]; rfl
    · rw [if_neg h1]
      by_cases h2 : i = 12
      · rw [if_pos (by omega)]
        rw [Bool.eq_iff_iff]; simp; omega
      · rw [if_neg (by omega), fitF_fitD r (i + 1) (by omega), show i + 1 + r.length = i + (r.length + 1) by omega]

theorem rfit5 {ls : List Int} {Post : AV → List AObj → Prop} (hl : ls.length ≤ 1000000) : ∀ (m i : Nat), m + i = ls.length → Post (.bool (fitD i (ls.drop i) && (decide (1 ≤ ls.length) && decide (ls.length ≤ 12)))) [] →
    AWP Tryd.prog 42 0 c59_5 [(3, .sl 1 (.map encI 0 ls) .none), (4, .int .i64 i)] [] (q59_2 0 Post) := by
  intro m
  induction m with
  | zero =>
    intro i hm h
    refine v59_5 _ _ _ _ (condD (fun hc => by omega) fun _ => ?_)
    rw [List.drop_eq_nil_of_le (by omega)] at h
    simp only [fitD, Bool.true_and] at h
    refine condD (fun h1 => ?_) fun h1 => ?_
    · rw [decide_eq_true (show 1 ≤ ls.length by omega), Bool.true_and] at h
      rw [show decide ((ls.length : Int) ≤ 12) = decide (ls.length ≤ 12) from decide_eq_decide.2 (by omega)]
      exact h
    · rw [decide_eq_false (show ¬ 1 ≤ ls.length by omega), Bool.false_and] at h
      exact h
  | succ m ih =>
    intro i hm h
    refine v59_5 _ _ _ _ (condD (fun hc => needJ ⟨by omega, by omega⟩ ?_) fun hc => by omega)
    rw [Int.toNat_natCast]
    have hg : ls.drop i = ls.getD i 0 :: ls.drop (i + 1) := by
      rw [List.drop_eq_getElem_cons (by omega)]
      simp [List.getD, List.getElem?_eq_getElem (show i < ls.length by omega)]
    rw [hg] at h
    simp only [fitD] at h
    generalize ls.getD i 0 = c at h ⊢
    have hn : ¬ (kindM c = 4 ∨ (i = 0 ∧ 1 < kindM c)) → AWP Tryd.prog 42 0 c59_5 [(3, .sl 1 (.map encI 0 ls) .none), (4, .int .i64 (IntKind.wrap .i64 ((i : Int) + 1)))] [] (q59_2 0 Post) := by
      intro hh
      rw [if_neg hh] at h
      rw [show IntKind.wrap .i64 ((i : Int) + 1) = ((i + 1 : Nat) : Int) by rw [wrap64 (by omega) (by omega)]; simp]
      exact ih (i + 1) (by omega) h
    have hy : (kindM c = 4 ∨ (i = 0 ∧ 1 < kindM c)) → Post (.bool false) [] := by
      intro hh
      rw [if_pos hh] at h
      simpa using h
    refine ASpec.call (rkind_spec c []) (Les.refl _) ⟨_, rfl, rfl, condE (fun h1 => hy (.inl h1)) fun h1 => condE (fun h2 => needJ ⟨by omega, by omega⟩ ?_) fun h2 => hn (by omega)⟩
    refine ASpec.call (rkind_spec c []) (Les.refl _) ⟨_, rfl, rfl, condD (fun h3 => hy (.inr ⟨by omega, h3⟩)) fun h3 => hn (by omega)⟩

theorem runesF_len : ∀ (f p : Nat), (runesF f l p).length ≤ f
  | 0, p => by simp [runesF]
  | f + 1, p => by
    simp only [runesF]
    split
    · have := runesF_len f (p + (runeM l p).2)
      simp; omega
    · simp

theorem rfit_spec (hl : l.length ≤ 10 * big) (H : List AObj) : ASpec Tryd.prog 59 [.str (B l)] H (fun r H' => r = .bool (fitM l) ∧ H' = H) := by
  have k : ASpec Tryd.prog 59 [.str (B l)] [] (fun r H' => r = .bool (fitM l) ∧ H' = []) := by
    refine s59 _ _ ?_
    rw [B_size]
    refine condD (fun h1 => ?_) fun h1 => ?_
    · have : fitM l = false := by
        cases h : fitM l with
        | false => rfl
        | true => have := fitM_short h; omega
      rw [this]; exact ⟨rfl, rfl⟩
    · have hlen := runesF_len (l := l) l.length 0
      refine ASpec.call (runes_spec (by omega) []) (Les.refl _) ⟨_, rfl, rfl, rfit5 (ls := runesM l) (by unfold runesM; omega) (runesM l).length 0 (by omega) ?_⟩
      unfold fitM
      rw [fitF_fitD _ 0 (by omega), List.drop_zero, Nat.zero_add, Bool.and_assoc]
      exact ⟨rfl, rfl⟩
  exact ASpec.pureH H k _ _ rfl rfl

end
end S
end

section
/- Which spans, needs and manifests may be: the code's walks and the document's. -/

set_option linter.unusedVariables false
set_option linter.unusedSimpArgs false
set_option maxRecDepth 100000
open Go Go.Ab Go.Proofs V S T
namespace C

/-- the answer c, whatever lies in the heap -/
abbrev PB (c : Bool) : AV → List AObj → Prop := fun r H' => ∃ l H2 r2, Sel 0 l H' H2 ∧ Le r (AV.ren (selR l H'.length) r2) ∧ (r2 = .bool c ∧ H2 = [])
theorem pb {b c : Bool} {H' : List AObj} (h : b = c) : PB c (.bool b) H' := ⟨[], [], .bool c, Sel.none, h ▸ Le.refl _, rfl, rfl⟩

theorem dropD {α : Type} (l : List α) (d : α) (i : Nat) (h : i < l.length) : l.drop i = l.getD i d :: l.drop (i + 1) := by
  rw [List.drop_eq_getElem_cons h]
  simp [List.getD, List.getElem?_eq_getElem h]

theorem memD {α : Type} (l : List α) (d : α) (i : Nat) (h : i < l.length) : l.getD i d ∈ l := by
  simp [List.getD, List.getElem?_eq_getElem h]

theorem succ64 {i : Nat} (h : i ≤ 10000000) : IntKind.wrap .i64 ((i : Int) + 1) = ((i + 1 : Nat) : Int) := by rw [wrap64 (by omega) (by omega)]; simp
abbrev lim : Nat := 1000000

/-! ### spans -/

/-! ### needs -/

/-! ### manifests -/

theorem verFit_spec (x : Int) (H : List AObj) : ASpec Tryd.prog 71 [.int .i64 x] H (fun r H' => r = .bool (decide (0 ≤ x ∧ x < 1000000000)) ∧ H' = H) := by
  have k : ASpec Tryd.prog 71 [.int .i64 x] [] (fun r H' => r = .bool (decide (0 ≤ x ∧ x < 1000000000)) ∧ H' = []) := by
    refine s71 _ _ (condD (fun h => ⟨?_, rfl⟩) fun h => ⟨?_, rfl⟩)
    · congr 1; exact decide_eq_decide.2 (by omega)
    · rw [decide_eq_false (by omega)]
  exact ASpec.pureH H k _ _ rfl rfl

/-! ### are they large? -/

end C
end

section
/- Manifests as bytes: what the code puts, and the document. -/

set_option linter.unusedVariables false
set_option linter.unusedSimpArgs false
set_option maxRecDepth 100000
open Go Go.Ab Go.Proofs V S T C
namespace W

def numB (x : Int) : List UInt8 := enc (held x)
def text (s : List UInt8) : List UInt8 := enc (held s.length) ++ s
theorem numB_len (x : Int) : (numB x).length ≤ 6 := enc_length _ (held_le _)
theorem text_len (s : List UInt8) : (text s).length ≤ s.length + 6 := by
  have := enc_length (held s.length) (held_le _)
  simp [text]; omega

theorem flat_len {α : Type} (f : α → List UInt8) (k : Nat) : ∀ (l : List α), (∀ x ∈ l, (f x).length ≤ k) → (l.flatMap f).length ≤ l.length * k
  | [], _ => by simp
  | x :: r, h => by
    have h1 := h x (by simp)
    have h2 := flat_len f k r (fun y hy => h y (by simp [hy]))
    rw [List.flatMap_cons, List.length_append, List.length_cons, Nat.add_mul]
    omega

theorem lenL {α : Type} {a c P : List α} (h : a ++ c = P) : a.length ≤ P.length := by rw [← h]; simp

theorem leTwo (a b : Int) : Le (.sl 1 (.raw [[.int .i64 a], [.int .i64 b]]) .full) (.sl 1 (.map encI 0 [a, b]) .none) := Le.sl rfl (.inl rfl) (.inr rfl)
theorem leTok {l : List UInt8} {t : Tip} : Le (.sl 1 (.map encB 0 l) t) (.sl 1 (.map encB 0 l) .none) := Le.sl rfl (.inl rfl) (.inr rfl)
theorem put1M (b : List UInt8) (x : Int) : putM b [x] = b ++ numB x := by simp [putM, numB]
theorem put2M (b : List UInt8) (x y : Int) : putM b [x, y] = b ++ (numB x ++ numB y) := by simp [putM, numB]

section
variable {Post : AV → List AObj → Prop}

abbrev sl1 (b : List UInt8) : AV := .sl 1 (.map encB 0 b) .none
/-! ### the document's -/

end
end W
end
