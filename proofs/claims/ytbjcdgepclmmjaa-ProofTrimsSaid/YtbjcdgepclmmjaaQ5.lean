/- Q5: several of this proof's own texts, one behind the other: what each proves stands at its head. -/
import Derived.Test.YtbjcdgepclmmjaaProg
import Derived.Test.YtbjcdgepclmmjaaA3
import Derived.Sort.Walk0
import Derived.Lib.Bytealg
section
/- Printed: what the code of functions 140, 141, 150, 151, 142, 143, 145, 144, 251, 146, 147, 148, 149, 250, 252 asks for, by the framework's own reading of it; each line is checked against the code. -/

set_option linter.unusedVariables false
set_option maxRecDepth 100000
set_option maxHeartbeats 4000000
open Go Go.Ab Go.Proofs
namespace V
noncomputable section

noncomputable def encR (x : Int × Int) : List AV := [.int .i64 x.1, .int .i64 x.2]
noncomputable def rd (bs : List UInt8) (p e : Int) : AObj := .cells [.sl 1 (.map encB 0 bs) .none, .int .i64 p, .int .i64 e]
noncomputable def upd3 (args : List AV) (H : List AObj) (p e : Int) : List AObj := match args with
  | .ptr id _ :: _ => match H[id]? with
    | some (.cells [b, _, _]) => H.set id (.cells [b, .int .i64 p, .int .i64 e])
    | _ => H
  | _ => H
noncomputable def upd2 (args : List AV) (H : List AObj) (s : ByteArray) (e : Int) : List AObj := match args with
  | .ptr id _ :: _ => H.set id (.cells [.str s, .int .i64 e])
  | _ => H
noncomputable def retL : List (Nat × Ret) := [
  (9016, ⟨Unit, fun _ _ _ => .bool true, fun _ H _ => H⟩),
  (140, ⟨List UInt8, fun _ H l => .sl 1 (.map encB 0 l) (.tok H.length), fun _ H _ => H ++ [.tok]⟩),
  (141, ⟨List UInt8, fun _ H l => .sl 1 (.map encB 0 l) (.tok H.length), fun _ H _ => H ++ [.tok]⟩),
  (9019, ⟨ByteArray, fun _ _ s => .str s, fun _ H _ => H⟩),
  (151, ⟨ByteArray, fun _ _ s => .str s, fun _ H _ => H⟩),
  (142, ⟨List UInt8, fun _ H _ => .ptr H.length 0, fun _ H l => H ++ [rd l 0 0]⟩),
  (143, ⟨Int × Int × Int, fun _ _ x => .int .i64 x.1, fun a H x => upd3 a H x.2.1 x.2.2⟩),
  (145, ⟨ByteArray × Int × Int, fun _ _ x => .str x.1, fun a H x => upd3 a H x.2.1 x.2.2⟩),
  (144, ⟨Int, fun _ _ x => .int .i64 x, fun _ H _ => H⟩),
  (251, ⟨Int, fun _ _ x => .int .i64 x, fun _ H _ => H⟩),
  (147, ⟨Int × ByteArray × Int, fun _ _ x => .int .i64 x.1, fun a H x => upd2 a H x.2.1 x.2.2⟩),
  (148, ⟨ByteArray × ByteArray × Int, fun _ _ x => .str x.1, fun a H x => upd2 a H x.2.1 x.2.2⟩),
  (9028, ⟨Int × Int, fun _ _ x => .tup [], fun a H x => upd3 a H x.1 x.2⟩),
  (9029, ⟨ByteArray × Int, fun _ _ x => .tup [], fun a H x => upd2 a H x.1 x.2⟩),
  (146, ⟨Int, fun _ _ x => .int .i64 x, fun _ H _ => H⟩),
  (149, ⟨Int, fun _ _ x => .int .i64 x, fun _ H _ => H⟩),
  (150, ⟨ByteArray, fun _ _ s => .str s, fun _ H _ => H⟩),
  (250, ⟨Int × Int × Int × Int, fun _ _ x => .tup [.int .i64 x.1, .int .i64 x.2.1], fun a H x => upd3 a H x.2.2.1 x.2.2.2⟩),
  (252, ⟨Int × Int × Int, fun _ _ x => .tup [.int .i64 x.1, .int .i64 x.2.1, .int .i64 x.2.2], fun _ H _ => H⟩)]
noncomputable def rets : FuncId → List Ret := lookupR retL

-- 140
noncomputable def l140 : Nat → List Nat
  | 3 => [5, 12, 13, 14]
  | 7 => [5, 7, 8, 12, 13, 14]
  | 9 => [5, 7, 8, 12, 13, 14]
  | _ => []
noncomputable def u140 : Nat → Bool
  | _ => false
noncomputable def m140 : Nat → Bool
  | _ => false
noncomputable def g140 : Cfg := { N := 48, live := l140, cut := u140, mu := m140, ret := rets }
noncomputable def c140 : Go.Code := Go.Ab.bodyOf Go.Proofs.Try.f140
noncomputable def q140_0 : Nat → (AV → List AObj → Prop) → AQ := fun (n : Nat) (Post : AV → List AObj → Prop) => endQ Try.prog (resultsOf Try.f140) Post
noncomputable def q140_1 : Nat → (AV → List AObj → Prop) → AQ := fun (n : Nat) (Post : AV → List AObj → Prop) => seqQ (fun (s' : Slots) (H' : List AObj) => awp Try.prog g140 n (codeSnd (codeSnd (codeSnd c140))) s' H' (q140_0 n Post)) (q140_0 n Post)
noncomputable def q140_2 : Nat → (AV → List AObj → Prop) → AQ := fun (n : Nat) (Post : AV → List AObj → Prop) => blockQ 0 (q140_1 n Post)
noncomputable def c140_3 : Go.Code := codeFst (codeSnd (codeFst (codeSnd (codeSnd c140))))
theorem s140 : ∀ (bs : List UInt8) (tip : Tip) (ns : List Int) (tip2 : Tip) (Post : AV → List AObj → Prop),
  needP (∀ (x : UInt8), List.all (encB x) oneAV = true)
      (needP ((0 + List.length bs) * 1 ≤ 140737488351232)
        (AWP Try.prog 48 0 c140_3
        [(5, AV.sl 1 (Seq.app (Seq.raw []) (Seq.map encB (0 : UInt8) bs)) (Tip.tok 0)), (12, AV.sl 1 (Seq.map encI (0 : Int) ns) tip2),
        (13, AV.int IntKind.i64 (↑(List.length ns) : Int)), (14, AV.int IntKind.i64 (0 : Int))]
        [AObj.tok] (q140_2 0 Post))) →
    ASpec Try.prog 140 [AV.sl 1 (Seq.map encB (0 : UInt8) bs) tip, AV.sl 1 (Seq.map encI (0 : Int) ns) tip2] [] Post := fun bs tip ns tip2 Post h => Go.Ab.ASpec.of_vc g140 Go.Proofs.Try.func140 (by kernel_rfl) (by kernel_rfl) (by kernel_rfl) (Go.Ab.kc (by kernel_rfl) h)
noncomputable def q140_3 : Nat → (AV → List AObj → Prop) → AQ := fun (n : Nat) (Post : AV → List AObj → Prop) => loopQ Try.prog 48 n c140_3 (q140_2 n Post) (Cfg.live g140)
noncomputable def q140_4 : Nat → (AV → List AObj → Prop) → AQ := fun (n : Nat) (Post : AV → List AObj → Prop) => seqQ (fun (s' : Slots) (H' : List AObj) => awp Try.prog g140 n (codeSnd (codeSnd (codeSnd (codeFst c140_3)))) s' H' (q140_3 n Post)) (q140_3 n Post)
noncomputable def q140_5 : Nat → (AV → List AObj → Prop) → AQ := fun (n : Nat) (Post : AV → List AObj → Prop) => blockQ 1 (q140_4 n Post)
noncomputable def q140_6 : Nat → (AV → List AObj → Prop) → AQ := fun (n : Nat) (Post : AV → List AObj → Prop) => seqQ (fun (s' : Slots) (H' : List AObj) => awp Try.prog g140 n (codeSnd (codeSnd (codeSnd (codeSnd (codeFst (codeFst (codeSnd (codeSnd (codeFst c140_3))))))))) s' H' (q140_5 n Post)) (q140_5 n Post)
noncomputable def q140_7 : Nat → (AV → List AObj → Prop) → AQ := fun (n : Nat) (Post : AV → List AObj → Prop) => blockQ 2 (q140_6 n Post)
noncomputable def c140_7 : Go.Code := codeFst (codeFst (codeSnd (codeSnd (codeSnd (codeFst (codeFst (codeSnd (codeSnd (codeFst c140_3)))))))))
theorem v140_3 : ∀ (l : List UInt8) (ns : List Int) (tip2 : Tip) (k : Nat) (i : Int) (n : Nat) (Post : AV → List AObj → Prop),
  condP (decide (i < (↑k : Int)))
      (needP ((0 : Int) ≤ i ∧ i < (↑(List.length ns) : Int))
        (AWP Try.prog 48 n c140_7
        [(5, AV.sl 1 (Seq.map encB (0 : UInt8) l) (Tip.tok 0)),
        (7,
        AV.int IntKind.i64
        (if (1099511627776 : Int) < if (0 : Int) > List.getD ns (Int.toNat i) (0 : Int) then (0 : Int) else List.getD ns (Int.toNat i) (0 : Int) then (1099511627776 : Int)
        else if (0 : Int) > List.getD ns (Int.toNat i) (0 : Int) then (0 : Int) else List.getD ns (Int.toNat i) (0 : Int))),
        (8, AV.int IntKind.i64 (1 : Int)), (12, AV.sl 1 (Seq.map encI (0 : Int) ns) tip2), (13, AV.int IntKind.i64 (↑k : Int)), (14, AV.int IntKind.i64 i)]
        [AObj.tok] (q140_7 n Post)))
      (Post (AV.sl 1 (Seq.map encB (0 : UInt8) l) (Tip.tok 0)) [AObj.tok]) →
    AWP Try.prog 48 n c140_3
      [(5, AV.sl 1 (Seq.map encB (0 : UInt8) l) (Tip.tok 0)), (12, AV.sl 1 (Seq.map encI (0 : Int) ns) tip2), (13, AV.int IntKind.i64 (↑k : Int)),
        (14, AV.int IntKind.i64 i)]
      [AObj.tok] (q140_2 n Post) := fun l ns tip2 k i n Post h => Go.Ab.AWP.loop' g140 (Cfg.live g140) c140_3 (by kernel_rfl) (by kernel_rfl) (Go.Ab.kc (by kernel_rfl) h)
noncomputable def q140_8 : Nat → (AV → List AObj → Prop) → AQ := fun (n : Nat) (Post : AV → List AObj → Prop) => seqQ (fun (s' : Slots) (H' : List AObj) => awp Try.prog g140 n (codeSnd (codeSnd (codeSnd (codeSnd (codeSnd (codeFst (codeFst (codeSnd (codeSnd (codeFst c140_3)))))))))) s' H' (q140_5 n Post)) (q140_5 n Post)
noncomputable def q140_9 : Nat → (AV → List AObj → Prop) → AQ := fun (n : Nat) (Post : AV → List AObj → Prop) => blockQ 4 (q140_8 n Post)
noncomputable def c140_9 : Go.Code := codeFst (codeFst (codeSnd (codeSnd (codeSnd (codeSnd (codeFst (codeFst (codeSnd (codeSnd (codeFst c140_3))))))))))
theorem v140_7 : ∀ (l : List UInt8) (v w : Int) (ns : List Int) (tip2 : Tip) (k : Nat) (i : Int) (n : Nat) (Post : AV → List AObj → Prop),
  needP (w ≠ (0 : Int))
      (condP (decide (IntKind.wrap IntKind.i64 (Int.tdiv v w) ≥ (128 : Int)))
        (AWP Try.prog 48 n c140_7
        [(5, AV.sl 1 (Seq.map encB (0 : UInt8) l) (Tip.tok 0)), (7, AV.int IntKind.i64 v),
        (8, AV.int IntKind.i64 (IntKind.wrap IntKind.i64 (w * (128 : Int)))), (12, AV.sl 1 (Seq.map encI (0 : Int) ns) tip2), (13, AV.int IntKind.i64 (↑k : Int)),
        (14, AV.int IntKind.i64 i)]
        [AObj.tok] (q140_7 n Post))
        (AWP Try.prog 48 n c140_9
        [(5, AV.sl 1 (Seq.map encB (0 : UInt8) l) (Tip.tok 0)), (7, AV.int IntKind.i64 v), (8, AV.int IntKind.i64 w),
        (12, AV.sl 1 (Seq.map encI (0 : Int) ns) tip2), (13, AV.int IntKind.i64 (↑k : Int)), (14, AV.int IntKind.i64 i)]
        [AObj.tok] (q140_9 n Post))) →
    AWP Try.prog 48 n c140_7
      [(5, AV.sl 1 (Seq.map encB (0 : UInt8) l) (Tip.tok 0)), (7, AV.int IntKind.i64 v), (8, AV.int IntKind.i64 w),
        (12, AV.sl 1 (Seq.map encI (0 : Int) ns) tip2), (13, AV.int IntKind.i64 (↑k : Int)), (14, AV.int IntKind.i64 i)]
      [AObj.tok] (q140_7 n Post) := fun l v w ns tip2 k i n Post h => Go.Ab.AWP.loop' g140 (Cfg.live g140) c140_7 (by kernel_rfl) (by kernel_rfl) (Go.Ab.kc (by kernel_rfl) h)
theorem v140_9 : ∀ (l : List UInt8) (v w : Int) (ns : List Int) (tip2 : Tip) (k : Nat) (i : Int) (n : Nat) (Post : AV → List AObj → Prop),
  condP (decide (w > (1 : Int)))
      (needP (w ≠ (0 : Int))
        (needP ((128 : Int) ≠ (0 : Int))
        (needP ((List.length l + 1) * 1 ≤ 140737488351232)
        (needP ((128 : Int) ≠ (0 : Int))
        (AWP Try.prog 48 n c140_9
        [(5,
        AV.sl 1
        (Seq.app (Seq.map encB (0 : UInt8) l)
        (Seq.raw [[AV.int IntKind.u8 (IntKind.wrap IntKind.u8 (IntKind.wrap IntKind.i64 ((128 : Int) + Int.tmod (IntKind.wrap IntKind.i64 (Int.tdiv v w)) (128 : Int))))]]))
        (Tip.tok 1)),
        (7, AV.int IntKind.i64 v), (8, AV.int IntKind.i64 (IntKind.wrap IntKind.i64 (Int.tdiv w (128 : Int)))),
        (12, AV.sl 1 (Seq.map encI (0 : Int) ns) tip2), (13, AV.int IntKind.i64 (↑k : Int)), (14, AV.int IntKind.i64 i)]
        [AObj.gone, AObj.tok] (q140_9 n Post))))))
      (needP ((128 : Int) ≠ (0 : Int))
        (needP ((List.length l + 1) * 1 ≤ 140737488351232)
        (AWP Try.prog 48 n c140_3
        [(5, AV.sl 1 (Seq.app (Seq.map encB (0 : UInt8) l) (Seq.raw [[AV.int IntKind.u8 (IntKind.wrap IntKind.u8 (Int.tmod v (128 : Int)))]])) (Tip.tok 1)),
        (12, AV.sl 1 (Seq.map encI (0 : Int) ns) tip2), (13, AV.int IntKind.i64 (↑k : Int)), (14, AV.int IntKind.i64 (IntKind.wrap IntKind.i64 (i + (1 : Int))))]
        [AObj.gone, AObj.tok] (q140_2 n Post)))) →
    AWP Try.prog 48 n c140_9
      [(5, AV.sl 1 (Seq.map encB (0 : UInt8) l) (Tip.tok 0)), (7, AV.int IntKind.i64 v), (8, AV.int IntKind.i64 w),
        (12, AV.sl 1 (Seq.map encI (0 : Int) ns) tip2), (13, AV.int IntKind.i64 (↑k : Int)), (14, AV.int IntKind.i64 i)]
      [AObj.tok] (q140_9 n Post) := fun l v w ns tip2 k i n Post h => Go.Ab.AWP.loop' g140 (Cfg.live g140) c140_9 (by kernel_rfl) (by kernel_rfl) (Go.Ab.kc (by kernel_rfl) h)

-- 141
noncomputable def l141 : Nat → List Nat
  | _ => []
noncomputable def u141 : Nat → Bool
  | _ => false
noncomputable def m141 : Nat → Bool
  | _ => false
noncomputable def g141 : Cfg := { N := 12, live := l141, cut := u141, mu := m141, ret := rets }
theorem s141 : ∀ (bs : List UInt8) (tip : Tip) (s : ByteArray) (Post : AV → List AObj → Prop),
  (ASpec Try.prog 140 [AV.sl 1 (Seq.map encB (0 : UInt8) bs) tip, AV.sl 1 (Seq.raw [[AV.int IntKind.i64 (↑(ByteArray.size s) : Int)]]) Tip.full] []
      fun (r : AV) (H' : List AObj) =>
      ∃ (x : List UInt8),
        r = AV.sl 1 (Seq.map encB (0 : UInt8) x) (Tip.tok 0) ∧
        H' = [AObj.tok] ∧
        needP (∀ (x : UInt8), List.all (encB x) oneAV = true)
        (needP ((List.length x + Seq.len (bytesSeq s)) * 1 ≤ 140737488351232)
        (Post (AV.sl 1 (Seq.app (Seq.map encB (0 : UInt8) x) (bytesSeq s)) (Tip.tok 1)) [AObj.gone, AObj.tok]))) →
    ASpec Try.prog 141 [AV.sl 1 (Seq.map encB (0 : UInt8) bs) tip, AV.str s] [] Post := fun bs tip s Post h => Go.Ab.ASpec.of_vc g141 Go.Proofs.Try.func141 (by kernel_rfl) (by kernel_rfl) (by kernel_rfl) (Go.Ab.kc (by kernel_rfl) h)

-- 150
noncomputable def l143 : Nat → List Nat
  | _ => []
noncomputable def u143 : Nat → Bool
  | _ => false
noncomputable def m143 : Nat → Bool
  | _ => false
noncomputable def g143 : Cfg := { N := 27, live := l143, cut := u143, mu := m143, ret := rets }
theorem s143 : ∀ (bs : List UInt8) (p e most : Int) (Post : AV → List AObj → Prop),
  condP (e != (0 : Int)) (Post (AV.int IntKind.i64 (0 : Int)) [AObj.cells [AV.sl 1 (Seq.map encB (0 : UInt8) bs) Tip.none, AV.int IntKind.i64 p, AV.int IntKind.i64 e]])
      (ASpec Try.prog 250 [AV.ptr 0 0, AV.int IntKind.i64 most]
        [AObj.cells [AV.sl 1 (Seq.map encB (0 : UInt8) bs) Tip.none, AV.int IntKind.i64 p, AV.int IntKind.i64 e]] fun (r : AV) (H' : List AObj) =>
        ∃ (x : Int × Int × Int × Int),
        r = AV.tup [AV.int IntKind.i64 (Prod.fst x), AV.int IntKind.i64 (Prod.fst (Prod.snd x))] ∧
        H' = [AObj.cells [AV.sl 1 (Seq.map encB (0 : UInt8) bs) Tip.none, AV.int IntKind.i64 (Prod.fst (Prod.snd (Prod.snd x))), AV.int IntKind.i64 (Prod.snd (Prod.snd (Prod.snd x)))]] ∧
        Post (AV.int IntKind.i64 (Prod.fst x))
        [AObj.cells [AV.sl 1 (Seq.map encB (0 : UInt8) bs) Tip.none, AV.int IntKind.i64 (Prod.fst (Prod.snd x)), AV.int IntKind.i64 (Prod.snd (Prod.snd (Prod.snd x)))]]) →
    ASpec Try.prog 143 [AV.ptr 0 0, AV.int IntKind.i64 most] [rd bs p e] Post := fun bs p e most Post h => Go.Ab.ASpec.of_vc g143 Go.Proofs.Try.func143 (by kernel_rfl) (by kernel_rfl) (by kernel_rfl) (Go.Ab.kc (by kernel_rfl) h)
noncomputable def l145 : Nat → List Nat
  | _ => []
noncomputable def u145 : Nat → Bool
  | _ => false
noncomputable def m145 : Nat → Bool
  | _ => false
noncomputable def g145 : Cfg := { N := 56, live := l145, cut := u145, mu := m145, ret := rets }
theorem s145 : ∀ (bs : List UInt8) (p e most : Int) (Post : AV → List AObj → Prop),
  condP (e != (0 : Int)) (Post (AV.str { data := #[] }) [AObj.cells [AV.sl 1 (Seq.map encB (0 : UInt8) bs) Tip.none, AV.int IntKind.i64 p, AV.int IntKind.i64 e]])
      (ASpec Try.prog 250 [AV.ptr 0 0, AV.int IntKind.i64 most]
        [AObj.cells [AV.sl 1 (Seq.map encB (0 : UInt8) bs) Tip.none, AV.int IntKind.i64 p, AV.int IntKind.i64 e]] fun (r : AV) (H' : List AObj) =>
        ∃ (x : Int × Int × Int × Int),
        r = AV.tup [AV.int IntKind.i64 (Prod.fst x), AV.int IntKind.i64 (Prod.fst (Prod.snd x))] ∧
        H' = [AObj.cells [AV.sl 1 (Seq.map encB (0 : UInt8) bs) Tip.none, AV.int IntKind.i64 (Prod.fst (Prod.snd (Prod.snd x))), AV.int IntKind.i64 (Prod.snd (Prod.snd (Prod.snd x)))]] ∧
        condP (Prod.snd (Prod.snd (Prod.snd x)) != (0 : Int))
        (Post (AV.str { data := #[] })
        [AObj.cells [AV.sl 1 (Seq.map encB (0 : UInt8) bs) Tip.none, AV.int IntKind.i64 (Prod.fst (Prod.snd (Prod.snd x))), AV.int IntKind.i64 (Prod.snd (Prod.snd (Prod.snd x)))]])
        (condP (decide (Prod.fst x > IntKind.wrap IntKind.i64 ((↑(List.length bs) : Int) - Prod.fst (Prod.snd x))))
        (Post (AV.str { data := #[] })
        [AObj.cells [AV.sl 1 (Seq.map encB (0 : UInt8) bs) Tip.none, AV.int IntKind.i64 (Prod.fst (Prod.snd (Prod.snd x))), AV.int IntKind.i64 (2 : Int)]])
        (needP
        ((0 : Int) ≤ Prod.fst (Prod.snd x) ∧
        Prod.fst (Prod.snd x) ≤ IntKind.wrap IntKind.i64 (Prod.fst (Prod.snd x) + Prod.fst x) ∧ IntKind.wrap IntKind.i64 (Prod.fst (Prod.snd x) + Prod.fst x) ≤ (↑(List.length bs) : Int))
        (needP
        (allBytes (Seq.map encB (0 : UInt8) (List.drop (Int.toNat (Prod.fst (Prod.snd x))) (List.take (Int.toNat (IntKind.wrap IntKind.i64 (Prod.fst (Prod.snd x) + Prod.fst x))) bs))))
        (Post
        (AV.str
        (bytesOf
        (Seq.map encB (0 : UInt8) (List.drop (Int.toNat (Prod.fst (Prod.snd x))) (List.take (Int.toNat (IntKind.wrap IntKind.i64 (Prod.fst (Prod.snd x) + Prod.fst x))) bs)))))
        [AObj.cells
        [AV.sl 1 (Seq.map encB (0 : UInt8) bs) Tip.none, AV.int IntKind.i64 (IntKind.wrap IntKind.i64 (Prod.fst (Prod.snd x) + Prod.fst x)),
        AV.int IntKind.i64 (Prod.snd (Prod.snd (Prod.snd x)))]]))))) →
    ASpec Try.prog 145 [AV.ptr 0 0, AV.int IntKind.i64 most] [rd bs p e] Post := fun bs p e most Post h => Go.Ab.ASpec.of_vc g145 Go.Proofs.Try.func145 (by kernel_rfl) (by kernel_rfl) (by kernel_rfl) (Go.Ab.kc (by kernel_rfl) h)
noncomputable def l144 : Nat → List Nat
  | _ => []
noncomputable def u144 : Nat → Bool
  | _ => false
noncomputable def m144 : Nat → Bool
  | _ => false
noncomputable def g144 : Cfg := { N := 9, live := l144, cut := u144, mu := m144, ret := rets }
theorem s144 : ∀ (bs : List UInt8) (p e : Int) (Post : AV → List AObj → Prop),
  Post (AV.int IntKind.i64 e) [AObj.cells [AV.sl 1 (Seq.map encB (0 : UInt8) bs) Tip.none, AV.int IntKind.i64 p, AV.int IntKind.i64 e]] →
    ASpec Try.prog 144 [AV.ptr 0 0] [rd bs p e] Post := fun bs p e Post h => Go.Ab.ASpec.of_vc g144 Go.Proofs.Try.func144 (by kernel_rfl) (by kernel_rfl) (by kernel_rfl) (Go.Ab.kc (by kernel_rfl) h)
noncomputable def l250 : Nat → List Nat
  | 9 => [0, 1, 6, 44]
  | _ => []
noncomputable def u250 : Nat → Bool
  | _ => false
noncomputable def m250 : Nat → Bool
  | _ => false
noncomputable def g250 : Cfg := { N := 113, live := l250, cut := u250, mu := m250, ret := rets }
noncomputable def c250 : Go.Code := Go.Ab.bodyOf Go.Proofs.Try.f250
noncomputable def q250_0 : Nat → (AV → List AObj → Prop) → AQ := fun (n : Nat) (Post : AV → List AObj → Prop) => endQ Try.prog (resultsOf Try.f250) Post
noncomputable def q250_1 : Nat → (AV → List AObj → Prop) → AQ := fun (n : Nat) (Post : AV → List AObj → Prop) => seqQ (fun (s' : Slots) (H' : List AObj) => awp Try.prog g250 n (codeSnd (codeSnd (codeSnd (codeSnd (codeSnd c250))))) s' H' (q250_0 n Post)) (q250_0 n Post)
noncomputable def q250_2 : Nat → (AV → List AObj → Prop) → AQ := fun (n : Nat) (Post : AV → List AObj → Prop) => blockQ 0 (q250_1 n Post)
noncomputable def c250_9 : Go.Code := codeFst (codeSnd (codeFst (codeSnd (codeSnd (codeSnd (codeSnd c250))))))
theorem s250 : ∀ (bs : List UInt8) (p e most : Int) (Post : AV → List AObj → Prop),
  condP (p == (↑(List.length bs) : Int))
      ((AV.int IntKind.i64 p = AV.int IntKind.i64 p ∧
        [AObj.cells [AV.sl 1 (Seq.map encB (0 : UInt8) bs) Tip.none, AV.int IntKind.i64 p, AV.int IntKind.i64 (2 : Int)]] =
        [AObj.cells [AV.sl 1 (Seq.map encB (0 : UInt8) bs) Tip.none, AV.int IntKind.i64 p, AV.int IntKind.i64 (2 : Int)]]) ∧
        Post (AV.tup [AV.int IntKind.i64 (0 : Int), AV.int IntKind.i64 p]) [AObj.cells [AV.sl 1 (Seq.map encB (0 : UInt8) bs) Tip.none, AV.int IntKind.i64 p, AV.int IntKind.i64 (2 : Int)]])
      (needP ((0 : Int) ≤ p ∧ p < (↑(List.length bs) : Int))
        (condP ((↑(UInt8.toNat (List.getD bs (Int.toNat p) (0 : UInt8))) : Int) == (128 : Int))
        ((AV.int IntKind.i64 p = AV.int IntKind.i64 p ∧
        [AObj.cells [AV.sl 1 (Seq.map encB (0 : UInt8) bs) Tip.none, AV.int IntKind.i64 p, AV.int IntKind.i64 (3 : Int)]] =
        [AObj.cells [AV.sl 1 (Seq.map encB (0 : UInt8) bs) Tip.none, AV.int IntKind.i64 p, AV.int IntKind.i64 (3 : Int)]]) ∧
        Post (AV.tup [AV.int IntKind.i64 (0 : Int), AV.int IntKind.i64 p])
        [AObj.cells [AV.sl 1 (Seq.map encB (0 : UInt8) bs) Tip.none, AV.int IntKind.i64 p, AV.int IntKind.i64 (3 : Int)]])
        (AWP Try.prog 113 1 c250_9
        [(0, AV.ptr 0 0), (1, AV.int IntKind.i64 most), (6, AV.int IntKind.i64 (0 : Int)), (44, AV.int IntKind.i64 (0 : Int))]
        [AObj.cells [AV.sl 1 (Seq.map encB (0 : UInt8) bs) Tip.none, AV.int IntKind.i64 p, AV.int IntKind.i64 e]] (q250_2 1 Post)))) →
    ASpec Try.prog 250 [AV.ptr 0 0, AV.int IntKind.i64 most] [rd bs p e] Post := fun bs p e most Post h => Go.Ab.ASpec.of_vc g250 Go.Proofs.Try.func250 (by kernel_rfl) (by kernel_rfl) (by kernel_rfl) (Go.Ab.kc (by kernel_rfl) h)
theorem v250_9 : ∀ (bs : List UInt8) (p e most x i : Int) (n : Nat) (Post : AV → List AObj → Prop),
  condP (decide (i < (6 : Int)))
      (condP (IntKind.wrap IntKind.i64 (p + i) == (↑(List.length bs) : Int))
        ((AV.int IntKind.i64 p = AV.int IntKind.i64 p ∧
        [AObj.cells [AV.sl 1 (Seq.map encB (0 : UInt8) bs) Tip.none, AV.int IntKind.i64 p, AV.int IntKind.i64 (2 : Int)]] =
        [AObj.cells [AV.sl 1 (Seq.map encB (0 : UInt8) bs) Tip.none, AV.int IntKind.i64 p, AV.int IntKind.i64 (2 : Int)]]) ∧
        Post (AV.tup [AV.int IntKind.i64 (0 : Int), AV.int IntKind.i64 p]) [AObj.cells [AV.sl 1 (Seq.map encB (0 : UInt8) bs) Tip.none, AV.int IntKind.i64 p, AV.int IntKind.i64 (2 : Int)]])
        (needP ((0 : Int) ≤ IntKind.wrap IntKind.i64 (p + i) ∧ IntKind.wrap IntKind.i64 (p + i) < (↑(List.length bs) : Int))
        (needP ((128 : Int) ≠ (0 : Int))
        (condP (decide (IntKind.wrap IntKind.i64 (↑(UInt8.toNat (List.getD bs (Int.toNat (IntKind.wrap IntKind.i64 (p + i))) (0 : UInt8))) : Int) ≥ (128 : Int)))
        (AWP Try.prog 113 n c250_9
        [(0, AV.ptr 0 0), (1, AV.int IntKind.i64 most),
        (6,
        AV.int IntKind.i64
        (IntKind.wrap IntKind.i64
        (IntKind.wrap IntKind.i64 (x * (128 : Int)) +
        Int.tmod (IntKind.wrap IntKind.i64 (↑(UInt8.toNat (List.getD bs (Int.toNat (IntKind.wrap IntKind.i64 (p + i))) (0 : UInt8))) : Int)) (128 : Int)))),
        (44, AV.int IntKind.i64 (IntKind.wrap IntKind.i64 (i + (1 : Int))))]
        [AObj.cells [AV.sl 1 (Seq.map encB (0 : UInt8) bs) Tip.none, AV.int IntKind.i64 p, AV.int IntKind.i64 e]] (q250_2 n Post))
        (condP
        (decide
        (IntKind.wrap IntKind.i64
        (IntKind.wrap IntKind.i64 (x * (128 : Int)) +
        Int.tmod (IntKind.wrap IntKind.i64 (↑(UInt8.toNat (List.getD bs (Int.toNat (IntKind.wrap IntKind.i64 (p + i))) (0 : UInt8))) : Int)) (128 : Int)) >
        if (1099511627776 : Int) < most then (1099511627776 : Int) else most))
        ((AV.int IntKind.i64 p = AV.int IntKind.i64 p ∧
        [AObj.cells [AV.sl 1 (Seq.map encB (0 : UInt8) bs) Tip.none, AV.int IntKind.i64 p, AV.int IntKind.i64 (4 : Int)]] =
        [AObj.cells [AV.sl 1 (Seq.map encB (0 : UInt8) bs) Tip.none, AV.int IntKind.i64 p, AV.int IntKind.i64 (4 : Int)]]) ∧
        Post (AV.tup [AV.int IntKind.i64 (0 : Int), AV.int IntKind.i64 p])
        [AObj.cells [AV.sl 1 (Seq.map encB (0 : UInt8) bs) Tip.none, AV.int IntKind.i64 p, AV.int IntKind.i64 (4 : Int)]])
        ((AV.int IntKind.i64 p = AV.int IntKind.i64 p ∧
        [AObj.cells [AV.sl 1 (Seq.map encB (0 : UInt8) bs) Tip.none, AV.int IntKind.i64 p, AV.int IntKind.i64 e]] =
        [AObj.cells [AV.sl 1 (Seq.map encB (0 : UInt8) bs) Tip.none, AV.int IntKind.i64 p, AV.int IntKind.i64 e]]) ∧
        Post
        (AV.tup
        [AV.int IntKind.i64
        (IntKind.wrap IntKind.i64
        (IntKind.wrap IntKind.i64 (x * (128 : Int)) +
        Int.tmod (IntKind.wrap IntKind.i64 (↑(UInt8.toNat (List.getD bs (Int.toNat (IntKind.wrap IntKind.i64 (p + i))) (0 : UInt8))) : Int)) (128 : Int))),
        AV.int IntKind.i64 (IntKind.wrap IntKind.i64 (IntKind.wrap IntKind.i64 (p + i) + (1 : Int)))])
        [AObj.cells [AV.sl 1 (Seq.map encB (0 : UInt8) bs) Tip.none, AV.int IntKind.i64 p, AV.int IntKind.i64 e]]))))))
      ((AV.int IntKind.i64 p = AV.int IntKind.i64 p ∧
        [AObj.cells [AV.sl 1 (Seq.map encB (0 : UInt8) bs) Tip.none, AV.int IntKind.i64 p, AV.int IntKind.i64 (4 : Int)]] =
        [AObj.cells [AV.sl 1 (Seq.map encB (0 : UInt8) bs) Tip.none, AV.int IntKind.i64 p, AV.int IntKind.i64 (4 : Int)]]) ∧
        Post (AV.tup [AV.int IntKind.i64 (0 : Int), AV.int IntKind.i64 p]) [AObj.cells [AV.sl 1 (Seq.map encB (0 : UInt8) bs) Tip.none, AV.int IntKind.i64 p, AV.int IntKind.i64 (4 : Int)]]) →
    AWP Try.prog 113 n c250_9 [(0, AV.ptr 0 0), (1, AV.int IntKind.i64 most), (6, AV.int IntKind.i64 x), (44, AV.int IntKind.i64 i)] [rd bs p e]
      (q250_2 n Post) := fun bs p e most x i n Post h => Go.Ab.AWP.loop' g250 (Cfg.live g250) c250_9 (by kernel_rfl) (by kernel_rfl) (Go.Ab.kc (by kernel_rfl) h)

-- 252
end
end V
end

section
/- Spans, needs, releases and manifests as cells. -/

open Go Go.Ab Go.Proofs
namespace T
abbrev Span := Int × Int
abbrev Need := List UInt8 × List Span
abbrev Rel := Int × List Need
abbrev Mani := List UInt8 × List Rel
noncomputable def encS (x : Span) : List AV := [.int .i64 x.1, .int .i64 x.2]
noncomputable def encN (x : Need) : List AV := [.str ⟨x.1.toArray⟩, .sl 2 (.map encS (0, 0) x.2) .none]
noncomputable def encR (x : Rel) : List AV := [.int .i64 x.1, .sl 2 (.map encN ([], []) x.2) .none]
noncomputable def encM (x : Mani) : List AV := [.str ⟨x.1.toArray⟩, .sl 2 (.map encR (0, []) x.2) .none]
end T
end

section
/- Printed: what the code of functions 256, 285, 232, 239, 185, 186, 231, 130, 66, 163, 173, 62 asks for, by the framework's own reading of it; each line is checked against the code. -/

set_option linter.unusedVariables false
set_option maxRecDepth 100000
set_option maxHeartbeats 4000000
open Go Go.Ab Go.Proofs
namespace C
noncomputable section

noncomputable def retC : List (Nat × Ret) := [
  (39, ⟨Bool, fun _ _ x => .bool x, fun _ H _ => H⟩), (66, ⟨Bool, fun _ _ x => .bool x, fun _ H _ => H⟩), (62, ⟨Bool, fun _ _ x => .bool x, fun _ H _ => H⟩), (186, ⟨Bool, fun _ _ x => .bool x, fun _ H _ => H⟩),
  (154, ⟨Bool, fun _ _ x => .bool x, fun _ H _ => H⟩), (130, ⟨Bool, fun _ _ x => .bool x, fun _ H _ => H⟩), (185, ⟨Bool, fun _ _ x => .bool x, fun _ H _ => H⟩), (173, ⟨Bool, fun _ _ x => .bool x, fun _ H _ => H⟩),
  (231, ⟨Bool, fun _ _ x => .bool x, fun _ H _ => H⟩), (239, ⟨Bool, fun _ _ x => .bool x, fun _ H _ => H⟩), (163, ⟨Bool, fun _ _ x => .bool x, fun _ H _ => H⟩), (232, ⟨Bool, fun _ _ x => .bool x, fun _ H _ => H⟩),
  (285, ⟨Bool, fun _ _ x => .bool x, fun _ H _ => H⟩), (256, ⟨Bool, fun _ _ x => .bool x, fun _ H _ => H⟩)]
noncomputable def rets : FuncId → List Ret := lookupR (retC ++ V.retL)

-- 256
noncomputable def l256 : Nat → List Nat
  | 3 => [3, 6, 7, 8]
  | _ => []
noncomputable def u256 : Nat → Bool
  | _ => false
noncomputable def m256 : Nat → Bool
  | _ => false
noncomputable def g256 : Cfg := { N := 31, live := l256, cut := u256, mu := m256, ret := rets }
noncomputable def c256 : Go.Code := Go.Ab.bodyOf Go.Proofs.Try.f256
noncomputable def q256_0 : Nat → (AV → List AObj → Prop) → AQ := fun (n : Nat) (Post : AV → List AObj → Prop) => endQ Try.prog (resultsOf Try.f256) Post
noncomputable def q256_1 : Nat → (AV → List AObj → Prop) → AQ := fun (n : Nat) (Post : AV → List AObj → Prop) => seqQ (fun (s' : Slots) (H' : List AObj) => awp Try.prog g256 n (codeSnd (codeSnd (codeSnd c256))) s' H' (q256_0 n Post)) (q256_0 n Post)
noncomputable def q256_2 : Nat → (AV → List AObj → Prop) → AQ := fun (n : Nat) (Post : AV → List AObj → Prop) => blockQ 0 (q256_1 n Post)
noncomputable def c256_3 : Go.Code := codeFst (codeSnd (codeFst (codeSnd (codeSnd c256))))
theorem s256 : ∀ (l : List T.Span) (Post : AV → List AObj → Prop),
  AWP Try.prog 31 0 c256_3
      [(3, AV.int IntKind.i64 (-1 : Int)), (6, AV.sl 2 (Seq.map T.encS ((0 : Int), (0 : Int)) l) Tip.none), (7, AV.int IntKind.i64 (↑(List.length l) : Int)),
        (8, AV.int IntKind.i64 (0 : Int))]
      [] (q256_2 0 Post) →
    ASpec Try.prog 256 [AV.sl 2 (Seq.map T.encS ((0 : Int), (0 : Int)) l) Tip.none] [] Post := fun l Post h => Go.Ab.ASpec.of_vc g256 Go.Proofs.Try.func256 (by kernel_rfl) (by kernel_rfl) (by kernel_rfl) (Go.Ab.kc (by kernel_rfl) h)
theorem v256_3 : ∀ (l : List T.Span) (e n i : Int) (n_1 : Nat) (Post : AV → List AObj → Prop),
  condP (decide (i < n))
      (needP ((0 : Int) ≤ i ∧ i < (↑(List.length l) : Int))
        (condP (decide (Prod.fst (List.getD l (Int.toNat i) ((0 : Int), (0 : Int))) ≤ e))
        (Post (AV.bool false)
        [AObj.cells [AV.int IntKind.i64 (Prod.fst (List.getD l (Int.toNat i) ((0 : Int), (0 : Int)))), AV.int IntKind.i64 (Prod.snd (List.getD l (Int.toNat i) ((0 : Int), (0 : Int))))]])
        (condP (decide (Prod.fst (List.getD l (Int.toNat i) ((0 : Int), (0 : Int))) ≥ Prod.snd (List.getD l (Int.toNat i) ((0 : Int), (0 : Int)))))
        (Post (AV.bool false)
        [AObj.cells [AV.int IntKind.i64 (Prod.fst (List.getD l (Int.toNat i) ((0 : Int), (0 : Int)))), AV.int IntKind.i64 (Prod.snd (List.getD l (Int.toNat i) ((0 : Int), (0 : Int))))]])
        (condP (decide (Prod.snd (List.getD l (Int.toNat i) ((0 : Int), (0 : Int))) > (1000000000 : Int)))
        (Post (AV.bool false)
        [AObj.cells [AV.int IntKind.i64 (Prod.fst (List.getD l (Int.toNat i) ((0 : Int), (0 : Int)))), AV.int IntKind.i64 (Prod.snd (List.getD l (Int.toNat i) ((0 : Int), (0 : Int))))]])
        (AWP Try.prog 31 n_1 c256_3
        [(3, AV.int IntKind.i64 (Prod.snd (List.getD l (Int.toNat i) ((0 : Int), (0 : Int))))), (6, AV.sl 2 (Seq.map T.encS ((0 : Int), (0 : Int)) l) Tip.none),
        (7, AV.int IntKind.i64 n), (8, AV.int IntKind.i64 (IntKind.wrap IntKind.i64 (i + (1 : Int))))]
        [AObj.cells [AV.int IntKind.i64 (Prod.fst (List.getD l (Int.toNat i) ((0 : Int), (0 : Int)))), AV.int IntKind.i64 (Prod.snd (List.getD l (Int.toNat i) ((0 : Int), (0 : Int))))]]
        (q256_2 n_1 Post))))))
      (Post (AV.bool true) []) →
    AWP Try.prog 31 n_1 c256_3
      [(3, AV.int IntKind.i64 e), (6, AV.sl 2 (Seq.map T.encS ((0 : Int), (0 : Int)) l) Tip.none), (7, AV.int IntKind.i64 n), (8, AV.int IntKind.i64 i)] []
      (q256_2 n_1 Post) := fun l e n i n Post h => Go.Ab.AWP.loop' g256 (Cfg.live g256) c256_3 (by kernel_rfl) (by kernel_rfl) (Go.Ab.kc (by kernel_rfl) h)

-- 285
noncomputable def l232 : Nat → List Nat
  | 3 => [0, 3, 6, 7, 8]
  | _ => []
noncomputable def u232 : Nat → Bool
  | _ => false
noncomputable def m232 : Nat → Bool
  | _ => false
noncomputable def g232 : Cfg := { N := 40, live := l232, cut := u232, mu := m232, ret := rets }
noncomputable def c232 : Go.Code := Go.Ab.bodyOf Go.Proofs.Try.f232
noncomputable def q232_0 : Nat → (AV → List AObj → Prop) → AQ := fun (n : Nat) (Post : AV → List AObj → Prop) => endQ Try.prog (resultsOf Try.f232) Post
noncomputable def q232_1 : Nat → (AV → List AObj → Prop) → AQ := fun (n : Nat) (Post : AV → List AObj → Prop) => seqQ (fun (s' : Slots) (H' : List AObj) => awp Try.prog g232 n (codeSnd (codeSnd (codeSnd c232))) s' H' (q232_0 n Post)) (q232_0 n Post)
noncomputable def q232_2 : Nat → (AV → List AObj → Prop) → AQ := fun (n : Nat) (Post : AV → List AObj → Prop) => blockQ 0 (q232_1 n Post)
noncomputable def c232_3 : Go.Code := codeFst (codeSnd (codeFst (codeSnd (codeSnd c232))))
theorem s232 : ∀ (l : List T.Need) (Post : AV → List AObj → Prop),
  AWP Try.prog 40 0 c232_3
      [(0, AV.sl 2 (Seq.map T.encN ([], []) l) Tip.none), (3, AV.str { data := #[] }), (6, AV.sl 2 (Seq.map T.encN ([], []) l) Tip.none),
        (7, AV.int IntKind.i64 (↑(List.length l) : Int)), (8, AV.int IntKind.i64 (0 : Int))]
      [] (q232_2 0 Post) →
    ASpec Try.prog 232 [AV.sl 2 (Seq.map T.encN ([], []) l) Tip.none] [] Post := fun l Post h => Go.Ab.ASpec.of_vc g232 Go.Proofs.Try.func232 (by kernel_rfl) (by kernel_rfl) (by kernel_rfl) (Go.Ab.kc (by kernel_rfl) h)
theorem v232_3 : ∀ (l : List T.Need) (s : ByteArray) (n i : Int) (n_1 : Nat) (Post : AV → List AObj → Prop),
  condP (decide (i < n))
      (needP ((0 : Int) ≤ i ∧ i < (↑(List.length l) : Int))
        (ASpec Try.prog 154 [AV.str { data := List.toArray (Prod.fst (List.getD l (Int.toNat i) ([], []))) }]
        [AObj.cells
        [AV.str { data := List.toArray (Prod.fst (List.getD l (Int.toNat i) ([], []))) },
        AV.sl 2 (Seq.map T.encS ((0 : Int), (0 : Int)) (Prod.snd (List.getD l (Int.toNat i) ([], [])))) Tip.none]]
        fun (r : AV) (H' : List AObj) =>
        ∃ (x : Bool),
        r = AV.bool x ∧
        H' =
        [AObj.cells
        [AV.str { data := List.toArray (Prod.fst (List.getD l (Int.toNat i) ([], []))) },
        AV.sl 2 (Seq.map T.encS ((0 : Int), (0 : Int)) (Prod.snd (List.getD l (Int.toNat i) ([], [])))) Tip.none]] ∧
        condP (!x)
        (Post (AV.bool false)
        [AObj.cells
        [AV.str { data := List.toArray (Prod.fst (List.getD l (Int.toNat i) ([], []))) },
        AV.sl 2 (Seq.map T.encS ((0 : Int), (0 : Int)) (Prod.snd (List.getD l (Int.toNat i) ([], [])))) Tip.none]])
        (condP
        (Op.bytesLess (ByteArray.toList { data := List.toArray (Prod.fst (List.getD l (Int.toNat i) ([], []))) }) (ByteArray.toList s) ||
        ByteArray.toList { data := List.toArray (Prod.fst (List.getD l (Int.toNat i) ([], []))) } == ByteArray.toList s)
        (Post (AV.bool false)
        [AObj.cells
        [AV.str { data := List.toArray (Prod.fst (List.getD l (Int.toNat i) ([], []))) },
        AV.sl 2 (Seq.map T.encS ((0 : Int), (0 : Int)) (Prod.snd (List.getD l (Int.toNat i) ([], [])))) Tip.none]])
        (condP (decide ((↑(List.length (Prod.snd (List.getD l (Int.toNat i) ([], [])))) : Int) > (6 : Int)))
        (Post (AV.bool false)
        [AObj.cells
        [AV.str { data := List.toArray (Prod.fst (List.getD l (Int.toNat i) ([], []))) },
        AV.sl 2 (Seq.map T.encS ((0 : Int), (0 : Int)) (Prod.snd (List.getD l (Int.toNat i) ([], [])))) Tip.none]])
        (ASpec Try.prog 256 [AV.sl 2 (Seq.map T.encS ((0 : Int), (0 : Int)) (Prod.snd (List.getD l (Int.toNat i) ([], [])))) Tip.none]
        [AObj.cells
        [AV.str { data := List.toArray (Prod.fst (List.getD l (Int.toNat i) ([], []))) },
        AV.sl 2 (Seq.map T.encS ((0 : Int), (0 : Int)) (Prod.snd (List.getD l (Int.toNat i) ([], [])))) Tip.none]]
        fun (r : AV) (H' : List AObj) =>
        ∃ (x : Bool),
        r = AV.bool x ∧
        H' =
        [AObj.cells
        [AV.str { data := List.toArray (Prod.fst (List.getD l (Int.toNat i) ([], []))) },
        AV.sl 2 (Seq.map T.encS ((0 : Int), (0 : Int)) (Prod.snd (List.getD l (Int.toNat i) ([], [])))) Tip.none]] ∧
        condP (!x)
        (Post (AV.bool false)
        [AObj.cells
        [AV.str { data := List.toArray (Prod.fst (List.getD l (Int.toNat i) ([], []))) },
        AV.sl 2 (Seq.map T.encS ((0 : Int), (0 : Int)) (Prod.snd (List.getD l (Int.toNat i) ([], [])))) Tip.none]])
        (AWP Try.prog 40 n_1 c232_3
        [(0, AV.sl 2 (Seq.map T.encN ([], []) l) Tip.none), (3, AV.str { data := List.toArray (Prod.fst (List.getD l (Int.toNat i) ([], []))) }),
        (6, AV.sl 2 (Seq.map T.encN ([], []) l) Tip.none), (7, AV.int IntKind.i64 n),
        (8, AV.int IntKind.i64 (IntKind.wrap IntKind.i64 (i + (1 : Int))))]
        [AObj.cells
        [AV.str { data := List.toArray (Prod.fst (List.getD l (Int.toNat i) ([], []))) },
        AV.sl 2 (Seq.map T.encS ((0 : Int), (0 : Int)) (Prod.snd (List.getD l (Int.toNat i) ([], [])))) Tip.none]]
        (q232_2 n_1 Post)))))))
      (Post (AV.bool (decide ((↑(List.length l) : Int) ≤ (6 : Int)))) []) →
    AWP Try.prog 40 n_1 c232_3
      [(0, AV.sl 2 (Seq.map T.encN ([], []) l) Tip.none), (3, AV.str s), (6, AV.sl 2 (Seq.map T.encN ([], []) l) Tip.none), (7, AV.int IntKind.i64 n),
        (8, AV.int IntKind.i64 i)]
      [] (q232_2 n_1 Post) := fun l s n i n Post h => Go.Ab.AWP.loop' g232 (Cfg.live g232) c232_3 (by kernel_rfl) (by kernel_rfl) (Go.Ab.kc (by kernel_rfl) h)

-- 239
noncomputable def l185 : Nat → List Nat
  | 3 => [1, 3, 7, 8, 9]
  | _ => []
noncomputable def u185 : Nat → Bool
  | _ => false
noncomputable def m185 : Nat → Bool
  | _ => false
noncomputable def g185 : Cfg := { N := 40, live := l185, cut := u185, mu := m185, ret := rets }
noncomputable def c185 : Go.Code := Go.Ab.bodyOf Go.Proofs.Try.f185
noncomputable def q185_0 : Nat → (AV → List AObj → Prop) → AQ := fun (n : Nat) (Post : AV → List AObj → Prop) => endQ Try.prog (resultsOf Try.f185) Post
noncomputable def q185_1 : Nat → (AV → List AObj → Prop) → AQ := fun (n : Nat) (Post : AV → List AObj → Prop) => seqQ (fun (s' : Slots) (H' : List AObj) => awp Try.prog g185 n (codeSnd (codeSnd (codeSnd c185))) s' H' (q185_0 n Post)) (q185_0 n Post)
noncomputable def q185_2 : Nat → (AV → List AObj → Prop) → AQ := fun (n : Nat) (Post : AV → List AObj → Prop) => blockQ 0 (q185_1 n Post)
noncomputable def c185_3 : Go.Code := codeFst (codeSnd (codeFst (codeSnd (codeSnd c185))))
theorem s185 : ∀ (m : T.Mani) (Post : AV → List AObj → Prop),
  AWP Try.prog 40 0 c185_3
      [(1, AV.ptr 0 0), (3, AV.int IntKind.i64 (-1 : Int)), (7, AV.sl 2 (Seq.map T.encR ((0 : Int), []) (Prod.snd m)) Tip.none),
        (8, AV.int IntKind.i64 (↑(List.length (Prod.snd m)) : Int)), (9, AV.int IntKind.i64 (0 : Int))]
      [AObj.cells [AV.str { data := List.toArray (Prod.fst m) }, AV.sl 2 (Seq.map T.encR ((0 : Int), []) (Prod.snd m)) Tip.none]] (q185_2 0 Post) →
    ASpec Try.prog 185 [AV.agg (T.encM m)] [] Post := fun m Post h => Go.Ab.ASpec.of_vc g185 Go.Proofs.Try.func185 (by kernel_rfl) (by kernel_rfl) (by kernel_rfl) (Go.Ab.kc (by kernel_rfl) h)
theorem v185_3 : ∀ (m : T.Mani) (e n i : Int) (n_1 : Nat) (Post : AV → List AObj → Prop),
  condP (decide (i < n))
      (needP ((0 : Int) ≤ i ∧ i < (↑(List.length (Prod.snd m)) : Int))
        (condP (decide (Prod.fst (List.getD (Prod.snd m) (Int.toNat i) ((0 : Int), [])) ≤ e))
        (Post (AV.bool false)
        [AObj.cells [AV.str { data := List.toArray (Prod.fst m) }, AV.sl 2 (Seq.map T.encR ((0 : Int), []) (Prod.snd m)) Tip.none],
        AObj.cells
        [AV.int IntKind.i64 (Prod.fst (List.getD (Prod.snd m) (Int.toNat i) ((0 : Int), []))),
        AV.sl 2 (Seq.map T.encN ([], []) (Prod.snd (List.getD (Prod.snd m) (Int.toNat i) ((0 : Int), [])))) Tip.none]])
        (condP (decide (Prod.fst (List.getD (Prod.snd m) (Int.toNat i) ((0 : Int), [])) ≥ (1000000000 : Int)))
        (Post (AV.bool false)
        [AObj.cells [AV.str { data := List.toArray (Prod.fst m) }, AV.sl 2 (Seq.map T.encR ((0 : Int), []) (Prod.snd m)) Tip.none],
        AObj.cells
        [AV.int IntKind.i64 (Prod.fst (List.getD (Prod.snd m) (Int.toNat i) ((0 : Int), []))),
        AV.sl 2 (Seq.map T.encN ([], []) (Prod.snd (List.getD (Prod.snd m) (Int.toNat i) ((0 : Int), [])))) Tip.none]])
        (ASpec Try.prog 232 [AV.sl 2 (Seq.map T.encN ([], []) (Prod.snd (List.getD (Prod.snd m) (Int.toNat i) ((0 : Int), [])))) Tip.none]
        [AObj.cells [AV.str { data := List.toArray (Prod.fst m) }, AV.sl 2 (Seq.map T.encR ((0 : Int), []) (Prod.snd m)) Tip.none],
        AObj.cells
        [AV.int IntKind.i64 (Prod.fst (List.getD (Prod.snd m) (Int.toNat i) ((0 : Int), []))),
        AV.sl 2 (Seq.map T.encN ([], []) (Prod.snd (List.getD (Prod.snd m) (Int.toNat i) ((0 : Int), [])))) Tip.none]]
        fun (r : AV) (H' : List AObj) =>
        ∃ (x : Bool),
        r = AV.bool x ∧
        H' =
        [AObj.cells [AV.str { data := List.toArray (Prod.fst m) }, AV.sl 2 (Seq.map T.encR ((0 : Int), []) (Prod.snd m)) Tip.none],
        AObj.cells
        [AV.int IntKind.i64 (Prod.fst (List.getD (Prod.snd m) (Int.toNat i) ((0 : Int), []))),
        AV.sl 2 (Seq.map T.encN ([], []) (Prod.snd (List.getD (Prod.snd m) (Int.toNat i) ((0 : Int), [])))) Tip.none]] ∧
        condP (!x)
        (Post (AV.bool false)
        [AObj.cells [AV.str { data := List.toArray (Prod.fst m) }, AV.sl 2 (Seq.map T.encR ((0 : Int), []) (Prod.snd m)) Tip.none],
        AObj.cells
        [AV.int IntKind.i64 (Prod.fst (List.getD (Prod.snd m) (Int.toNat i) ((0 : Int), []))),
        AV.sl 2 (Seq.map T.encN ([], []) (Prod.snd (List.getD (Prod.snd m) (Int.toNat i) ((0 : Int), [])))) Tip.none]])
        (AWP Try.prog 40 n_1 c185_3
        [(1, AV.ptr 0 0), (3, AV.int IntKind.i64 (Prod.fst (List.getD (Prod.snd m) (Int.toNat i) ((0 : Int), [])))),
        (7, AV.sl 2 (Seq.map T.encR ((0 : Int), []) (Prod.snd m)) Tip.none), (8, AV.int IntKind.i64 n),
        (9, AV.int IntKind.i64 (IntKind.wrap IntKind.i64 (i + (1 : Int))))]
        [AObj.cells [AV.str { data := List.toArray (Prod.fst m) }, AV.sl 2 (Seq.map T.encR ((0 : Int), []) (Prod.snd m)) Tip.none],
        AObj.cells
        [AV.int IntKind.i64 (Prod.fst (List.getD (Prod.snd m) (Int.toNat i) ((0 : Int), []))),
        AV.sl 2 (Seq.map T.encN ([], []) (Prod.snd (List.getD (Prod.snd m) (Int.toNat i) ((0 : Int), [])))) Tip.none]]
        (q185_2 n_1 Post))))))
      (ASpec Try.prog 154 [AV.str { data := List.toArray (Prod.fst m) }]
        [AObj.cells [AV.str { data := List.toArray (Prod.fst m) }, AV.sl 2 (Seq.map T.encR ((0 : Int), []) (Prod.snd m)) Tip.none]] fun (r : AV) (H' : List AObj) =>
        ∃ (x : Bool),
        r = AV.bool x ∧
        H' = [AObj.cells [AV.str { data := List.toArray (Prod.fst m) }, AV.sl 2 (Seq.map T.encR ((0 : Int), []) (Prod.snd m)) Tip.none]] ∧
        condP x
        (Post (AV.bool (decide ((↑(List.length (Prod.snd m)) : Int) ≤ (8 : Int))))
        [AObj.cells [AV.str { data := List.toArray (Prod.fst m) }, AV.sl 2 (Seq.map T.encR ((0 : Int), []) (Prod.snd m)) Tip.none]])
        (Post (AV.bool false) [AObj.cells [AV.str { data := List.toArray (Prod.fst m) }, AV.sl 2 (Seq.map T.encR ((0 : Int), []) (Prod.snd m)) Tip.none]])) →
    AWP Try.prog 40 n_1 c185_3
      [(1, AV.ptr 0 0), (3, AV.int IntKind.i64 e), (7, AV.sl 2 (Seq.map T.encR ((0 : Int), []) (Prod.snd m)) Tip.none),
        (8, AV.int IntKind.i64 n), (9, AV.int IntKind.i64 i)]
      [AObj.cells (T.encM m)] (q185_2 n_1 Post) := fun m e n i n Post h => Go.Ab.AWP.loop' g185 (Cfg.live g185) c185_3 (by kernel_rfl) (by kernel_rfl) (Go.Ab.kc (by kernel_rfl) h)

-- 186
end
end C
end

section
/- Printed: what the code of functions 373, 324, 393, 372, 323, 263, 170, 253, 165, 154, 322, 261, 164, 39, 262, 325, 45 asks for, by the framework's own reading of it; each line is checked against the code. -/

set_option linter.unusedVariables false
set_option maxRecDepth 100000
set_option maxHeartbeats 4000000
open Go Go.Ab Go.Proofs
namespace S
noncomputable section

noncomputable def retS : List (Nat × Ret) := [
  (9032, ⟨Unit, fun _ _ _ => .bool true, fun _ H _ => H⟩),
  (9033, ⟨ByteArray × List UInt8 × Int, fun _ _ x => .tup [.str x.1, .sl 1 (.map encB 0 x.2.1) .none, .int .i64 x.2.2], fun _ H _ => H⟩),
  (45, ⟨ByteArray × ByteArray × Int, fun _ _ x => .tup [.str x.1, .str x.2.1, .int .i64 x.2.2], fun _ H _ => H⟩),
  (262, ⟨List UInt8, fun _ _ x => .sl 1 (.map encB 0 x) .none, fun _ H _ => H⟩),
  (325, ⟨ByteArray, fun _ _ x => .str x, fun _ H _ => H⟩),
  (39, ⟨Bool, fun _ _ x => .bool x, fun _ H _ => H⟩),
  (9090, ⟨List UInt8 × Bool, fun _ _ x => .tup [.sl 1 (.map encB 0 x.1) .none, .bool x.2], fun _ H _ => H⟩),
  (154, ⟨Bool, fun _ _ x => .bool x, fun _ H _ => H⟩),
  (170, ⟨ByteArray × Bool, fun _ _ x => .tup [.str x.1, .bool x.2], fun _ H _ => H⟩),
  (323, ⟨List UInt8, fun _ _ x => .sl 1 (.map encB 0 x) .none, fun _ H _ => H⟩),
  (263, ⟨ByteArray, fun _ _ x => .str x, fun _ H _ => H⟩),
  (164, ⟨List Int, fun _ _ x => .sl 1 (.map encI 0 x) .none, fun _ H _ => H⟩),
  (165, ⟨Int, fun _ _ x => .int .i64 x, fun _ H _ => H⟩),
  (372, ⟨Int, fun _ _ x => .int .u32 x, fun _ H _ => H⟩),
  (253, ⟨Int, fun _ _ x => .int .i64 x, fun _ H _ => H⟩),
  (324, ⟨Int, fun _ _ x => .int .i64 x, fun _ H _ => H⟩),
  (261, ⟨Int × Int, fun _ _ x => .tup [.int .i64 x.1, .int .i64 x.2], fun _ H _ => H⟩),
  (393, ⟨Int, fun _ _ x => .int .u32 x, fun _ H _ => H⟩),
  (373, ⟨Int, fun _ _ x => .int .i64 x, fun _ H _ => H⟩),
  (322, ⟨Int, fun _ _ x => .int .i64 x, fun _ H _ => H⟩)]
noncomputable def rets : FuncId → List Ret := lookupR (retS ++ V.retL)

-- 373
noncomputable def m373 : Nat → Bool
  | _ => false
noncomputable def l324 : Nat → List Nat
  | 3 => [0, 3, 4]
  | _ => []
noncomputable def l253 : Nat → List Nat
  | _ => []
noncomputable def u253 : Nat → Bool
  | _ => false
noncomputable def m253 : Nat → Bool
  | _ => false
noncomputable def g253 : Cfg := { N := 27, live := l253, cut := u253, mu := m253, ret := rets }
theorem s253 : ∀ (c : Int) (Post : AV → List AObj → Prop),
  condP (decide (c ≥ (97 : Int)))
      (condP (decide (c ≤ (122 : Int))) (Post (AV.int IntKind.i64 (0 : Int)) [])
        (condP (decide (c ≥ (945 : Int)))
        (condP (decide (c ≤ (969 : Int))) (Post (AV.int IntKind.i64 (1 : Int)) [])
        (condP (decide (c ≥ (48 : Int)))
        (condP (decide (c ≤ (57 : Int))) (Post (AV.int IntKind.i64 (2 : Int)) []) (condP (c == (45 : Int)) (Post (AV.int IntKind.i64 (3 : Int)) []) (Post (AV.int IntKind.i64 (4 : Int)) [])))
        (condP (c == (45 : Int)) (Post (AV.int IntKind.i64 (3 : Int)) []) (Post (AV.int IntKind.i64 (4 : Int)) []))))
        (condP (decide (c ≥ (48 : Int)))
        (condP (decide (c ≤ (57 : Int))) (Post (AV.int IntKind.i64 (2 : Int)) []) (condP (c == (45 : Int)) (Post (AV.int IntKind.i64 (3 : Int)) []) (Post (AV.int IntKind.i64 (4 : Int)) [])))
        (condP (c == (45 : Int)) (Post (AV.int IntKind.i64 (3 : Int)) []) (Post (AV.int IntKind.i64 (4 : Int)) [])))))
      (condP (decide (c ≥ (945 : Int)))
        (condP (decide (c ≤ (969 : Int))) (Post (AV.int IntKind.i64 (1 : Int)) [])
        (condP (decide (c ≥ (48 : Int)))
        (condP (decide (c ≤ (57 : Int))) (Post (AV.int IntKind.i64 (2 : Int)) []) (condP (c == (45 : Int)) (Post (AV.int IntKind.i64 (3 : Int)) []) (Post (AV.int IntKind.i64 (4 : Int)) [])))
        (condP (c == (45 : Int)) (Post (AV.int IntKind.i64 (3 : Int)) []) (Post (AV.int IntKind.i64 (4 : Int)) []))))
        (condP (decide (c ≥ (48 : Int)))
        (condP (decide (c ≤ (57 : Int))) (Post (AV.int IntKind.i64 (2 : Int)) []) (condP (c == (45 : Int)) (Post (AV.int IntKind.i64 (3 : Int)) []) (Post (AV.int IntKind.i64 (4 : Int)) [])))
        (condP (c == (45 : Int)) (Post (AV.int IntKind.i64 (3 : Int)) []) (Post (AV.int IntKind.i64 (4 : Int)) [])))) →
    ASpec Try.prog 253 [AV.int IntKind.i32 c] [] Post := fun c Post h => Go.Ab.ASpec.of_vc g253 Go.Proofs.Try.func253 (by kernel_rfl) (by kernel_rfl) (by kernel_rfl) (Go.Ab.kc (by kernel_rfl) h)

-- 165
noncomputable def l154 : Nat → List Nat
  | 3 => [3, 8]
  | _ => []
noncomputable def u154 : Nat → Bool
  | _ => false
noncomputable def m154 : Nat → Bool
  | _ => false
noncomputable def g154 : Cfg := { N := 32, live := l154, cut := u154, mu := m154, ret := rets }
noncomputable def c154 : Go.Code := Go.Ab.bodyOf Go.Proofs.Try.f154
noncomputable def q154_0 : Nat → (AV → List AObj → Prop) → AQ := fun (n : Nat) (Post : AV → List AObj → Prop) => endQ Try.prog (resultsOf Try.f154) Post
noncomputable def q154_1 : Nat → (AV → List AObj → Prop) → AQ := fun (n : Nat) (Post : AV → List AObj → Prop) => seqQ (fun (s' : Slots) (H' : List AObj) => awp Try.prog g154 n (codeSnd (codeSnd (codeSnd c154))) s' H' (q154_0 n Post)) (q154_0 n Post)
noncomputable def q154_2 : Nat → (AV → List AObj → Prop) → AQ := fun (n : Nat) (Post : AV → List AObj → Prop) => blockQ 0 (q154_1 n Post)
noncomputable def c154_3 : Go.Code := codeFst (codeSnd (codeFst (codeSnd (codeSnd c154))))
theorem s154 : ∀ (s : ByteArray) (Post : AV → List AObj → Prop),
  AWP Try.prog 32 0 c154_3 [(3, AV.int IntKind.i64 (0 : Int)), (8, AV.ptr 0 0)] [AObj.siter s 0] (q154_2 0 Post) →
    ASpec Try.prog 154 [AV.str s] [] Post := fun s Post h => Go.Ab.ASpec.of_vc g154 Go.Proofs.Try.func154 (by kernel_rfl) (by kernel_rfl) (by kernel_rfl) (Go.Ab.kc (by kernel_rfl) h)
theorem v154_3 : ∀ (s : ByteArray) (pos : Nat) (n : Int) (n_1 : Nat) (Post : AV → List AObj → Prop),
  condP (decide (pos < ByteArray.size s))
      (ASpec Try.prog 253 [AV.int IntKind.i32 (↑(Prod.fst (Utf8.decode s pos)) : Int)] [AObj.siter s (pos + Prod.snd (Utf8.decode s pos))] fun (r : AV) (H' : List AObj) =>
        ∃ (x : Int),
        r = AV.int IntKind.i64 x ∧
        H' = [AObj.siter s (pos + Prod.snd (Utf8.decode s pos))] ∧
        condP (decide (x > (3 : Int))) (Post (AV.bool false) [AObj.siter s (pos + Prod.snd (Utf8.decode s pos))])
        (condP (n == (0 : Int))
        (condP (decide (x > (1 : Int))) (Post (AV.bool false) [AObj.siter s (pos + Prod.snd (Utf8.decode s pos))])
        (condP (n == (12 : Int)) (Post (AV.bool false) [AObj.siter s (pos + Prod.snd (Utf8.decode s pos))])
        (AWP Try.prog 32 n_1 c154_3 [(3, AV.int IntKind.i64 (IntKind.wrap IntKind.i64 (n + (1 : Int)))), (8, AV.ptr 0 0)]
        [AObj.siter s (pos + Prod.snd (Utf8.decode s pos))] (q154_2 n_1 Post))))
        (condP (n == (12 : Int)) (Post (AV.bool false) [AObj.siter s (pos + Prod.snd (Utf8.decode s pos))])
        (AWP Try.prog 32 n_1 c154_3 [(3, AV.int IntKind.i64 (IntKind.wrap IntKind.i64 (n + (1 : Int)))), (8, AV.ptr 0 0)]
        [AObj.siter s (pos + Prod.snd (Utf8.decode s pos))] (q154_2 n_1 Post)))))
      (Post (AV.bool (decide (n > (0 : Int)))) [AObj.siter s pos]) →
    AWP Try.prog 32 n_1 c154_3 [(3, AV.int IntKind.i64 n), (8, AV.ptr 0 0)] [AObj.siter s pos] (q154_2 n_1 Post) := fun s pos n n Post h => Go.Ab.AWP.loop' g154 (Cfg.live g154) c154_3 (by kernel_rfl) (by kernel_rfl) (Go.Ab.kc (by kernel_rfl) h)

-- 322
end
end S
end

section
/- The plain law of numbers as bytes. -/

namespace V

/-- the digits that go on -/
def lead (v : Nat) : List UInt8 := if _h : v = 0 then [] else lead (v / 128) ++ [UInt8.ofNat (128 + v % 128)]
  termination_by v
  decreasing_by omega

def enc (v : Nat) : List UInt8 := lead (v / 128) ++ [UInt8.ofNat (v % 128)]

theorem lead_zero : lead 0 = [] := by rw [lead]; simp
theorem lead_pos {v : Nat} (h : 0 < v) : lead v = lead (v / 128) ++ [UInt8.ofNat (128 + v % 128)] := by rw [lead, dif_neg (by omega)]

/-- a number that is held -/
def held (x : Int) : Nat := (min (max x 0) 1099511627776).toNat

theorem held_le (x : Int) : held x ≤ 1099511627776 := by unfold held; omega
/-- digits from the j-th down to the first -/
def down (v : Nat) : Nat → List UInt8
  | 0 => []
  | j + 1 => UInt8.ofNat (128 + v / 128 ^ (j + 1) % 128) :: down v j

theorem down_succ (v : Nat) : ∀ j, down v (j + 1) = down (v / 128) j ++ [UInt8.ofNat (128 + v / 128 % 128)]
  | 0 => by simp [down]
  | j + 1 => by
    rw [down, down_succ v j, down]
    have : v / 128 ^ (j + 1 + 1) = v / 128 / 128 ^ (j + 1) := by rw [Nat.div_div_eq_div_mul, Nat.pow_succ 128 (j + 1), Nat.mul_comm]
    rw [this]; rfl

theorem down_lead : ∀ (j v : Nat), v / 128 ^ j < 128 → (j = 0 ∨ 128 ^ j ≤ v) → down v j = lead (v / 128)
  | 0, v, h, _ => by
    have : v / 128 = 0 := by simp at h; omega
    rw [this, lead_zero]; rfl
  | j + 1, v, h, hj => by
    have hv : 128 ^ (j + 1) ≤ v := by rcases hj with e | e; · cases e
                                      · exact e
    have hp : 0 < 128 ^ j := Nat.pos_of_ne_zero (by simp)
    have h128 : 128 ≤ v := Nat.le_trans (by rw [Nat.pow_succ]; omega) hv
    rw [down_succ, lead_pos (by omega : 0 < v / 128)]
    congr 1
    refine down_lead j (v / 128) ?_ (.inr ?_)
    · rw [Nat.div_div_eq_div_mul, Nat.mul_comm, ← Nat.pow_succ]; exact h
    · rw [Nat.le_div_iff_mul_le (by omega), ← Nat.pow_succ]; exact hv

theorem lead_length : ∀ (k v : Nat), v < 128 ^ k → (lead v).length ≤ k
  | 0, v, h => by
    have : v = 0 := by simp at h; omega
    subst this; simp [lead_zero]
  | k + 1, v, h => by
    rcases Nat.eq_zero_or_pos v with e | e
    · subst e; simp [lead_zero]
    · rw [lead_pos e]
      have := lead_length k (v / 128) (by rw [Nat.div_lt_iff_lt_mul (by omega), ← Nat.pow_succ]; exact h)
      simp; omega

theorem enc_length (v : Nat) (h : v ≤ 1099511627776) : (enc v).length ≤ 6 := by
  have := lead_length 5 (v / 128) (by omega)
  simp [enc]; omega

end V
end

section
/- vlq.Put: what it computes. -/

set_option linter.unusedVariables false
set_option linter.unusedSimpArgs false
open Go Go.Ab Go.Proofs
namespace V

def big : Nat := 140737488351232

theorem tdivN (a b : Nat) : Int.tdiv (a : Int) (b : Int) = ((a / b : Nat) : Int) := by rfl
theorem tmodN (a b : Nat) : Int.tmod (a : Int) (b : Int) = ((a % b : Nat) : Int) := by rfl

theorem selTok : Sel 0 [1] [AObj.gone, AObj.tok] [AObj.tok] := Sel.one 1 rfl rfl

theorem leApp {l : List UInt8} {x : List AV} {b : UInt8} {H : List AObj} (hx : x = encB b) : Le (.sl 1 (.app (.map encB 0 l) (.raw [x])) (.tok 1)) (AV.ren (selR [1] H.length) (.sl 1 (.map encB 0 (l ++ [b])) (.tok 0))) := by
  refine Le.sl ?_ (.inl rfl) (.inl rfl)
  subst hx
  simp [Seq.toList, Seq.ren, encB, renL, AV.ren]

theorem put9 {ns : List Int} {k : Nat} {i : Int} {Post : AV → List AObj → Prop} {v : Nat} (hv : v ≤ 1099511627776) (hi : 0 ≤ i) (hi2 : i < 9223372036854775807) : ∀ (j : Nat) (l : List UInt8), j ≤ 6 → l.length + j + 1 ≤ big →
    AWP Try.prog 48 0 c140_3 [(5, .sl 1 (.map encB 0 (l ++ down v j ++ [UInt8.ofNat (v % 128)])) (.tok 0)), (12, .sl 1 (.map encI 0 ns) .none), (13, .int .i64 k), (14, .int .i64 (i + 1))] [.tok] (q140_2 0 Post) →
    AWP Try.prog 48 0 c140_9 [(5, .sl 1 (.map encB 0 l) (.tok 0)), (7, .int .i64 v), (8, .int .i64 ((128 ^ j : Nat) : Int)), (12, .sl 1 (.map encI 0 ns) .none), (13, .int .i64 k), (14, .int .i64 i)] [.tok] (q140_9 0 Post)
  | 0, l, _, hl, h => by
    refine v140_9 _ _ _ _ _ _ _ _ _ (condD (fun h => by simp at h) fun _ => needJ (by decide) (needJ (by unfold big at hl; omega) ?_))
    refine AWP.shape [1] _ _ selTok ?_ h
    rw [wrap64 (x := i + 1) (by omega) (by omega)]
    refine ⟨rfl, ?_, rfl, ?_, rfl, Le.refl _, rfl, Le.refl _, trivial⟩
    · have : l ++ down v 0 ++ [UInt8.ofNat (v % 128)] = l ++ [UInt8.ofNat (v % 128)] := by simp [down]
      rw [this]
      refine leApp ?_
      rw [show (128 : Int) = ((128 : Nat) : Int) from rfl, tmodN, wrapU8, Int.emod_eq_of_lt (by omega) (by omega)]
      rw [encB_ofNat (by omega) (by omega)]
      rfl
    · exact Le.refl _
  | j + 1, l, hj, hl, h => by
    have hw : (128 : Nat) ^ (j + 1) ≤ 128 ^ 6 := Nat.pow_le_pow_right (by omega) hj
    have hw6 : (128 : Nat) ^ 6 = 4398046511104 := by decide
    have hw1 : 0 < (128 : Nat) ^ j := Nat.pos_of_ne_zero (by simp)
    refine v140_9 _ _ _ _ _ _ _ _ _ (condD (fun _ => needJ ?_ (needJ (by decide) (needJ (by unfold big at hl; omega) (needJ (by decide) ?_)))) (fun hn => ?_))
    · rw [Nat.pow_succ]; omega
    · have hd : v / 128 ^ (j + 1) ≤ v := Nat.div_le_self _ _
      have hq : ((128 ^ (j + 1) : Nat) : Int).tdiv 128 = ((128 ^ j : Nat) : Int) := by
        rw [show (128 : Int) = ((128 : Nat) : Int) from rfl, tdivN, Nat.pow_succ, Nat.mul_div_cancel _ (by omega)]
      rw [hq, wrap64 (x := ((128 ^ j : Nat) : Int)) (by omega) (by rw [Nat.pow_succ] at hw; omega)]
      refine AWP.shape [1] _ _ selTok ?_ (put9 (ns := ns) (k := k) hv hi hi2 j (l ++ [UInt8.ofNat (128 + v / 128 ^ (j + 1) % 128)]) (by omega) (by simp; omega) ?_)
      · refine ⟨rfl, leApp ?_, rfl, Le.refl _, rfl, Le.refl _, rfl, ?_, rfl, Le.refl _, rfl, Le.refl _, trivial⟩
        · rw [tdivN, wrapN (Nat.le_trans hd (by omega)), show (128 : Int) = ((128 : Nat) : Int) from rfl, tmodN, wrap64 (by omega) (by omega), wrapU8,
            Int.emod_eq_of_lt (by omega) (by omega), encB_ofNat (by omega) (by omega)]
          congr 2
        · exact Le.refl _
      · simpa [down] using h
    · rw [Nat.pow_succ] at hn; omega

theorem put7 {ns : List Int} {k : Nat} {i : Int} {Post : AV → List AObj → Prop} {v : Nat} (hv : v ≤ 1099511627776) (hi : 0 ≤ i) (hi2 : i < 9223372036854775807) (l : List UInt8) (hl : l.length + 7 ≤ big)
    (h : AWP Try.prog 48 0 c140_3 [(5, .sl 1 (.map encB 0 (l ++ enc v)) (.tok 0)), (12, .sl 1 (.map encI 0 ns) .none), (13, .int .i64 k), (14, .int .i64 (i + 1))] [.tok] (q140_2 0 Post)) : ∀ (m j : Nat), m + j = 6 → (j = 0 ∨ 128 ^ j ≤ v) →
    AWP Try.prog 48 0 c140_7 [(5, .sl 1 (.map encB 0 l) (.tok 0)), (7, .int .i64 v), (8, .int .i64 ((128 ^ j : Nat) : Int)), (12, .sl 1 (.map encI 0 ns) .none), (13, .int .i64 k), (14, .int .i64 i)] [.tok] (q140_7 0 Post) := by
  intro m
  induction m with
  | zero =>
    intro j hm hj
    have : j = 6 := by omega
    subst this
    rcases hj with e | e
    · cases e
    · have : (128 : Nat) ^ 6 = 4398046511104 := by decide
      omega
  | succ m ih =>
    intro j hm hj
    have hw : (128 : Nat) ^ j ≤ 128 ^ 5 := Nat.pow_le_pow_right (by omega) (by omega)
    have hw5 : (128 : Nat) ^ 5 = 34359738368 := by decide
    have hw1 : 0 < (128 : Nat) ^ j := Nat.pos_of_ne_zero (by simp)
    have hd : v / 128 ^ j ≤ v := Nat.div_le_self _ _
    refine v140_7 _ _ _ _ _ _ _ _ _ (needJ (by omega) (condD (fun hc => ?_) (fun hc => ?_)))
    · rw [tdivN, wrapN (Nat.le_trans hd (by omega))] at hc
      have e : ((128 ^ j : Nat) : Int) * 128 = ((128 ^ (j + 1) : Nat) : Int) := by rw [Nat.pow_succ]; simp
      rw [e, wrap64 (by omega) (by rw [Nat.pow_succ]; omega)]
      refine ih (j + 1) (by omega) (.inr ?_)
      have : 128 ≤ v / 128 ^ j := by omega
      rw [Nat.le_div_iff_mul_le hw1] at this
      rw [Nat.pow_succ, Nat.mul_comm]; exact this
    · rw [tdivN, wrapN (Nat.le_trans hd (by omega))] at hc
      refine put9 hv hi hi2 j l (by omega) (by omega) ?_
      rw [down_lead j v (by omega) hj, List.append_assoc]
      exact h

def putM (bs : List UInt8) (ns : List Int) : List UInt8 := bs ++ ns.flatMap fun x => enc (held x)

theorem clamp_held (x : Int) : (if 1099511627776 < if 0 > x then 0 else x then 1099511627776 else if 0 > x then 0 else x) = ((held x : Nat) : Int) := by
  unfold held
  by_cases h : 0 > x
  · simp only [if_pos h]; omega
  · simp only [if_neg h]
    split <;> omega

theorem put3 {ns : List Int} {Post : AV → List AObj → Prop} (hns : ns.length ≤ big) : ∀ (m i : Nat) (l : List UInt8), m + i = ns.length → l.length + 7 * m ≤ big →
    Post (.sl 1 (.map encB 0 (l ++ (ns.drop i).flatMap fun x => enc (held x))) (.tok 0)) [.tok] →
    AWP Try.prog 48 0 c140_3 [(5, .sl 1 (.map encB 0 l) (.tok 0)), (12, .sl 1 (.map encI 0 ns) .none), (13, .int .i64 ns.length), (14, .int .i64 i)] [.tok] (q140_2 0 Post) := by
  intro m
  unfold big at hns
  induction m with
  | zero =>
    intro i l hm hl h
    refine v140_3 _ _ _ _ _ _ _ (condD (fun hc => by omega) fun hc => ?_)
    rw [List.drop_eq_nil_of_le (by omega)] at h
    simpa using h
  | succ m ih =>
    intro i l hm hl h
    refine v140_3 _ _ _ _ _ _ _ (condD (fun hc => needJ (by omega) ?_) fun hc => by omega)
    rw [Int.toNat_natCast, clamp_held]
    have hh := held_le (ns.getD i 0)
    refine put7 hh (by omega) (by omega) l (by omega) ?_ 6 0 rfl (.inl rfl)
    have hel := enc_length (held (ns.getD i 0)) hh
    refine ih (i + 1) _ (by omega) (by rw [List.length_append]; omega) ?_
    have hg : ns.drop i = ns.getD i 0 :: ns.drop (i + 1) := by
      rw [List.drop_eq_getElem_cons (by omega)]
      simp [List.getD, List.getElem?_eq_getElem (show i < ns.length by omega)]
    rw [hg] at h
    simpa using h

theorem put_spec (bs : List UInt8) (ns : List Int) (hb : bs.length + 7 * ns.length ≤ big) (H : List AObj) :
    ASpec Try.prog 140 [.sl 1 (.map encB 0 bs) .none, .sl 1 (.map encI 0 ns) .none] H (fun r H' => r = .sl 1 (.map encB 0 (putM bs ns)) (.tok H.length) ∧ H' = H ++ [.tok]) := by
  refine ASpec.anyH (args := [.sl 1 (.map encB 0 bs) .none, .sl 1 (.map encI 0 ns) .none]) (r0 := .sl 1 (.map encB 0 (putM bs ns)) (.tok 0)) (Hl := [.tok]) H ?_ _ _ _ rfl rfl rfl
  refine s140 _ _ _ _ _ (needJ oneB (needJ (by unfold big at hb; omega) ?_))
  refine AWP.spell _ ?_ (put3 (ns := ns) (by omega) ns.length 0 bs (by omega) (by omega) ⟨rfl, rfl⟩)
  exact ⟨rfl, Le.sl (by simp [Seq.toList]) (.inl rfl) (.inl rfl), rfl, Le.refl _, rfl, Le.refl _, rfl, Le.refl _, trivial⟩

end V
end

section
/- The reader of bytes: what its methods compute. -/

set_option linter.unusedVariables false
set_option linter.unusedSimpArgs false
open Go Go.Ab Go.Proofs
namespace V

def scan : Nat → List UInt8 → Nat → Nat → Int ⊕ (Nat × Nat)
  | 0, _, _, _ => .inl 4
  | _ + 1, [], _, _ => .inl 2
  | f + 1, c :: s, x, i => if 128 ≤ c.toNat then scan f s (x * 128 + c.toNat % 128) (i + 1) else .inr (x * 128 + c.toNat % 128, i + 1)

/-- the number ahead, how many bytes it has, and what is wrong -/
def lookM (s : List UInt8) (most : Int) : Int × Nat × Int :=
  match s with
  | [] => (0, 0, 2)
  | c :: _ => if c = 128 then (0, 0, 3) else match scan 6 s 0 0 with
    | .inl e => (0, 0, e)
    | .inr (n, k) => if (n : Int) > min most 1099511627776 then (0, 0, 4) else (n, k, 0)

theorem getD_drop (bs : List UInt8) (q : Nat) (h : q < bs.length) : bs.drop q = bs.getD q 0 :: bs.drop (q + 1) := by
  rw [List.drop_eq_getElem_cons h]
  simp [List.getD, List.getElem?_eq_getElem h]

def peekP (bs : List UInt8) (p : Nat) (most : Int) (Post : AV → List AObj → Prop) : Int ⊕ (Nat × Nat) → Prop
  | .inl e => Post (.tup [.int .i64 0, .int .i64 p]) [rd bs p e]
  | .inr (n, k) => if (n : Int) > min most 1099511627776 then Post (.tup [.int .i64 0, .int .i64 p]) [rd bs p 4] else Post (.tup [.int .i64 n, .int .i64 (p + k : Nat)]) [rd bs p 0]

theorem min_if (most : Int) : (if 1099511627776 < most then 1099511627776 else most) = min most 1099511627776 := by
  split <;> omega

theorem peek9 {bs : List UInt8} {p : Nat} {most : Int} {Post : AV → List AObj → Prop} (hb : bs.length ≤ big) (hp : p ≤ bs.length) : ∀ (f i x : Nat), f + i = 6 → p + i ≤ bs.length → x < 128 ^ i →
    peekP bs p most Post (scan f (bs.drop (p + i)) x i) →
    AWP Try.prog 113 1 c250_9 [(0, .ptr 0 0), (1, .int .i64 most), (6, .int .i64 x), (44, .int .i64 i)] [rd bs p 0] (q250_2 1 Post) := by
  intro f
  unfold big at hb
  induction f with
  | zero =>
    intro i x hf hpi hx h
    refine v250_9 _ _ _ _ _ _ _ _ (condD (fun hc => by omega) fun hc => ⟨⟨rfl, rfl⟩, h⟩)
  | succ f ih =>
    intro i x hf hpi hx h
    have hi6 : (128 : Nat) ^ i ≤ 128 ^ 5 := Nat.pow_le_pow_right (by omega) (by omega)
    have h5 : (128 : Nat) ^ 5 = 34359738368 := by decide
    have hwp : IntKind.wrap .i64 ((p : Int) + i) = ((p + i : Nat) : Int) := by rw [wrap64 (by omega) (by omega)]; simp
    refine v250_9 _ _ _ _ _ _ _ _ (condD (fun hc => ?_) fun hc => by omega)
    rw [hwp]
    refine condE (fun he => ?_) fun he => ?_
    · have he : p + i = bs.length := by omega
      refine ⟨⟨rfl, rfl⟩, ?_⟩
      rw [List.drop_eq_nil_of_le (by omega)] at h
      exact h
    · have he : p + i ≠ bs.length := by omega
      refine needJ (by omega) (needJ (by decide) ?_)
      rw [Int.toNat_natCast]
      rw [getD_drop bs (p + i) (by omega)] at h
      generalize bs.getD (p + i) 0 = c at h ⊢
      have hc8 : c.toNat < 256 := c.toNat_lt
      have hwc : IntKind.wrap .i64 (c.toNat : Int) = (c.toNat : Int) := wrapN (by omega)
      have hx1 : IntKind.wrap .i64 (IntKind.wrap .i64 ((x : Int) * 128) + (c.toNat : Int).tmod 128) = ((x * 128 + c.toNat % 128 : Nat) : Int) := by
        rw [show (128 : Int) = ((128 : Nat) : Int) from rfl, tmodN, wrap64 (x := (x : Int) * ((128 : Nat) : Int)) (by omega) (by omega), wrap64 (by omega) (by omega)]
        simp
      rw [hwc, hx1]
      simp only [scan] at h
      refine condD (fun hg => ?_) fun hg => ?_
      · rw [if_pos (by omega)] at h
        rw [show IntKind.wrap .i64 ((i : Int) + 1) = ((i + 1 : Nat) : Int) by rw [wrap64 (by omega) (by omega)]; simp]
        refine ih (i + 1) _ (by omega) (by omega) ?_ ?_
        · rw [Nat.pow_succ]; omega
        · exact h
      · rw [if_neg (by omega)] at h
        simp only [peekP] at h
        rw [min_if]
        refine condD (fun hm => ?_) fun hm => ?_
        · rw [if_pos hm] at h
          exact ⟨⟨rfl, rfl⟩, h⟩
        · rw [if_neg hm] at h
          rw [show IntKind.wrap .i64 (((p + i : Nat) : Int) + 1) = ((p + (i + 1) : Nat) : Int) by rw [wrap64 (by omega) (by omega)]; omega]
          exact ⟨⟨rfl, rfl⟩, h⟩

theorem peek_spec {bs : List UInt8} {p : Nat} (most : Int) (hb : bs.length ≤ big) (hp : p ≤ bs.length) :
    ASpec Try.prog 250 [.ptr 0 0, .int .i64 most] [rd bs p 0] (fun r H' => r = .tup [.int .i64 (lookM (bs.drop p) most).1, .int .i64 (p + (lookM (bs.drop p) most).2.1 : Nat)] ∧ H' = [rd bs p (lookM (bs.drop p) most).2.2]) := by
  refine s250 _ _ _ _ _ (condE (fun he => ?_) fun he => ?_)
  · have he : p = bs.length := by omega
    rw [List.drop_eq_nil_of_le (by omega)]
    exact ⟨⟨rfl, rfl⟩, rfl, rfl⟩
  · have he : p ≠ bs.length := by omega
    refine needJ (by omega) ?_
    rw [Int.toNat_natCast]
    have hd := getD_drop bs p (by omega)
    refine condE (fun h1 => ?_) fun h1 => ?_
    · have h1 : (bs.getD p 0) = 128 := by
        have : (bs.getD p 0).toNat = 128 := by omega
        exact UInt8.toNat_inj.1 this
      have e : lookM (bs.drop p) most = (0, 0, 3) := by rw [hd]; simp only [lookM, if_pos h1]
      rw [e]
      exact ⟨⟨rfl, rfl⟩, rfl, rfl⟩
    · have h1 : (bs.getD p 0) ≠ 128 := by
        intro e
        rw [e] at h1
        exact h1 rfl
      refine peek9 hb hp 6 0 0 rfl (by omega) (by simp) ?_
      rw [Nat.add_zero]
      have e : lookM (bs.drop p) most = match scan 6 (bs.drop p) 0 0 with
        | .inl e => (0, 0, e)
        | .inr (n, k) => if (n : Int) > min most 1099511627776 then (0, 0, 4) else (n, k, 0) := by
        rw [hd]; simp only [lookM, if_neg h1]
      rw [e]
      cases scan 6 (bs.drop p) 0 0 with
      | inl er => exact ⟨rfl, rfl⟩
      | inr nk =>
        obtain ⟨n, k⟩ := nk
        simp only [peekP]
        split
        · exact ⟨rfl, rfl⟩
        · exact ⟨rfl, rfl⟩

theorem scan_le : ∀ (f : Nat) (s : List UInt8) (x i n k : Nat), scan f s x i = .inr (n, k) → i < k ∧ k ≤ i + s.length
  | 0, s, x, i, n, k, h => by simp [scan] at h
  | f + 1, [], x, i, n, k, h => by simp [scan] at h
  | f + 1, c :: s, x, i, n, k, h => by
    simp only [scan] at h
    split at h
    · have := scan_le f s _ _ _ _ h
      simp; omega
    · simp at h
      simp; omega

theorem lookM_le (s : List UInt8) (most : Int) : (lookM s most).2.1 ≤ s.length ∧ 0 ≤ (lookM s most).1 ∧ (lookM s most).1 ≤ 1099511627776 ∧ ((lookM s most).2.2 ≠ 0 → (lookM s most).1 = 0 ∧ (lookM s most).2.1 = 0) := by
  cases s with
  | nil => simp [lookM]
  | cons c s =>
    simp only [lookM]
    split
    · simp
    · split
      · simp
      · rename_i n k hs
        have := scan_le _ _ _ _ _ _ hs
        split
        · simp
        · refine ⟨?_, by simp, ?_, by simp⟩
          · show k ≤ _
            omega
          · show (n : Int) ≤ _
            omega

/-- a reader's next number: the answer, the place, the error -/
def numM (bs : List UInt8) (p : Nat) (e most : Int) : Int × Nat × Int :=
  if e ≠ 0 then (0, p, e) else ((lookM (bs.drop p) most).1, p + (lookM (bs.drop p) most).2.1, (lookM (bs.drop p) most).2.2)

def strM (bs : List UInt8) (p : Nat) (e most : Int) : List UInt8 × Nat × Int :=
  if e ≠ 0 then ([], p, e) else
    if (lookM (bs.drop p) most).2.2 ≠ 0 then ([], p, (lookM (bs.drop p) most).2.2) else
    if (lookM (bs.drop p) most).1 > (bs.length : Int) - ((p + (lookM (bs.drop p) most).2.1 : Nat) : Int) then ([], p, 2) else
      ((bs.drop (p + (lookM (bs.drop p) most).2.1)).take (lookM (bs.drop p) most).1.toNat, p + (lookM (bs.drop p) most).2.1 + (lookM (bs.drop p) most).1.toNat, 0)

theorem num_spec0 {bs : List UInt8} {p : Nat} (e most : Int) (hb : bs.length ≤ big) (hp : p ≤ bs.length) :
    ASpec Try.prog 143 [.ptr 0 0, .int .i64 most] [rd bs p e] (fun r H' => r = .int .i64 (numM bs p e most).1 ∧ H' = [rd bs (numM bs p e most).2.1 (numM bs p e most).2.2]) := by
  refine s143 _ _ _ _ _ (condNe (fun he => ?_) fun he => ?_)
  · rw [show numM bs p e most = (0, p, e) by simp only [numM, if_pos he]]
    exact ⟨rfl, rfl⟩
  · subst he
    rw [show numM bs p 0 most = ((lookM (bs.drop p) most).1, p + (lookM (bs.drop p) most).2.1, (lookM (bs.drop p) most).2.2) by simp [numM]]
    refine ASpec.call (peek_spec most hb hp) (Les.refl _) ⟨(_, _, _, _), rfl, rfl, rfl, rfl⟩

theorem str_spec0 {bs : List UInt8} {p : Nat} (e most : Int) (hb : bs.length ≤ big) (hp : p ≤ bs.length) :
    ASpec Try.prog 145 [.ptr 0 0, .int .i64 most] [rd bs p e] (fun r H' => r = .str ⟨(strM bs p e most).1.toArray⟩ ∧ H' = [rd bs (strM bs p e most).2.1 (strM bs p e most).2.2]) := by
  refine s145 _ _ _ _ _ (condNe (fun he => ?_) fun he => ?_)
  · rw [show strM bs p e most = ([], p, e) by simp only [strM, if_pos he]]
    exact ⟨rfl, rfl⟩
  · subst he
    obtain ⟨h1, h2, h3, h4⟩ := lookM_le (bs.drop p) most
    have hs : strM bs p 0 most = if (lookM (bs.drop p) most).2.2 ≠ 0 then ([], p, (lookM (bs.drop p) most).2.2) else
      if (lookM (bs.drop p) most).1 > (bs.length : Int) - ((p + (lookM (bs.drop p) most).2.1 : Nat) : Int) then ([], p, 2) else
      ((bs.drop (p + (lookM (bs.drop p) most).2.1)).take (lookM (bs.drop p) most).1.toNat, p + (lookM (bs.drop p) most).2.1 + (lookM (bs.drop p) most).1.toNat, 0) := by simp [strM]
    refine ASpec.call (peek_spec most hb hp) (Les.refl _) ⟨((lookM (bs.drop p) most).1, ((p + (lookM (bs.drop p) most).2.1 : Nat) : Int), p, (lookM (bs.drop p) most).2.2), rfl, rfl, ?_⟩
    generalize lookM (bs.drop p) most = q at h1 h2 h3 h4 hs ⊢
    obtain ⟨n, k, er⟩ := q
    unfold big at hb
    rw [List.length_drop] at h1
    simp only at h1 h2 h3 h4 hs ⊢
    refine condNe (fun he => ?_) fun he => ?_
    · rw [hs, if_pos he]; exact ⟨rfl, rfl⟩
    · subst he
      rw [wrap64 (x := (bs.length : Int) - ((p + k : Nat) : Int)) (by omega) (by omega)]
      refine condD (fun hg => ?_) fun hg => ?_
      · rw [hs, if_neg (by simp), if_pos hg]; exact ⟨rfl, rfl⟩
      · rw [hs, if_neg (by simp), if_neg hg]
        have hw : IntKind.wrap .i64 (((p + k : Nat) : Int) + n) = ((p + k + n.toNat : Nat) : Int) := by
          have h5 : 0 ≤ n := h2
          rw [wrap64 (x := ((p + k : Nat) : Int) + n) (by omega) (by omega)]; omega
        rw [hw]
        refine needJ (by omega) (needJ (allBytes_map _) ?_)
        rw [bytesOf_map, Int.toNat_natCast, Int.toNat_natCast, List.drop_take]
        refine ⟨?_, rfl⟩
        rw [show p + k + n.toNat - (p + k) = n.toNat by omega]

end V
end

section
/- The document's numbers, texts and reader: what they compute. -/

set_option linter.unusedVariables false
set_option linter.unusedSimpArgs false
open Go Go.Ab Go.Proofs
namespace V

abbrev B (l : List UInt8) : ByteArray := ⟨l.toArray⟩

theorem B_size (l : List UInt8) : (B l).size = l.length := by simp [ByteArray.size]
theorem B_toList (l : List UInt8) : (B l).toList = l := by rw [ByteArray.toList_eq]
theorem B_beq (a b : List UInt8) : ((B a).toList == (B b).toList) = (a == b) := by rw [B_toList, B_toList]
theorem condS {a b : List UInt8} {A C : Prop} (h1 : a = b → A) (h2 : a ≠ b → C) : condP ((B a).toList == (B b).toList) A C := by
  rw [B_beq]
  by_cases h : a = b
  · rw [beq_iff_eq.2 h]; exact h1 h
  · rw [beq_eq_false_iff_ne.2 h]; exact h2 h

/-! ### numbers -/

/-! ### the document's look -/

def acc (x : Nat) : List UInt8 → Nat
  | [] => x
  | c :: s => acc (x * 128 + c.toNat % 128) s

end V
end

section
/- Readers as objects, in any heap; the chapter's examples. -/

set_option linter.unusedVariables false
set_option linter.unusedSimpArgs false
open Go Go.Ab Go.Proofs
namespace V

/-- a reader stands at id -/
abbrev At (H : List AObj) (id : Nat) (bs : List UInt8) (p : Nat) (e : Int) : Prop := H[id]? = some (rd bs p e)

theorem num_spec {H : List AObj} {id : Nat} {bs : List UInt8} {p : Nat} {e : Int} (most : Int) (hb : bs.length ≤ big) (hp : p ≤ bs.length) (h : At H id bs p e) :
    ASpec Try.prog 143 [.ptr id 0, .int .i64 most] H (fun r H' => r = .int .i64 (numM bs p e most).1 ∧ H' = H.set id (rd bs (numM bs p e most).2.1 (numM bs p e most).2.2)) :=
  ASpec.oneH H id (num_spec0 e most hb hp) _ _ _ rfl rfl h rfl

theorem str_spec {H : List AObj} {id : Nat} {bs : List UInt8} {p : Nat} {e : Int} (most : Int) (hb : bs.length ≤ big) (hp : p ≤ bs.length) (h : At H id bs p e) :
    ASpec Try.prog 145 [.ptr id 0, .int .i64 most] H (fun r H' => r = .str (B (strM bs p e most).1) ∧ H' = H.set id (rd bs (strM bs p e most).2.1 (strM bs p e most).2.2)) :=
  ASpec.oneH H id (str_spec0 e most hb hp) _ _ _ rfl rfl h rfl

theorem set_same {α : Type _} {l : List α} {i : Nat} {a : α} (h : l[i]? = some a) : l.set i a = l := by
  apply List.ext_getElem?
  intro j
  rw [List.getElem?_set]
  split
  · rename_i e; subst e
    have := (List.getElem?_eq_some_iff.1 h).1
    simp only [this, if_true]
    exact h.symm
  · rfl

theorem err_spec {H : List AObj} {id : Nat} {bs : List UInt8} {p : Nat} {e : Int} (h : At H id bs p e) : ASpec Try.prog 144 [.ptr id 0] H (fun r H' => r = .int .i64 e ∧ H' = H) := by
  have k : ASpec Try.prog 144 [.ptr 0 0] [rd bs p e] (fun r H' => r = .int .i64 e ∧ H' = [rd bs p e]) := s144 _ _ _ _ ⟨rfl, rfl⟩
  have := ASpec.oneH H id k [.ptr id 0] (.int .i64 e) (rd bs p e) rfl rfl h rfl
  rw [set_same h] at this
  exact this

theorem put_spec' {args : List AV} {bs : List UInt8} {ns : List Int} {H : List AObj} {Post : AV → List AObj → Prop} (hle : Les args [.sl 1 (.map encB 0 bs) .none, .sl 1 (.map encI 0 ns) .none]) (hb : bs.length + 7 * ns.length ≤ big)
    (h : Post (.sl 1 (.map encB 0 (putM bs ns)) (.tok H.length)) (H ++ [.tok])) : ASpec Try.prog 140 args H Post := ASpec.call (put_spec bs ns hb H) hle h

theorem leNil : Le (.sl 0 (.raw []) .nil) (.sl 1 (.map encB 0 []) .none) := Le.sl rfl (.inr ⟨rfl, fun _ h => by cases h⟩) (.inr rfl)
theorem leOne (x : Int) : Le (.sl 1 (.raw [[.int .i64 x]]) .full) (.sl 1 (.map encI 0 [x]) .none) := Le.sl rfl (.inl rfl) (.inr rfl)

end V
end

section
/- VlqOrder: the law's function returns true. -/

set_option linter.unusedVariables false
set_option linter.unusedSimpArgs false
open Go Go.Ab Go.Proofs
namespace V

end V
end

section
/- VlqBack: what was put is read: the law's function returns true. -/

set_option linter.unusedVariables false
set_option linter.unusedSimpArgs false
open Go Go.Ab Go.Proofs
namespace V

theorem text_spec (bs s : List UInt8) (hb : bs.length + s.length + 100 ≤ big) (H : List AObj) :
    ASpec Try.prog 141 [.sl 1 (.map encB 0 bs) .none, .str (B s)] H (fun r H' => r = .sl 1 (.map encB 0 (bs ++ enc (held s.length) ++ s)) (.tok H.length) ∧ H' = H ++ [.tok]) := by
  refine ASpec.anyH (args := [.sl 1 (.map encB 0 bs) .none, .str (B s)]) (r0 := .sl 1 (.map encB 0 (bs ++ enc (held s.length) ++ s)) (.tok 0)) (Hl := [.tok]) H ?_ _ _ _ rfl rfl rfl
  have hel := enc_length (held s.length) (held_le _)
  unfold big at hb
  refine ASpec.sel (s141 _ _ _ _ (put_spec' (bs := bs) (ns := [(s.length : Int)]) ⟨Le.refl _, ?_, trivial⟩ (by unfold big; simp; omega) ⟨_, rfl, rfl, needJ oneB (needJ ?_ ?_)⟩))
  · rw [B_size]; exact leOne _
  · simp only [putM, Ab.Seq.len, bytesSeq, List.flatMap_cons, List.flatMap_nil, List.append_nil, List.length_append]
    have : (B s).data.toList.length = s.length := rfl
    omega
  · refine ⟨[1], [.tok], .sl 1 (.map encB 0 (bs ++ enc (held s.length) ++ s)) (.tok 0), selTok, Le.sl ?_ (.inl rfl) (.inl rfl), rfl, rfl⟩
    simp [Ab.Seq.toList, Seq.ren, encB, renL, AV.ren, bytesSeq, putM]
    rfl

end V
end

section
/- The document's reader, and a reader that is none: what their methods compute, in any heap. -/

set_option linter.unusedVariables false
set_option linter.unusedSimpArgs false
open Go Go.Ab Go.Proofs
namespace V

def dnumM (l : List UInt8) (e most : Int) : Int × List UInt8 × Int :=
  if e ≠ 0 then (0, l, e) else ((lookM l most).1, l.drop (lookM l most).2.1, (lookM l most).2.2)
def dstrM (l : List UInt8) (e most : Int) : List UInt8 × List UInt8 × Int :=
  if e ≠ 0 then ([], l, e) else if (lookM l most).2.2 ≠ 0 then ([], l, (lookM l most).2.2) else
    if (lookM l most).1 > (l.length : Int) - ((lookM l most).2.1 : Nat) then ([], l, 2) else
    ((l.drop (lookM l most).2.1).take (lookM l most).1.toNat, l.drop ((lookM l most).2.1 + (lookM l most).1.toNat), 0)

theorem condSn {a b : List UInt8} {A C : Prop} (h1 : a ≠ b → A) (h2 : a = b → C) : condP (!(B a).toList == (B b).toList) A C := by
  rw [B_beq]
  by_cases h : a = b
  · rw [beq_iff_eq.2 h]; exact h2 h
  · rw [beq_eq_false_iff_ne.2 h]; exact h1 h

/-! ### a reader that is none -/

/-! ### the reader and the document's -/

theorem num_doc (bs : List UInt8) (p : Nat) (e most : Int) (hp : p ≤ bs.length) :
    dnumM (bs.drop p) e most = ((numM bs p e most).1, bs.drop (numM bs p e most).2.1, (numM bs p e most).2.2) ∧ (numM bs p e most).2.1 ≤ bs.length := by
  have h := (lookM_le (bs.drop p) most).1
  rw [List.length_drop] at h
  unfold dnumM numM
  split
  · exact ⟨rfl, hp⟩
  · refine ⟨by simp [List.drop_drop], by simp only; omega⟩

theorem str_doc (bs : List UInt8) (p : Nat) (e most : Int) (hp : p ≤ bs.length) :
    dstrM (bs.drop p) e most = ((strM bs p e most).1, bs.drop (strM bs p e most).2.1, (strM bs p e most).2.2) ∧ (strM bs p e most).2.1 ≤ bs.length := by
  obtain ⟨h, h2, -, -⟩ := lookM_le (bs.drop p) most
  rw [List.length_drop] at h
  unfold dstrM strM
  simp only [List.length_drop]
  split
  · exact ⟨rfl, hp⟩
  split
  · exact ⟨rfl, hp⟩
  split
  · rename_i hg
    rw [if_pos (by omega)]
    exact ⟨rfl, hp⟩
  · rename_i hg
    rw [if_neg (by omega)]
    refine ⟨by simp [List.drop_drop, Nat.add_assoc], by simp only; omega⟩

end V
end

section
/- Stamps: what the code and the document sum up, close and open. -/

set_option linter.unusedVariables false
set_option linter.unusedSimpArgs false
open Go Go.Ab Go.Proofs V
namespace Go.Ab

theorem Le.tup {l r : List AV} (h : Les l r) : Le (.tup l) (.tup r) := by
  intro M w loc v hv
  cases hv with
  | tup _ vs hs hr =>
    have hl := h.len
    exact .tup _ vs (by omega) fun i hi => h.get i (by omega) hi M w loc _ (hr i (by omega))

theorem Le.agg {l r : List AV} (h : Les l r) : Le (.agg l) (.agg r) := by
  intro M w loc v hv
  cases hv with
  | agg _ vs hs hr =>
    have hl := h.len
    exact .agg _ vs (by omega) fun i hi => h.get i (by omega) hi M w loc _ (hr i (by omega))

end Go.Ab
namespace S

def fnv : Nat → List UInt8 → Nat
  | n, [] => n
  | n, c :: l => fnv ((n ^^^ c.toNat) * 16777619 % 4294967296) l

abbrev sum (l : List UInt8) : Nat := fnv 2166136261 l
/-! ### xor, bit by bit -/

/-! ### sums -/

/-! ### sealing -/

theorem sealLe {q : Seq} {tip : Tip} {ρ : Nat → Nat} (l : List UInt8) (h : q.toList = l.map encB) : Le (.sl 1 q tip) (AV.ren ρ (.sl 1 (.map encB 0 l) .none)) :=
  Le.sl (s' := Seq.ren ρ (.map encB 0 l)) (by rw [h]; simp [Ab.Seq.toList, Seq.ren, encB, renL, AV.ren]) (.inl rfl) (.inr rfl)

/-! ### opening -/

end S
end

section
/- Labels: runes, kinds, and which names may be. -/

set_option linter.unusedVariables false
set_option linter.unusedSimpArgs false
set_option maxRecDepth 100000
open Go Go.Ab Go.Proofs V
namespace S

def kindM (c : Int) : Int := if 97 ≤ c ∧ c ≤ 122 then 0 else if 945 ≤ c ∧ c ≤ 969 then 1 else if 48 ≤ c ∧ c ≤ 57 then 2 else if c = 45 then 3 else 4

theorem kind_spec (c : Int) (H : List AObj) : ASpec Try.prog 253 [.int .i32 c] H (fun r H' => r = .int .i64 (kindM c) ∧ H' = H) := by
  have k : ASpec Try.prog 253 [.int .i32 c] [] (fun r H' => r = .int .i64 (kindM c) ∧ H' = []) := by
    refine s253 _ _ ?_
    repeat' (first | refine condD (fun _ => ?_) fun _ => ?_ | refine condE (fun _ => ?_) fun _ => ?_)
    all_goals (refine ⟨?_, rfl⟩; congr 1; unfold kindM; repeat' split)
    all_goals omega
  exact ASpec.pureH H k _ _ rfl rfl

/-! ### the rune at a place -/

/-- a byte behind a place -/
abbrev bt (l : List UInt8) (p k : Nat) : Nat := (l.getD (p + k) 0).toNat

theorem bt_lt (l : List UInt8) (p k : Nat) : bt l p k < 256 := (l.getD (p + k) 0).toNat_lt

theorem get_B (l : List UInt8) (j : Nat) : (B l).get! j = l.getD j 0 := by
  show l.toArray[j]! = _
  rw [getElem!_def]
  simp [List.getD]
  rfl

abbrev wideC (a b0 b1 b2 b3 : Nat) : Nat :=
  if 194 ≤ b0 ∧ b0 ≤ 223 then (if 2 ≤ a ∧ (128 ≤ b1 ∧ b1 ≤ 191) then 2 else 0)
  else if 224 ≤ b0 ∧ b0 ≤ 239 then (if 3 ≤ a ∧ (128 ≤ b1 ∧ b1 ≤ 191) ∧ (128 ≤ b2 ∧ b2 ≤ 191) ∧ ¬ (b0 = 224 ∧ b1 < 160) ∧ ¬ (b0 = 237 ∧ 159 < b1) then 3 else 0)
  else if 240 ≤ b0 ∧ b0 ≤ 244 then (if 4 ≤ a ∧ (128 ≤ b1 ∧ b1 ≤ 191) ∧ (128 ≤ b2 ∧ b2 ≤ 191) ∧ (128 ≤ b3 ∧ b3 ≤ 191) ∧ ¬ (b0 = 240 ∧ b1 < 144) ∧ ¬ (b0 = 244 ∧ 143 < b1) then 4 else 0)
  else 0

def wideM (l : List UInt8) (p : Nat) : Nat := wideC (l.length - p) (bt l p 0) (bt l p 1) (bt l p 2) (bt l p 3)

abbrev runeC (w b0 b1 b2 b3 : Nat) : Nat × Nat :=
  if b0 < 128 then (b0, 1) else if w = 0 then (65533, 1) else if w = 2 then (b0 % 32 * 64 + b1 % 64, 2)
  else if w = 3 then ((b0 % 16 * 64 + b1 % 64) * 64 + b2 % 64, 3) else (((b0 % 8 * 64 + b1 % 64) * 64 + b2 % 64) * 64 + b3 % 64, 4)

def runeM (l : List UInt8) (p : Nat) : Nat × Nat := runeC (wideM l p) (bt l p 0) (bt l p 1) (bt l p 2) (bt l p 3)

theorem decode_core (a b0 b1 b2 b3 : Nat) (h0 : b0 < 256) (h1 : b1 < 256) (h2 : b2 < 256) (h3 : b3 < 256) :
    (if b0 < 128 then (b0, 1)
     else if b0 / 32 = 6 ∧ (1 < a ∧ b1 / 64 = 2) then (if 128 ≤ b0 % 32 * 64 + b1 % 64 then (b0 % 32 * 64 + b1 % 64, 2) else (65533, 1))
     else if b0 / 16 = 14 ∧ (1 < a ∧ b1 / 64 = 2) ∧ (2 < a ∧ b2 / 64 = 2) then
       (if 2048 ≤ b0 % 16 * 4096 + b1 % 64 * 64 + b2 % 64 ∧ (b0 % 16 * 4096 + b1 % 64 * 64 + b2 % 64 < 55296 ∨ (57344 ≤ b0 % 16 * 4096 + b1 % 64 * 64 + b2 % 64 ∧ b0 % 16 * 4096 + b1 % 64 * 64 + b2 % 64 ≤ 1114111))
        then (b0 % 16 * 4096 + b1 % 64 * 64 + b2 % 64, 3) else (65533, 1))
     else if b0 / 8 = 30 ∧ (1 < a ∧ b1 / 64 = 2) ∧ (2 < a ∧ b2 / 64 = 2) ∧ (3 < a ∧ b3 / 64 = 2) then
       (if 65536 ≤ b0 % 8 * 262144 + b1 % 64 * 4096 + b2 % 64 * 64 + b3 % 64 ∧ (b0 % 8 * 262144 + b1 % 64 * 4096 + b2 % 64 * 64 + b3 % 64 < 55296 ∨ (57344 ≤ b0 % 8 * 262144 + b1 % 64 * 4096 + b2 % 64 * 64 + b3 % 64 ∧ b0 % 8 * 262144 + b1 % 64 * 4096 + b2 % 64 * 64 + b3 % 64 ≤ 1114111))
        then (b0 % 8 * 262144 + b1 % 64 * 4096 + b2 % 64 * 64 + b3 % 64, 4) else (65533, 1))
     else ((65533 : Nat), (1 : Nat))) = runeC (wideC a b0 b1 b2 b3) b0 b1 b2 b3 := by
  have e2 : ∀ w : Nat, w = 0 ∨ w = 2 ∨ w = 3 ∨ w = 4 ∨ 4 < w ∨ w = 1 := by omega
  by_cases c0 : b0 < 128
  · rw [if_pos c0]; unfold runeC; rw [if_pos c0]
  rw [if_neg c0]
  unfold runeC
  rw [if_neg c0]
  by_cases c1 : 194 ≤ b0 ∧ b0 ≤ 223
  · unfold wideC
    rw [if_pos c1]
    by_cases d : 1 < a ∧ b1 / 64 = 2
    · rw [if_pos ⟨by omega, d⟩, if_pos (by omega), if_pos (show 2 ≤ a ∧ (128 ≤ b1 ∧ b1 ≤ 191) by omega)]; rfl
    · rw [if_neg (fun h => d h.2), if_neg (fun h => d h.2.1), if_neg (fun h => d h.2.1), if_neg (show ¬ (2 ≤ a ∧ (128 ≤ b1 ∧ b1 ≤ 191)) by omega)]; rfl
  by_cases c2 : 224 ≤ b0 ∧ b0 ≤ 239
  · unfold wideC
    rw [if_neg c1, if_pos c2]
    rw [if_neg (show ¬ (b0 / 32 = 6 ∧ (1 < a ∧ b1 / 64 = 2)) by omega)]
    by_cases d : (1 < a ∧ b1 / 64 = 2) ∧ (2 < a ∧ b2 / 64 = 2)
    · rw [if_pos ⟨by omega, d⟩]
      by_cases f : ¬ (b0 = 224 ∧ b1 < 160) ∧ ¬ (b0 = 237 ∧ 159 < b1)
      · rw [if_pos (show 3 ≤ a ∧ (128 ≤ b1 ∧ b1 ≤ 191) ∧ (128 ≤ b2 ∧ b2 ≤ 191) ∧ ¬ (b0 = 224 ∧ b1 < 160) ∧ ¬ (b0 = 237 ∧ 159 < b1) by omega), if_pos (by omega)]
        simp only [if_neg (show ¬ (3 = 0) by omega), if_neg (show ¬ (3 = 2) by omega), if_true]
        rw [show b0 % 16 * 4096 + b1 % 64 * 64 + b2 % 64 = (b0 % 16 * 64 + b1 % 64) * 64 + b2 % 64 by omega]
      · rw [if_neg (show ¬ (3 ≤ a ∧ (128 ≤ b1 ∧ b1 ≤ 191) ∧ (128 ≤ b2 ∧ b2 ≤ 191) ∧ ¬ (b0 = 224 ∧ b1 < 160) ∧ ¬ (b0 = 237 ∧ 159 < b1)) by omega), if_neg (by omega)]; rfl
    · rw [if_neg (fun h => d h.2), if_neg (show ¬ (b0 / 8 = 30 ∧ (1 < a ∧ b1 / 64 = 2) ∧ (2 < a ∧ b2 / 64 = 2) ∧ (3 < a ∧ b3 / 64 = 2)) by omega),
        if_neg (show ¬ (3 ≤ a ∧ (128 ≤ b1 ∧ b1 ≤ 191) ∧ (128 ≤ b2 ∧ b2 ≤ 191) ∧ ¬ (b0 = 224 ∧ b1 < 160) ∧ ¬ (b0 = 237 ∧ 159 < b1)) by omega)]; rfl
  by_cases c3 : 240 ≤ b0 ∧ b0 ≤ 244
  · unfold wideC
    rw [if_neg c1, if_neg c2, if_pos c3]
    rw [if_neg (show ¬ (b0 / 32 = 6 ∧ (1 < a ∧ b1 / 64 = 2)) by omega), if_neg (show ¬ (b0 / 16 = 14 ∧ (1 < a ∧ b1 / 64 = 2) ∧ (2 < a ∧ b2 / 64 = 2)) by omega)]
    by_cases d : (1 < a ∧ b1 / 64 = 2) ∧ (2 < a ∧ b2 / 64 = 2) ∧ (3 < a ∧ b3 / 64 = 2)
    · rw [if_pos ⟨by omega, d⟩]
      by_cases f : ¬ (b0 = 240 ∧ b1 < 144) ∧ ¬ (b0 = 244 ∧ 143 < b1)
      · rw [if_pos (show 4 ≤ a ∧ (128 ≤ b1 ∧ b1 ≤ 191) ∧ (128 ≤ b2 ∧ b2 ≤ 191) ∧ (128 ≤ b3 ∧ b3 ≤ 191) ∧ ¬ (b0 = 240 ∧ b1 < 144) ∧ ¬ (b0 = 244 ∧ 143 < b1) by omega), if_pos (by omega)]
        simp only [if_neg (show ¬ (4 = 0) by omega), if_neg (show ¬ (4 = 2) by omega), if_neg (show ¬ (4 = 3) by omega)]
        rw [show b0 % 8 * 262144 + b1 % 64 * 4096 + b2 % 64 * 64 + b3 % 64 = ((b0 % 8 * 64 + b1 % 64) * 64 + b2 % 64) * 64 + b3 % 64 by omega]
      · rw [if_neg (show ¬ (4 ≤ a ∧ (128 ≤ b1 ∧ b1 ≤ 191) ∧ (128 ≤ b2 ∧ b2 ≤ 191) ∧ (128 ≤ b3 ∧ b3 ≤ 191) ∧ ¬ (b0 = 240 ∧ b1 < 144) ∧ ¬ (b0 = 244 ∧ 143 < b1)) by omega), if_neg (by omega)]; rfl
    · rw [if_neg (fun h => d h.2), if_neg (show ¬ (4 ≤ a ∧ (128 ≤ b1 ∧ b1 ≤ 191) ∧ (128 ≤ b2 ∧ b2 ≤ 191) ∧ (128 ≤ b3 ∧ b3 ≤ 191) ∧ ¬ (b0 = 240 ∧ b1 < 144) ∧ ¬ (b0 = 244 ∧ 143 < b1)) by omega)]; rfl
  · unfold wideC
    rw [if_neg c1, if_neg c2, if_neg c3]
    by_cases d : b0 / 32 = 6 ∧ (1 < a ∧ b1 / 64 = 2)
    · rw [if_pos d, if_neg (by omega)]; rfl
    rw [if_neg d, if_neg (show ¬ (b0 / 16 = 14 ∧ (1 < a ∧ b1 / 64 = 2) ∧ (2 < a ∧ b2 / 64 = 2)) by omega)]
    by_cases f : b0 / 8 = 30 ∧ (1 < a ∧ b1 / 64 = 2) ∧ (2 < a ∧ b2 / 64 = 2) ∧ (3 < a ∧ b3 / 64 = 2)
    · rw [if_pos f, if_neg (by omega)]; rfl
    · rw [if_neg f]; rfl

theorem validN (n : Nat) : Utf8.valid (n : Int) = (decide (n < 55296) || (decide (57344 ≤ n) && decide (n ≤ 1114111))) := by
  unfold Utf8.valid
  rw [Bool.eq_iff_iff]
  simp only [Bool.and_eq_true, Bool.or_eq_true, decide_eq_true_eq]
  omega

set_option maxRecDepth 100000 in
theorem decode_eq (l : List UInt8) (p : Nat) (hp : p < l.length) : Utf8.decode (B l) p = runeM l p := by
  unfold runeM wideM
  rw [← decode_core (l.length - p) _ _ _ _ (bt_lt l p 0) (bt_lt l p 1) (bt_lt l p 2) (bt_lt l p 3)]
  have hb : ∀ k, ((B l).get! (p + k)).toNat = bt l p k := fun k => by rw [get_B]
  have hc : ∀ k, decide (p + k < (B l).size) = decide (k < l.length - p) := fun k => by rw [B_size]; apply decide_eq_decide.2; omega
  unfold Utf8.decode
  simp only [hb, hc, validN]
  generalize bt l p 0 = b0
  generalize bt l p 1 = b1
  generalize bt l p 2 = b2
  generalize bt l p 3 = b3
  generalize l.length - p = a
  simp only [Utf8.runeError, Bool.and_eq_true, Bool.or_eq_true, decide_eq_true_eq, beq_iff_eq, ge_iff_le, and_assoc]

theorem runeM_width (l : List UInt8) (p : Nat) : 1 ≤ (runeM l p).2 ∧ (runeM l p).2 ≤ 4 := by
  unfold runeM runeC
  repeat' split
  all_goals simp

theorem wideM_cases (l : List UInt8) (p : Nat) : wideM l p = 0 ∨ (wideM l p = 2 ∧ 194 ≤ bt l p 0 ∧ bt l p 0 ≤ 223 ∧ p + 2 ≤ l.length) ∨
    (wideM l p = 3 ∧ 224 ≤ bt l p 0 ∧ bt l p 0 ≤ 239 ∧ p + 3 ≤ l.length ∧ (128 ≤ bt l p 1 ∧ bt l p 1 ≤ 191) ∧ ¬ (bt l p 0 = 224 ∧ bt l p 1 < 160)) ∨
    (wideM l p = 4 ∧ 240 ≤ bt l p 0 ∧ bt l p 0 ≤ 244 ∧ p + 4 ≤ l.length ∧ (128 ≤ bt l p 1 ∧ bt l p 1 ≤ 191) ∧ ¬ (bt l p 0 = 240 ∧ bt l p 1 < 144)) := by
  unfold wideM wideC
  repeat' split
  all_goals omega

/-- a rune that a name may have has two bytes at most -/
theorem runeM_small {l : List UInt8} {p : Nat} (h : kindM ((runeM l p).1 : Nat) ≤ 3) : (runeM l p).2 ≤ 2 := by
  have hk : ((runeM l p).1 : Int) ≤ 969 := by
    unfold kindM at h
    repeat' split at h
    all_goals omega
  rcases wideM_cases l p with e | ⟨e, h1⟩ | ⟨e, h1, h2, h3, h4, h5⟩ | ⟨e, h1, h2, h3, h4, h5⟩
  · unfold runeM runeC
    repeat' split
    all_goals simp_all
  · unfold runeM runeC
    repeat' split
    all_goals simp_all
  · exfalso
    unfold runeM runeC at hk
    rw [e] at hk
    rw [if_neg (by omega), if_neg (by omega), if_neg (by omega), if_pos rfl] at hk
    simp only at hk
    omega
  · exfalso
    unfold runeM runeC at hk
    rw [e] at hk
    rw [if_neg (by omega), if_neg (by omega), if_neg (by omega), if_neg (by omega)] at hk
    simp only at hk
    omega

/-! ### the document's walk over a rune's bytes -/

section
variable {l : List UInt8} {p : Nat} {Post : AV → List AObj → Prop}

end
end S
end

section
/- Which names may be: the code's walk and the document's. -/

set_option linter.unusedVariables false
set_option linter.unusedSimpArgs false
set_option maxRecDepth 100000
open Go Go.Ab Go.Proofs V
namespace S
theorem condBn {b : Bool} {A C : Prop} (h1 : b = false → A) (h2 : b = true → C) : condP (!b) A C := by cases b <;> simp_all [condP]
section
variable {l : List UInt8} {p : Nat}

/-! ### all runes -/

def runesF : Nat → List UInt8 → Nat → List Int
  | 0, _, _ => []
  | f + 1, l, p => if p < l.length then ((runeM l p).1 : Int) :: runesF f l (p + (runeM l p).2) else []
def runesM (l : List UInt8) : List Int := runesF l.length l 0

/-! ### names -/

def fitF (n : Nat) : List Int → Bool
  | [] => decide (0 < n)
  | c :: r => if 3 < kindM c ∨ (n = 0 ∧ 1 < kindM c) ∨ n = 12 then false else fitF (n + 1) r

def fitM (l : List UInt8) : Bool := fitF 0 (runesM l)

theorem fit3 {Post : AV → List AObj → Prop} (hl : l.length ≤ 10 * big) : ∀ (f p n : Nat), l.length - p ≤ f → n ≤ 12 → (∀ q, Post (.bool (fitF n (runesF f l p))) [.siter (B l) q]) →
    AWP Try.prog 32 0 c154_3 [(3, .int .i64 n), (8, .ptr 0 0)] [.siter (B l) p] (q154_2 0 Post) := by
  intro f
  induction f with
  | zero =>
    intro p n hf hn h
    refine v154_3 _ _ _ _ _ (condD (fun hc => by rw [B_size] at hc; omega) fun _ => ?_)
    have := h p
    simp only [runesF, fitF] at this
    rw [show decide ((n : Int) > 0) = decide (0 < n) from decide_eq_decide.2 (by omega)]
    exact this
  | succ f ih =>
    intro p n hf hn h
    refine v154_3 _ _ _ _ _ (condD (fun hc => ?_) fun hc => ?_)
    · rw [B_size] at hc
      rw [decode_eq l p hc]
      have hw := runeM_width l p
      simp only [runesF, if_pos hc, fitF] at h
      refine ASpec.call (kind_spec _ _) (Les.refl _) ⟨_, rfl, rfl, ?_⟩
      generalize kindM ((runeM l p).1 : Nat) = k at h ⊢
      have no : (3 < k ∨ (n = 0 ∧ 1 < k) ∨ n = 12) → Post (.bool false) [.siter (B l) (p + (runeM l p).2)] := by
        intro hh
        have := h (p + (runeM l p).2)
        rw [if_pos hh] at this
        exact this
      have yes : ¬ (3 < k ∨ (n = 0 ∧ 1 < k) ∨ n = 12) → AWP Try.prog 32 0 c154_3 [(3, .int .i64 (IntKind.wrap .i64 ((n : Int) + 1))), (8, .ptr 0 0)] [.siter (B l) (p + (runeM l p).2)] (q154_2 0 Post) := by
        intro hh
        rw [show IntKind.wrap .i64 ((n : Int) + 1) = ((n + 1 : Nat) : Int) by rw [wrap64 (by omega) (by omega)]; simp]
        refine ih (p + (runeM l p).2) (n + 1) (by omega) (by omega) (fun q => ?_)
        have := h q
        rw [if_neg hh] at this
        exact this
      refine condD (fun h1 => no (.inl h1)) fun h1 => condE (fun h2 => condD (fun h3 => no (.inr (.inl ⟨by omega, h3⟩))) fun h3 => condE (fun h4 => no (.inr (.inr (by omega)))) fun h4 => yes (by omega)) fun h2 => condE (fun h4 => no (.inr (.inr (by omega)))) fun h4 => yes (by omega)
    · rw [B_size] at hc
      have := h p
      simp only [runesF, if_neg hc, fitF] at this
      rw [show decide ((n : Int) > 0) = decide (0 < n) from decide_eq_decide.2 (by omega)]
      exact this

theorem fit_spec (hl : l.length ≤ 10 * big) (H : List AObj) : ASpec Try.prog 154 [.str (B l)] H (fun r H' => r = .bool (fitM l) ∧ H' = H) := by
  have k : ASpec Try.prog 154 [.str (B l)] [] (fun r H' => r = .bool (fitM l) ∧ H' = []) := by
    refine ASpec.sel (s154 _ _ (fit3 hl l.length 0 0 (by omega) (by omega) (fun q => ⟨[], [], .bool (fitM l), Sel.none, Le.refl _, rfl, rfl⟩)))
  exact ASpec.pureH H k _ _ rfl rfl

theorem fitF_short (hl : True) : ∀ (f p n : Nat), l.length - p ≤ f → n ≤ 12 → fitF n (runesF f l p) = true → l.length - p ≤ 2 * (12 - n) := by
  intro f
  induction f with
  | zero => intro p n hf hn h; omega
  | succ f ih =>
    intro p n hf hn h
    by_cases hc : p < l.length
    · simp only [runesF, if_pos hc, fitF] at h
      split at h
      · cases h
      rename_i hh
      have hw := runeM_small (l := l) (p := p) (by omega)
      have := ih (p + (runeM l p).2) (n + 1) (by have := runeM_width l p; omega) (by omega) h
      omega
    · omega

theorem fitM_short (h : fitM l = true) : l.length ≤ 24 := by
  have := fitF_short (l := l) trivial l.length 0 0 (by omega) (by omega) h
  omega

end
end S
end

section
/- Which spans, needs and manifests may be: the code's walks and the document's. -/

set_option linter.unusedVariables false
set_option linter.unusedSimpArgs false
set_option maxRecDepth 100000
open Go Go.Ab Go.Proofs V S T
namespace C

/-- the answer c, whatever lies in the heap -/
abbrev PB (c : Bool) : AV → List AObj → Prop := fun r H' => ∃ l H2 r2, Sel 0 l H' H2 ∧ Le r (AV.ren (selR l H'.length) r2) ∧ (r2 = .bool c ∧ H2 = [])
theorem pb {b c : Bool} {H' : List AObj} (h : b = c) : PB c (.bool b) H' := ⟨[], [], .bool c, Sel.none, h ▸ Le.refl _, rfl, rfl⟩

theorem dropD {α : Type} (l : List α) (d : α) (i : Nat) (h : i < l.length) : l.drop i = l.getD i d :: l.drop (i + 1) := by
  rw [List.drop_eq_getElem_cons h]
  simp [List.getD, List.getElem?_eq_getElem h]

theorem memD {α : Type} (l : List α) (d : α) (i : Nat) (h : i < l.length) : l.getD i d ∈ l := by
  simp [List.getD, List.getElem?_eq_getElem h]

theorem succ64 {i : Nat} (h : i ≤ 10000000) : IntKind.wrap .i64 ((i : Int) + 1) = ((i + 1 : Nat) : Int) := by rw [wrap64 (by omega) (by omega)]; simp
abbrev lim : Nat := 1000000

/-! ### spans -/

def chkS (e : Int) : List Span → Bool
  | [] => true
  | x :: r => if x.1 ≤ e ∨ x.2 ≤ x.1 ∨ 1000000000 < x.2 then false else chkS x.2 r
def spanOk (l : List Span) : Bool := chkS (-1) l

theorem chk3 {l : List Span} {c : Bool} (hl : l.length ≤ lim) : ∀ (m i : Nat) (e : Int), m + i = l.length → chkS e (l.drop i) = c →
    AWP Try.prog 31 0 c256_3 [(3, .int .i64 e), (6, .sl 2 (.map encS (0, 0) l) .none), (7, .int .i64 l.length), (8, .int .i64 i)] [] (q256_2 0 (PB c)) := by
  intro m
  induction m with
  | zero =>
    intro i e hm h
    refine v256_3 _ _ _ _ _ _ (condD (fun hc => by omega) fun _ => pb ?_)
    rw [List.drop_eq_nil_of_le (by omega)] at h
    exact h
  | succ m ih =>
    intro i e hm h
    rw [dropD l (0, 0) i (by omega)] at h
    simp only [chkS] at h
    refine v256_3 _ _ _ _ _ _ (condD (fun hc => needJ ⟨by omega, by omega⟩ ?_) fun hc => by omega)
    rw [Int.toNat_natCast]
    generalize l.getD i (0, 0) = x at h ⊢
    refine condD (fun h1 => pb ?_) fun h1 => condD (fun h2 => pb ?_) fun h2 => condD (fun h3 => pb ?_) fun h3 => ?_
    · rw [if_pos (.inl h1)] at h; exact h
    · rw [if_pos (.inr (.inl h2))] at h; exact h
    · rw [if_pos (.inr (.inr h3))] at h; exact h
    · rw [if_neg (by omega)] at h
      rw [succ64 (by unfold lim at hl; omega)]
      exact AWP.shape [] [(3, .int .i64 x.2), (6, .sl 2 (.map encS (0, 0) l) .none), (7, .int .i64 l.length), (8, .int .i64 (i + 1 : Nat))] [] Sel.none ⟨rfl, Le.refl _, rfl, Le.refl _, rfl, Le.refl _, rfl, Le.refl _, trivial⟩ (ih (i + 1) x.2 (by omega) h)

theorem spanCheck_spec (l : List Span) (hl : l.length ≤ lim) (H : List AObj) : ASpec Try.prog 256 [.sl 2 (.map encS (0, 0) l) .none] H (fun r H' => r = .bool (spanOk l) ∧ H' = H) :=
  ASpec.pureH H (ASpec.sel (s256 _ _ (chk3 hl l.length 0 (-1) (by omega) rfl))) _ _ rfl rfl

/-! ### needs -/

def leB (a b : List UInt8) : Bool := Op.bytesLess a b || a == b

def needsF (last : List UInt8) : List Need → Bool
  | [] => true
  | x :: r => if fitM x.1 = false ∨ leB x.1 last = true ∨ 6 < x.2.length ∨ spanOk x.2 = false then false else needsF x.1 r
def needOk (l : List Need) : Bool := needsF [] l && decide (l.length ≤ 6)

def okN (l : List Need) : Prop := l.length ≤ lim ∧ ∀ n ∈ l, n.1.length ≤ lim ∧ n.2.length ≤ lim

theorem need3 {l : List Need} {c : Bool} (hl : okN l) : ∀ (m i : Nat) (last : List UInt8), m + i = l.length → (needsF last (l.drop i) && decide (l.length ≤ 6)) = c →
    AWP Try.prog 40 0 c232_3 [(0, .sl 2 (.map encN ([], []) l) .none), (3, .str (B last)), (6, .sl 2 (.map encN ([], []) l) .none), (7, .int .i64 l.length), (8, .int .i64 i)] [] (q232_2 0 (PB c)) := by
  obtain ⟨hl1, hl2⟩ := hl
  intro m
  induction m with
  | zero =>
    intro i last hm h
    refine v232_3 _ _ _ _ _ _ (condD (fun hc => by omega) fun _ => pb ?_)
    rw [List.drop_eq_nil_of_le (by omega)] at h
    simp only [needsF, Bool.true_and] at h
    rw [show decide ((l.length : Int) ≤ 6) = decide (l.length ≤ 6) from decide_eq_decide.2 (by omega)]
    exact h
  | succ m ih =>
    intro i last hm h
    have hx := hl2 _ (memD l ([], []) i (by omega))
    rw [dropD l ([], []) i (by omega)] at h
    simp only [needsF] at h
    refine v232_3 _ _ _ _ _ _ (condD (fun hc => needJ ⟨by omega, by omega⟩ ?_) fun hc => by omega)
    rw [Int.toNat_natCast]
    generalize l.getD i ([], []) = x at h hx ⊢
    have bad : ∀ {H' : List AObj}, (fitM x.1 = false ∨ leB x.1 last = true ∨ 6 < x.2.length ∨ spanOk x.2 = false) → PB c (.bool false) H' := by
      intro H' hh
      rw [if_pos hh] at h
      exact pb h
    refine ASpec.call (fit_spec (l := x.1) (by unfold big; unfold lim at hx; omega) _) (Les.refl _) ⟨_, rfl, rfl, condBn (fun h1 => bad (.inl h1)) fun h1 => ?_⟩
    rw [B_toList, B_toList]
    refine condB (fun h2 => bad (.inr (.inl h2))) fun h2 => condD (fun h3 => bad (.inr (.inr (.inl (by omega))))) fun h3 => ?_
    refine ASpec.call (spanCheck_spec x.2 hx.2 _) (Les.refl _) ⟨_, rfl, rfl, condBn (fun h4 => bad (.inr (.inr (.inr h4)))) fun h4 => ?_⟩
    have h2' : leB x.1 last = false := h2
    rw [if_neg (by rw [h1, h2', h4]; simp; omega)] at h
    rw [succ64 (by unfold lim at hl1; omega)]
    exact AWP.shape [] [(0, .sl 2 (.map encN ([], []) l) .none), (3, .str (B x.1)), (6, .sl 2 (.map encN ([], []) l) .none), (7, .int .i64 l.length), (8, .int .i64 (i + 1 : Nat))] [] Sel.none
      ⟨rfl, Le.refl _, rfl, Le.refl _, rfl, Le.refl _, rfl, Le.refl _, rfl, Le.refl _, trivial⟩ (ih (i + 1) x.1 (by omega) h)

theorem needCheck_spec (l : List Need) (hl : okN l) (H : List AObj) : ASpec Try.prog 232 [.sl 2 (.map encN ([], []) l) .none] H (fun r H' => r = .bool (needOk l) ∧ H' = H) :=
  ASpec.pureH H (ASpec.sel (s232 _ _ (need3 hl l.length 0 [] (by omega) rfl))) _ _ rfl rfl

/-! ### manifests -/

def relF (e : Int) : List Rel → Bool
  | [] => true
  | x :: r => if x.1 ≤ e ∨ 1000000000 ≤ x.1 ∨ needOk x.2 = false then false else relF x.1 r
def manOk (m : Mani) : Bool := relF (-1) m.2 && (fitM m.1 && decide (m.2.length ≤ 8))

def okM (m : Mani) : Prop := m.1.length ≤ lim ∧ m.2.length ≤ lim ∧ ∀ r ∈ m.2, okN r.2

theorem mani3 {m : Mani} {c : Bool} (hl : okM m) : ∀ (k i : Nat) (e : Int), k + i = m.2.length → (relF e (m.2.drop i) && (fitM m.1 && decide (m.2.length ≤ 8))) = c →
    AWP Try.prog 40 0 c185_3 [(1, .ptr 0 0), (3, .int .i64 e), (7, .sl 2 (.map T.encR (0, []) m.2) .none), (8, .int .i64 m.2.length), (9, .int .i64 i)] [.cells (encM m)] (q185_2 0 (PB c)) := by
  obtain ⟨hl1, hl2, hl3⟩ := hl
  intro k
  induction k with
  | zero =>
    intro i e hm h
    refine v185_3 _ _ _ _ _ _ (condD (fun hc => by omega) fun _ => ?_)
    rw [List.drop_eq_nil_of_le (by omega)] at h
    simp only [relF, Bool.true_and] at h
    refine ASpec.call (fit_spec (l := m.1) (by unfold big; unfold lim at hl1; omega) _) (Les.refl _) ⟨_, rfl, rfl, condB (fun h1 => pb ?_) fun h1 => pb ?_⟩
    · rw [h1, Bool.true_and] at h
      rw [show decide ((m.2.length : Int) ≤ 8) = decide (m.2.length ≤ 8) from decide_eq_decide.2 (by omega)]
      exact h
    · rw [h1, Bool.false_and] at h
      exact h
  | succ k ih =>
    intro i e hm h
    have hx := hl3 _ (memD m.2 (0, []) i (by omega))
    rw [dropD m.2 (0, []) i (by omega)] at h
    simp only [relF] at h
    refine v185_3 _ _ _ _ _ _ (condD (fun hc => needJ ⟨by omega, by omega⟩ ?_) fun hc => by omega)
    rw [Int.toNat_natCast]
    generalize m.2.getD i (0, []) = x at h hx ⊢
    have bad : ∀ {H' : List AObj}, (x.1 ≤ e ∨ 1000000000 ≤ x.1 ∨ needOk x.2 = false) → PB c (.bool false) H' := by
      intro H' hh
      rw [if_pos hh] at h
      exact pb h
    refine condD (fun h1 => bad (.inl h1)) fun h1 => condD (fun h2 => bad (.inr (.inl h2))) fun h2 => ?_
    refine ASpec.call (needCheck_spec x.2 hx _) (Les.refl _) ⟨_, rfl, rfl, condBn (fun h3 => bad (.inr (.inr h3))) fun h3 => ?_⟩
    rw [if_neg (by rw [h3]; simp; omega)] at h
    rw [succ64 (by unfold lim at hl2; omega)]
    exact AWP.shape [0] [(1, .ptr 0 0), (3, .int .i64 x.1), (7, .sl 2 (.map T.encR (0, []) m.2) .none), (8, .int .i64 m.2.length), (9, .int .i64 (i + 1 : Nat))] [.cells (encM m)] (Sel.one 0 rfl rfl)
      ⟨rfl, Le.refl _, rfl, Le.refl _, rfl, Le.refl _, rfl, Le.refl _, rfl, Le.refl _, trivial⟩ (ih (i + 1) x.1 (by omega) h)

theorem maniCheck_spec (m : Mani) (hl : okM m) (H : List AObj) : ASpec Try.prog 185 [.agg (encM m)] H (fun r H' => r = .bool (manOk m) ∧ H' = H) :=
  ASpec.pureH H (ASpec.sel (s185 _ _ (mani3 hl m.2.length 0 (-1) (by omega) rfl))) _ _ rfl rfl

/-! ### are they large? -/

end C
end

section
/- Entries, and what an index knows. -/

open Go Go.Ab Go.Proofs
namespace T
end T
end

section
/- The order of names, and looking for one by halves: plain laws. -/

set_option linter.unusedVariables false
set_option linter.unusedSimpArgs false
open Go Go.Ab Go.Proofs V S T C
namespace Dp

theorem less_iff {a b : List UInt8} : Op.bytesLess a b = true ↔ a < b := by rw [bytesLess_eq]; simp
theorem less_tri : ∀ {a b : List UInt8}, Op.bytesLess a b = false → a ≠ b → Op.bytesLess b a = true
  | [], [], _, h => absurd rfl h
  | [], _ :: _, h, _ => by simp [Op.bytesLess] at h
  | _ :: _, [], _, _ => by simp [Op.bytesLess]
  | x :: a, y :: b, h, hne => by
    simp only [Op.bytesLess, Bool.or_eq_false_iff, decide_eq_false_iff_not, Bool.and_eq_false_iff, beq_eq_false_iff_ne] at h
    simp only [Op.bytesLess, Bool.or_eq_true, decide_eq_true_eq, Bool.and_eq_true, beq_iff_eq]
    by_cases e : x = y
    · subst e
      rcases h.2 with h2 | h2
      · exact absurd rfl h2
      · exact .inr ⟨rfl, less_tri h2 (fun h3 => hne (by rw [h3]))⟩
    · left
      have h1 := h.1
      rw [UInt8.not_lt] at h1
      exact UInt8.lt_of_le_of_ne h1 (fun h => e h.symm)
/-! ### entries that may be -/

end Dp
end

section
/- Names as cells. -/

open Go Go.Ab Go.Proofs
namespace T
noncomputable def encL (x : List UInt8) : List AV := [.str ⟨x.toArray⟩]
end T
end

section
/- Steps of a proof as cells. -/

open Go Go.Ab Go.Proofs
namespace T
/-- kind, name, version, the other name, two numbers -/
abbrev St := Int × List UInt8 × Int × List UInt8 × Int × Int
noncomputable def encSt (x : St) : List AV := [.int .i64 x.1, .str ⟨x.2.1.toArray⟩, .int .i64 x.2.2.1, .str ⟨x.2.2.2.1.toArray⟩, .int .i64 x.2.2.2.2.1, .int .i64 x.2.2.2.2.2]
abbrev noSt : St := (0, [], 0, [], 0, 0)
noncomputable def encBo (x : Bool) : List AV := [.bool x]
end T
end

section
/- Printed: what the code of functions 124, 227, 126, 127, 230, 128, 129, 16, 15 asks for, by the framework's own reading of it; each line is checked against the code. -/

set_option linter.unusedVariables false
set_option maxRecDepth 100000
set_option maxHeartbeats 4000000
open Go Go.Ab Go.Proofs
namespace Pl
noncomputable section

noncomputable def addH (args : List AV) (H : List AObj) (o : AObj) : List AObj := match args with
  | .msl _ id _ _ :: _ => H.set id o
  | _ => H
noncomputable def headId : List AV → Nat
  | .msl _ id _ _ :: _ => id
  | _ => 0
noncomputable def retL : List (Nat × Ret) := [
  (123, ⟨Bool, fun _ _ x => .bool x, fun _ H _ => H⟩), (25, ⟨Bool, fun _ _ x => .bool x, fun _ H _ => H⟩), (24, ⟨Bool, fun _ _ x => .bool x, fun _ H _ => H⟩), (18, ⟨Bool, fun _ _ x => .bool x, fun _ H _ => H⟩), (227, ⟨Bool, fun _ _ x => .bool x, fun _ H _ => H⟩), (124, ⟨Bool, fun _ _ x => .bool x, fun _ H _ => H⟩), (63, ⟨Bool, fun _ _ x => .bool x, fun _ H _ => H⟩), (19, ⟨Unit, fun _ _ _ => .bool true, fun _ H _ => H⟩),
  (125, ⟨List T.St, fun _ _ x => .sl 6 (.map T.encSt T.noSt x) .none, fun _ H _ => H⟩), (126, ⟨List T.St, fun _ _ x => .sl 6 (.map T.encSt T.noSt x) .none, fun _ H _ => H⟩), (127, ⟨List (List UInt8), fun _ _ x => .sl 1 (.map T.encL [] x) .none, fun _ H _ => H⟩), (128, ⟨List (List UInt8), fun _ _ x => .sl 1 (.map T.encL [] x) .none, fun _ H _ => H⟩), (129, ⟨List (List UInt8), fun _ _ x => .sl 1 (.map T.encL [] x) .none, fun _ H _ => H⟩),
  (229, ⟨Unit, fun _ _ _ => .tup [], fun _ H _ => H⟩), (229, ⟨List (List UInt8), fun _ _ _ => .tup [], fun a H x => addH a H (.arr 1 (.map T.encL [] x))⟩),
  (230, ⟨Unit, fun _ _ _ => .sl 0 (.raw []) .nil, fun _ H _ => H⟩), (230, ⟨List (List UInt8), fun a _ x => .msl 1 (headId a) 0 x.length, fun a H x => addH a H (.arr 1 (.map T.encL [] x))⟩)]
noncomputable def rets : FuncId → List Ret := lookupR (retL ++ C.retC ++ V.retL)

-- 124
noncomputable def l124 : Nat → List Nat
  | _ => []
noncomputable def u124 : Nat → Bool
  | _ => false
noncomputable def m124 : Nat → Bool
  | _ => false
noncomputable def g124 : Cfg := { N := 8, live := l124, cut := u124, mu := m124, ret := rets }
theorem s124 : ∀ (a b : List T.St) (Post : AV → List AObj → Prop),
  (ASpec Try.prog 227 [AV.sl 6 (Seq.map T.encSt T.noSt a) Tip.none, AV.sl 6 (Seq.map T.encSt T.noSt b) Tip.none] [] fun (r : AV) (H' : List AObj) =>
      ∃ (x : Bool), r = AV.bool x ∧ H' = [] ∧ Post (AV.bool x) []) →
    ASpec Try.prog 124 [AV.sl 6 (Seq.map T.encSt T.noSt a) Tip.none, AV.sl 6 (Seq.map T.encSt T.noSt b) Tip.none] [] Post := fun a b Post h => Go.Ab.ASpec.of_vc g124 Go.Proofs.Try.func124 (by kernel_rfl) (by kernel_rfl) (by kernel_rfl) (Go.Ab.kc (by kernel_rfl) h)

-- 227
noncomputable def l227 : Nat → List Nat
  | 4 => [0, 1, 12, 13]
  | _ => []
noncomputable def u227 : Nat → Bool
  | _ => false
noncomputable def m227 : Nat → Bool
  | _ => false
noncomputable def g227 : Cfg := { N := 26, live := l227, cut := u227, mu := m227, ret := rets }
noncomputable def c227 : Go.Code := Go.Ab.bodyOf Go.Proofs.Try.f227
noncomputable def q227_0 : Nat → (AV → List AObj → Prop) → AQ := fun (n : Nat) (Post : AV → List AObj → Prop) => endQ Try.prog (resultsOf Try.f227) Post
noncomputable def q227_1 : Nat → (AV → List AObj → Prop) → AQ := fun (n : Nat) (Post : AV → List AObj → Prop) => seqQ (fun (s' : Slots) (H' : List AObj) => awp Try.prog g227 n (codeSnd (codeSnd (codeSnd c227))) s' H' (q227_0 n Post)) (q227_0 n Post)
noncomputable def q227_2 : Nat → (AV → List AObj → Prop) → AQ := fun (n : Nat) (Post : AV → List AObj → Prop) => blockQ 0 (q227_1 n Post)
noncomputable def c227_4 : Go.Code := codeFst (codeSnd (codeFst (codeSnd (codeSnd c227))))
theorem s227 : ∀ (a b : List T.St) (Post : AV → List AObj → Prop),
  condP ((↑(List.length a) : Int) != (↑(List.length b) : Int)) (Post (AV.bool false) [])
      (AWP Try.prog 26 0 c227_4
        [(0, AV.sl 6 (Seq.map T.encSt T.noSt a) Tip.none), (1, AV.sl 6 (Seq.map T.encSt T.noSt b) Tip.none), (12, AV.int IntKind.i64 (↑(List.length a) : Int)),
        (13, AV.int IntKind.i64 (0 : Int))]
        [] (q227_2 0 Post)) →
    ASpec Try.prog 227 [AV.sl 6 (Seq.map T.encSt T.noSt a) Tip.none, AV.sl 6 (Seq.map T.encSt T.noSt b) Tip.none] [] Post := fun a b Post h => Go.Ab.ASpec.of_vc g227 Go.Proofs.Try.func227 (by kernel_rfl) (by kernel_rfl) (by kernel_rfl) (Go.Ab.kc (by kernel_rfl) h)
theorem v227_4 : ∀ (a b : List T.St) (n i : Int) (n_1 : Nat) (Post : AV → List AObj → Prop),
  condP (decide (i < n))
      (needP ((0 : Int) ≤ i ∧ i < (↑(List.length a) : Int))
        (needP ((0 : Int) ≤ i ∧ i < (↑(List.length b) : Int))
        (condP
        (!(Prod.fst (List.getD a (Int.toNat i) T.noSt) == Prod.fst (List.getD b (Int.toNat i) T.noSt) &&
        (ByteArray.toList { data := List.toArray (Prod.fst (Prod.snd (List.getD a (Int.toNat i) T.noSt))) } ==
        ByteArray.toList { data := List.toArray (Prod.fst (Prod.snd (List.getD b (Int.toNat i) T.noSt))) } &&
        (Prod.fst (Prod.snd (Prod.snd (List.getD a (Int.toNat i) T.noSt))) == Prod.fst (Prod.snd (Prod.snd (List.getD b (Int.toNat i) T.noSt))) &&
        (ByteArray.toList { data := List.toArray (Prod.fst (Prod.snd (Prod.snd (Prod.snd (List.getD a (Int.toNat i) T.noSt))))) } ==
        ByteArray.toList { data := List.toArray (Prod.fst (Prod.snd (Prod.snd (Prod.snd (List.getD b (Int.toNat i) T.noSt))))) } &&
        (Prod.fst (Prod.snd (Prod.snd (Prod.snd (Prod.snd (List.getD a (Int.toNat i) T.noSt))))) ==
        Prod.fst (Prod.snd (Prod.snd (Prod.snd (Prod.snd (List.getD b (Int.toNat i) T.noSt))))) &&
        (Prod.snd (Prod.snd (Prod.snd (Prod.snd (Prod.snd (List.getD a (Int.toNat i) T.noSt))))) ==
        Prod.snd (Prod.snd (Prod.snd (Prod.snd (Prod.snd (List.getD b (Int.toNat i) T.noSt))))) &&
        true)))))))
        (Post (AV.bool false) [])
        (AWP Try.prog 26 n_1 c227_4
        [(0, AV.sl 6 (Seq.map T.encSt T.noSt a) Tip.none), (1, AV.sl 6 (Seq.map T.encSt T.noSt b) Tip.none), (12, AV.int IntKind.i64 n),
        (13, AV.int IntKind.i64 (IntKind.wrap IntKind.i64 (i + (1 : Int))))]
        [] (q227_2 n_1 Post)))))
      (Post (AV.bool true) []) →
    AWP Try.prog 26 n_1 c227_4
      [(0, AV.sl 6 (Seq.map T.encSt T.noSt a) Tip.none), (1, AV.sl 6 (Seq.map T.encSt T.noSt b) Tip.none), (12, AV.int IntKind.i64 n),
        (13, AV.int IntKind.i64 i)]
      [] (q227_2 n_1 Post) := fun a b n i n Post h => Go.Ab.AWP.loop' g227 (Cfg.live g227) c227_4 (by kernel_rfl) (by kernel_rfl) (Go.Ab.kc (by kernel_rfl) h)

-- 126
noncomputable def l127 : Nat → List Nat
  | 3 => [3, 6, 7, 8]
  | 8 => [3]
  | 9 => [3]
  | _ => []
noncomputable def u127 : Nat → Bool
  | 8 => true
  | 9 => true
  | _ => false
noncomputable def m127 : Nat → Bool
  | 24 => true
  | _ => false
noncomputable def g127 : Cfg := { N := 30, live := l127, cut := u127, mu := m127, ret := rets }
noncomputable def c127 : Go.Code := Go.Ab.bodyOf Go.Proofs.Try.f127
noncomputable def q127_0 : Nat → (AV → List AObj → Prop) → AQ := fun (n : Nat) (Post : AV → List AObj → Prop) => endQ Try.prog (resultsOf Try.f127) Post
noncomputable def c127_8 : Go.Code := codeSnd (codeSnd (codeSnd c127))
noncomputable def q127_1 : Nat → (AV → List AObj → Prop) → AQ := fun (n : Nat) (Post : AV → List AObj → Prop) => seqQ (fun (s' : Slots) (H' : List AObj) => AWP Try.prog (Cfg.N g127) n c127_8 (restrict s' (Cfg.live g127 8)) H' (q127_0 n Post)) (q127_0 n Post)
noncomputable def q127_2 : Nat → (AV → List AObj → Prop) → AQ := fun (n : Nat) (Post : AV → List AObj → Prop) => blockQ 0 (q127_1 n Post)
noncomputable def c127_3 : Go.Code := codeFst (codeSnd (codeFst (codeSnd (codeSnd c127))))
theorem s127 : ∀ (l : List T.St) (Post : AV → List AObj → Prop),
  AWP Try.prog 30 0 c127_3
      [(3, AV.sl 0 (Seq.raw []) Tip.nil), (6, AV.sl 6 (Seq.map T.encSt T.noSt l) Tip.none), (7, AV.int IntKind.i64 (↑(List.length l) : Int)),
        (8, AV.int IntKind.i64 (0 : Int))]
      [] (q127_2 0 Post) →
    ASpec Try.prog 127 [AV.sl 6 (Seq.map T.encSt T.noSt l) Tip.none] [] Post := fun l Post h => Go.Ab.ASpec.of_vc g127 Go.Proofs.Try.func127 (by kernel_rfl) (by kernel_rfl) (by kernel_rfl) (Go.Ab.kc (by kernel_rfl) h)
theorem v127_3n : ∀ (l : List T.St) (n i : Int) (n_1 : Nat) (Post : AV → List AObj → Prop),
  condP (decide (i < n))
      (needP ((0 : Int) ≤ i ∧ i < (↑(List.length l) : Int))
        (condP (Prod.fst (List.getD l (Int.toNat i) T.noSt) == (2 : Int))
        (needP (16 ≤ 140737488351232)
        (needP (1 ≤ 1)
        (AWP Try.prog 30 n_1 c127_3
        [(3, AV.msl 1 1 0 1), (6, AV.sl 6 (Seq.map T.encSt T.noSt l) Tip.none), (7, AV.int IntKind.i64 n),
        (8, AV.int IntKind.i64 (IntKind.wrap IntKind.i64 (i + (1 : Int))))]
        [AObj.cells
        [AV.int IntKind.i64 (Prod.fst (List.getD l (Int.toNat i) T.noSt)), AV.str { data := List.toArray (Prod.fst (Prod.snd (List.getD l (Int.toNat i) T.noSt))) },
        AV.int IntKind.i64 (Prod.fst (Prod.snd (Prod.snd (List.getD l (Int.toNat i) T.noSt)))),
        AV.str { data := List.toArray (Prod.fst (Prod.snd (Prod.snd (Prod.snd (List.getD l (Int.toNat i) T.noSt))))) },
        AV.int IntKind.i64 (Prod.fst (Prod.snd (Prod.snd (Prod.snd (Prod.snd (List.getD l (Int.toNat i) T.noSt)))))),
        AV.int IntKind.i64 (Prod.snd (Prod.snd (Prod.snd (Prod.snd (Prod.snd (List.getD l (Int.toNat i) T.noSt))))))],
        AObj.arr 1 (Seq.raw [[AV.str { data := List.toArray (Prod.fst (Prod.snd (List.getD l (Int.toNat i) T.noSt))) }]])]
        (q127_2 n_1 Post))))
        (condP (Prod.fst (List.getD l (Int.toNat i) T.noSt) == (3 : Int))
        (needP (16 ≤ 140737488351232)
        (needP (1 ≤ 1)
        (AWP Try.prog 30 n_1 c127_3
        [(3, AV.msl 1 1 0 1), (6, AV.sl 6 (Seq.map T.encSt T.noSt l) Tip.none), (7, AV.int IntKind.i64 n),
        (8, AV.int IntKind.i64 (IntKind.wrap IntKind.i64 (i + (1 : Int))))]
        [AObj.cells
        [AV.int IntKind.i64 (Prod.fst (List.getD l (Int.toNat i) T.noSt)), AV.str { data := List.toArray (Prod.fst (Prod.snd (List.getD l (Int.toNat i) T.noSt))) },
        AV.int IntKind.i64 (Prod.fst (Prod.snd (Prod.snd (List.getD l (Int.toNat i) T.noSt)))),
        AV.str { data := List.toArray (Prod.fst (Prod.snd (Prod.snd (Prod.snd (List.getD l (Int.toNat i) T.noSt))))) },
        AV.int IntKind.i64 (Prod.fst (Prod.snd (Prod.snd (Prod.snd (Prod.snd (List.getD l (Int.toNat i) T.noSt)))))),
        AV.int IntKind.i64 (Prod.snd (Prod.snd (Prod.snd (Prod.snd (Prod.snd (List.getD l (Int.toNat i) T.noSt))))))],
        AObj.arr 1 (Seq.raw [[AV.str { data := List.toArray (Prod.fst (Prod.snd (List.getD l (Int.toNat i) T.noSt))) }]])]
        (q127_2 n_1 Post))))
        (AWP Try.prog 30 n_1 c127_3
        [(3, AV.sl 0 (Seq.raw []) Tip.nil), (6, AV.sl 6 (Seq.map T.encSt T.noSt l) Tip.none), (7, AV.int IntKind.i64 n),
        (8, AV.int IntKind.i64 (IntKind.wrap IntKind.i64 (i + (1 : Int))))]
        [AObj.cells
        [AV.int IntKind.i64 (Prod.fst (List.getD l (Int.toNat i) T.noSt)), AV.str { data := List.toArray (Prod.fst (Prod.snd (List.getD l (Int.toNat i) T.noSt))) },
        AV.int IntKind.i64 (Prod.fst (Prod.snd (Prod.snd (List.getD l (Int.toNat i) T.noSt)))),
        AV.str { data := List.toArray (Prod.fst (Prod.snd (Prod.snd (Prod.snd (List.getD l (Int.toNat i) T.noSt))))) },
        AV.int IntKind.i64 (Prod.fst (Prod.snd (Prod.snd (Prod.snd (Prod.snd (List.getD l (Int.toNat i) T.noSt)))))),
        AV.int IntKind.i64 (Prod.snd (Prod.snd (Prod.snd (Prod.snd (Prod.snd (List.getD l (Int.toNat i) T.noSt))))))]]
        (q127_2 n_1 Post)))))
      (AWP Try.prog 30 n_1 c127_8 [(3, AV.sl 0 (Seq.raw []) Tip.nil)] [] (q127_0 n_1 Post)) →
    AWP Try.prog 30 n_1 c127_3
      [(3, AV.sl 0 (Seq.raw []) Tip.nil), (6, AV.sl 6 (Seq.map T.encSt T.noSt l) Tip.none), (7, AV.int IntKind.i64 n), (8, AV.int IntKind.i64 i)] []
      (q127_2 n_1 Post) := fun l n i n Post h => Go.Ab.AWP.loop' g127 (Cfg.live g127) c127_3 (by kernel_rfl) (by kernel_rfl) (Go.Ab.kc (by kernel_rfl) h)
theorem v127_3m : ∀ (l : List T.St) (o : List (List UInt8)) (n i : Int) (n_1 : Nat) (Post : AV → List AObj → Prop),
  condP (decide (i < n))
      (needP ((0 : Int) ≤ i ∧ i < (↑(List.length l) : Int))
        (condP (Prod.fst (List.getD l (Int.toNat i) T.noSt) == (2 : Int))
        (needP (List.length o = List.length o ∧ (List.length o + 1) * 16 ≤ 140737488351232)
        (AWP Try.prog 30 n_1 c127_3
        [(3, AV.msl 1 2 0 (List.length o + 1)), (6, AV.sl 6 (Seq.map T.encSt T.noSt l) Tip.none), (7, AV.int IntKind.i64 n),
        (8, AV.int IntKind.i64 (IntKind.wrap IntKind.i64 (i + (1 : Int))))]
        [AObj.gone,
        AObj.cells
        [AV.int IntKind.i64 (Prod.fst (List.getD l (Int.toNat i) T.noSt)), AV.str { data := List.toArray (Prod.fst (Prod.snd (List.getD l (Int.toNat i) T.noSt))) },
        AV.int IntKind.i64 (Prod.fst (Prod.snd (Prod.snd (List.getD l (Int.toNat i) T.noSt)))),
        AV.str { data := List.toArray (Prod.fst (Prod.snd (Prod.snd (Prod.snd (List.getD l (Int.toNat i) T.noSt))))) },
        AV.int IntKind.i64 (Prod.fst (Prod.snd (Prod.snd (Prod.snd (Prod.snd (List.getD l (Int.toNat i) T.noSt)))))),
        AV.int IntKind.i64 (Prod.snd (Prod.snd (Prod.snd (Prod.snd (Prod.snd (List.getD l (Int.toNat i) T.noSt))))))],
        AObj.arr 1 (Seq.app (Seq.map T.encL [] o) (Seq.raw [[AV.str { data := List.toArray (Prod.fst (Prod.snd (List.getD l (Int.toNat i) T.noSt))) }]]))]
        (q127_2 n_1 Post)))
        (condP (Prod.fst (List.getD l (Int.toNat i) T.noSt) == (3 : Int))
        (needP (List.length o = List.length o ∧ (List.length o + 1) * 16 ≤ 140737488351232)
        (AWP Try.prog 30 n_1 c127_3
        [(3, AV.msl 1 2 0 (List.length o + 1)), (6, AV.sl 6 (Seq.map T.encSt T.noSt l) Tip.none), (7, AV.int IntKind.i64 n),
        (8, AV.int IntKind.i64 (IntKind.wrap IntKind.i64 (i + (1 : Int))))]
        [AObj.gone,
        AObj.cells
        [AV.int IntKind.i64 (Prod.fst (List.getD l (Int.toNat i) T.noSt)), AV.str { data := List.toArray (Prod.fst (Prod.snd (List.getD l (Int.toNat i) T.noSt))) },
        AV.int IntKind.i64 (Prod.fst (Prod.snd (Prod.snd (List.getD l (Int.toNat i) T.noSt)))),
        AV.str { data := List.toArray (Prod.fst (Prod.snd (Prod.snd (Prod.snd (List.getD l (Int.toNat i) T.noSt))))) },
        AV.int IntKind.i64 (Prod.fst (Prod.snd (Prod.snd (Prod.snd (Prod.snd (List.getD l (Int.toNat i) T.noSt)))))),
        AV.int IntKind.i64 (Prod.snd (Prod.snd (Prod.snd (Prod.snd (Prod.snd (List.getD l (Int.toNat i) T.noSt))))))],
        AObj.arr 1 (Seq.app (Seq.map T.encL [] o) (Seq.raw [[AV.str { data := List.toArray (Prod.fst (Prod.snd (List.getD l (Int.toNat i) T.noSt))) }]]))]
        (q127_2 n_1 Post)))
        (AWP Try.prog 30 n_1 c127_3
        [(3, AV.msl 1 0 0 (List.length o)), (6, AV.sl 6 (Seq.map T.encSt T.noSt l) Tip.none), (7, AV.int IntKind.i64 n),
        (8, AV.int IntKind.i64 (IntKind.wrap IntKind.i64 (i + (1 : Int))))]
        [AObj.arr 1 (Seq.map T.encL [] o),
        AObj.cells
        [AV.int IntKind.i64 (Prod.fst (List.getD l (Int.toNat i) T.noSt)), AV.str { data := List.toArray (Prod.fst (Prod.snd (List.getD l (Int.toNat i) T.noSt))) },
        AV.int IntKind.i64 (Prod.fst (Prod.snd (Prod.snd (List.getD l (Int.toNat i) T.noSt)))),
        AV.str { data := List.toArray (Prod.fst (Prod.snd (Prod.snd (Prod.snd (List.getD l (Int.toNat i) T.noSt))))) },
        AV.int IntKind.i64 (Prod.fst (Prod.snd (Prod.snd (Prod.snd (Prod.snd (List.getD l (Int.toNat i) T.noSt)))))),
        AV.int IntKind.i64 (Prod.snd (Prod.snd (Prod.snd (Prod.snd (Prod.snd (List.getD l (Int.toNat i) T.noSt))))))]]
        (q127_2 n_1 Post)))))
      (AWP Try.prog 30 n_1 c127_8 [(3, AV.msl 1 0 0 (List.length o))] [AObj.arr 1 (Seq.map T.encL [] o)] (q127_0 n_1 Post)) →
    AWP Try.prog 30 n_1 c127_3
      [(3, AV.msl 1 0 0 (List.length o)), (6, AV.sl 6 (Seq.map T.encSt T.noSt l) Tip.none), (7, AV.int IntKind.i64 n),
        (8, AV.int IntKind.i64 i)]
      [AObj.arr 1 (Seq.map T.encL [] o)] (q127_2 n_1 Post) := fun l o n i n Post h => Go.Ab.AWP.loop' g127 (Cfg.live g127) c127_3 (by kernel_rfl) (by kernel_rfl) (Go.Ab.kc (by kernel_rfl) h)
noncomputable def c127_9 : Go.Code := codeSnd c127_8
theorem v127_8n : ∀ (n : Nat) (Post : AV → List AObj → Prop),
  (ASpec Try.prog 229 [AV.sl 0 (Seq.raw []) Tip.nil] [] fun (r : AV) (H' : List AObj) =>
      (∃ (x : Unit), r = AV.tup [] ∧ H' = [] ∧ AWP Try.prog 30 n c127_9 [(3, AV.sl 0 (Seq.raw []) Tip.nil)] [] (q127_0 n Post)) ∨
        ∃ (x : List (List UInt8)), r = AV.tup [] ∧ H' = [] ∧ AWP Try.prog 30 n c127_9 [(3, AV.sl 0 (Seq.raw []) Tip.nil)] [] (q127_0 n Post)) →
    AWP Try.prog 30 n c127_8 [(3, AV.sl 0 (Seq.raw []) Tip.nil)] [] (q127_0 n Post) := fun n Post h => Go.Ab.awp_sound g127 n _ _ _ _ (Go.Ab.kc (by kernel_rfl) h)
theorem v127_8m : ∀ (o : List (List UInt8)) (n : Nat) (Post : AV → List AObj → Prop),
  (ASpec Try.prog 229 [AV.msl 1 0 0 (List.length o)] [AObj.arr 1 (Seq.map T.encL [] o)] fun (r : AV) (H' : List AObj) =>
      (∃ (x : Unit),
        r = AV.tup [] ∧
        H' = [AObj.arr 1 (Seq.map T.encL [] o)] ∧
        AWP Try.prog 30 n c127_9 [(3, AV.msl 1 0 0 (List.length o))] [AObj.arr 1 (Seq.map T.encL [] o)] (q127_0 n Post)) ∨
        ∃ (x : List (List UInt8)),
        r = AV.tup [] ∧
        H' = [AObj.arr 1 (Seq.map T.encL [] x)] ∧
        AWP Try.prog 30 n c127_9 [(3, AV.msl 1 0 0 (List.length o))] [AObj.arr 1 (Seq.map T.encL [] x)] (q127_0 n Post)) →
    AWP Try.prog 30 n c127_8 [(3, AV.msl 1 0 0 (List.length o))] [AObj.arr 1 (Seq.map T.encL [] o)] (q127_0 n Post) := fun o n Post h => Go.Ab.awp_sound g127 n _ _ _ _ (Go.Ab.kc (by kernel_rfl) h)
theorem v127_9n : ∀ (n : Nat) (Post : AV → List AObj → Prop),
  (ASpec Try.prog 230 [AV.sl 0 (Seq.raw []) Tip.nil] [] fun (r : AV) (H' : List AObj) =>
      (∃ (x : Unit), r = AV.sl 0 (Seq.raw []) Tip.nil ∧ H' = [] ∧ Post (AV.sl 0 (Seq.raw []) Tip.nil) []) ∨
        ∃ (x : List (List UInt8)), r = AV.msl 1 0 0 (List.length x) ∧ H' = [] ∧ Post (AV.msl 1 0 0 (List.length x)) []) →
    AWP Try.prog 30 n c127_9 [(3, AV.sl 0 (Seq.raw []) Tip.nil)] [] (q127_0 n Post) := fun n Post h => Go.Ab.awp_sound g127 n _ _ _ _ (Go.Ab.kc (by kernel_rfl) h)
theorem v127_9m : ∀ (o : List (List UInt8)) (n : Nat) (Post : AV → List AObj → Prop),
  (ASpec Try.prog 230 [AV.msl 1 0 0 (List.length o)] [AObj.arr 1 (Seq.map T.encL [] o)] fun (r : AV) (H' : List AObj) =>
      (∃ (x : Unit),
        r = AV.sl 0 (Seq.raw []) Tip.nil ∧ H' = [AObj.arr 1 (Seq.map T.encL [] o)] ∧ Post (AV.sl 0 (Seq.raw []) Tip.nil) [AObj.arr 1 (Seq.map T.encL [] o)]) ∨
        ∃ (x : List (List UInt8)),
        r = AV.msl 1 0 0 (List.length x) ∧
        H' = [AObj.arr 1 (Seq.map T.encL [] x)] ∧ Post (AV.msl 1 0 0 (List.length x)) [AObj.arr 1 (Seq.map T.encL [] x)]) →
    AWP Try.prog 30 n c127_9 [(3, AV.msl 1 0 0 (List.length o))] [AObj.arr 1 (Seq.map T.encL [] o)] (q127_0 n Post) := fun o n Post h => Go.Ab.awp_sound g127 n _ _ _ _ (Go.Ab.kc (by kernel_rfl) h)

-- 230
noncomputable def l230 : Nat → List Nat
  | 4 => [0, 3]
  | 9 => [0, 3, 4, 5]
  | 14 => [0, 3]
  | _ => []
noncomputable def u230 : Nat → Bool
  | 14 => true
  | _ => false
noncomputable def m230 : Nat → Bool
  | 28 => true
  | 56 => true
  | 59 => true
  | _ => false
noncomputable def g230 : Cfg := { N := 61, live := l230, cut := u230, mu := m230, ret := rets }
noncomputable def c230 : Go.Code := Go.Ab.bodyOf Go.Proofs.Try.f230
noncomputable def q230_0 : Nat → (AV → List AObj → Prop) → AQ := fun (n : Nat) (Post : AV → List AObj → Prop) => endQ Try.prog (resultsOf Try.f230) Post
theorem s230n : ∀ (Post : AV → List AObj → Prop), Post (AV.sl 0 (Seq.raw []) Tip.nil) [] → ASpec Try.prog 230 [AV.sl 0 (Seq.raw []) Tip.nil] [] Post := fun Post h => Go.Ab.ASpec.of_vc g230 Go.Proofs.Try.func230 (by kernel_rfl) (by kernel_rfl) (by kernel_rfl) (Go.Ab.kc (by kernel_rfl) h)
noncomputable def q230_1 : Nat → (AV → List AObj → Prop) → AQ := fun (n : Nat) (Post : AV → List AObj → Prop) => seqQ (fun (s' : Slots) (H' : List AObj) => awp Try.prog g230 n (codeSnd (codeSnd (codeSnd c230))) s' H' (q230_0 n Post)) (q230_0 n Post)
noncomputable def q230_2 : Nat → (AV → List AObj → Prop) → AQ := fun (n : Nat) (Post : AV → List AObj → Prop) => blockQ 0 (q230_1 n Post)
noncomputable def c230_4 : Go.Code := codeFst (codeSnd (codeFst (codeSnd (codeSnd c230))))
theorem s230m : ∀ (o : List (List UInt8)) (Post : AV → List AObj → Prop),
  condP (decide ((↑(List.length o) : Int) < (2 : Int))) (Post (AV.msl 1 0 0 (List.length o)) [AObj.arr 1 (Seq.map T.encL [] o)])
      (AWP Try.prog 61 1 c230_4 [(0, AV.msl 1 0 0 (List.length o)), (3, AV.int IntKind.i64 (1 : Int))]
        [AObj.arr 1 (Seq.map T.encL [] o)] (q230_2 1 Post)) →
    ASpec Try.prog 230 [AV.msl 1 0 0 (List.length o)] [AObj.arr 1 (Seq.map T.encL [] o)] Post := fun o Post h => Go.Ab.ASpec.of_vc g230 Go.Proofs.Try.func230 (by kernel_rfl) (by kernel_rfl) (by kernel_rfl) (Go.Ab.kc (by kernel_rfl) h)
noncomputable def q230_3 : Nat → (AV → List AObj → Prop) → AQ := fun (n : Nat) (Post : AV → List AObj → Prop) => loopQ Try.prog 61 n c230_4 (q230_2 n Post) (Cfg.live g230)
noncomputable def q230_4 : Nat → (AV → List AObj → Prop) → AQ := fun (n : Nat) (Post : AV → List AObj → Prop) => seqQ (fun (s' : Slots) (H' : List AObj) => awp Try.prog g230 n (codeSnd (codeSnd (codeFst c230_4))) s' H' (q230_3 n Post)) (q230_3 n Post)
noncomputable def q230_5 : Nat → (AV → List AObj → Prop) → AQ := fun (n : Nat) (Post : AV → List AObj → Prop) => blockQ 1 (q230_4 n Post)
noncomputable def c230_14 : Go.Code := codeSnd (codeSnd (codeFst (codeSnd (codeFst (codeFst (codeSnd (codeFst c230_4)))))))
noncomputable def q230_6 : Nat → (AV → List AObj → Prop) → AQ := fun (n : Nat) (Post : AV → List AObj → Prop) => seqQ (fun (s' : Slots) (H' : List AObj) => AWP Try.prog (Cfg.N g230) n c230_14 (restrict s' (Cfg.live g230 14)) H' (q230_5 n Post)) (q230_5 n Post)
noncomputable def q230_7 : Nat → (AV → List AObj → Prop) → AQ := fun (n : Nat) (Post : AV → List AObj → Prop) => blockQ 2 (q230_6 n Post)
noncomputable def c230_9 : Go.Code := codeFst (codeSnd (codeFst (codeSnd (codeFst (codeSnd (codeFst (codeFst (codeSnd (codeFst c230_4)))))))))
theorem v230_4 : ∀ (o : List (List UInt8)) (k : Int) (n : Nat) (Post : AV → List AObj → Prop),
  condP (decide (k < (↑(List.length o) : Int)))
      (needP ((0 : Int) ≤ k ∧ k < (↑(List.length o) : Int))
        (needP (0 + Int.toNat k < List.length o)
        (needP ((0 : Int) ≤ IntKind.wrap IntKind.i64 (k - (1 : Int)) ∧ IntKind.wrap IntKind.i64 (k - (1 : Int)) < (↑(List.length o) : Int))
        (needP (0 + Int.toNat (IntKind.wrap IntKind.i64 (k - (1 : Int))) < List.length o)
        (condP
        (ByteArray.toList { data := List.toArray (List.getD o (0 + Int.toNat k) []) } ==
        ByteArray.toList { data := List.toArray (List.getD o (0 + Int.toNat (IntKind.wrap IntKind.i64 (k - (1 : Int)))) []) })
        (needP ((0 : Int) ≤ k ∧ k ≤ (↑(List.length o) : Int))
        (condP (decide (k < (↑(List.length o) : Int)))
        (AWP Try.prog 61 n c230_9
        [(0, AV.msl 1 0 0 (List.length o)), (3, AV.int IntKind.i64 k),
        (4, AV.msl 1 0 (0 + Int.toNat k) (List.length o - Int.toNat k)), (5, AV.int IntKind.i64 (1 : Int))]
        [AObj.arr 1 (Seq.map T.encL [] o)] (q230_7 n Post))
        (AWP Try.prog 61 n c230_9
        [(0, AV.msl 1 0 0 (List.length o)), (3, AV.int IntKind.i64 k), (4, AV.sl 1 (Seq.raw []) Tip.none),
        (5, AV.int IntKind.i64 (1 : Int))]
        [AObj.arr 1 (Seq.map T.encL [] o)] (q230_7 n Post))))
        (AWP Try.prog 61 n c230_4 [(0, AV.msl 1 0 0 (List.length o)), (3, AV.int IntKind.i64 (IntKind.wrap IntKind.i64 (k + (1 : Int))))]
        [AObj.arr 1 (Seq.map T.encL [] o)] (q230_2 n Post)))))))
      (Post (AV.msl 1 0 0 (List.length o)) [AObj.arr 1 (Seq.map T.encL [] o)]) →
    AWP Try.prog 61 n c230_4 [(0, AV.msl 1 0 0 (List.length o)), (3, AV.int IntKind.i64 k)] [AObj.arr 1 (Seq.map T.encL [] o)] (q230_2 n Post) := fun o k n Post h => Go.Ab.AWP.loop' g230 (Cfg.live g230) c230_4 (by kernel_rfl) (by kernel_rfl) (Go.Ab.kc (by kernel_rfl) h)
theorem v230_9 : ∀ (o : List (List UInt8)) (k : Int) (j n : Nat) (p : Int) (n_1 : Nat) (Post : AV → List AObj → Prop),
  condP (decide (p < (↑n : Int)))
      (needP ((0 : Int) ≤ p ∧ p < (↑n : Int))
        (needP (j + Int.toNat p < List.length o)
        (needP ((0 : Int) ≤ IntKind.wrap IntKind.i64 (p - (1 : Int)) ∧ IntKind.wrap IntKind.i64 (p - (1 : Int)) < (↑n : Int))
        (needP (j + Int.toNat (IntKind.wrap IntKind.i64 (p - (1 : Int))) < List.length o)
        (condP
        (!ByteArray.toList { data := List.toArray (List.getD o (j + Int.toNat p) []) } ==
        ByteArray.toList { data := List.toArray (List.getD o (j + Int.toNat (IntKind.wrap IntKind.i64 (p - (1 : Int)))) []) })
        (needP ((0 : Int) ≤ p ∧ p < (↑n : Int))
        (needP (j + Int.toNat p < List.length o)
        (needP ((0 : Int) ≤ k ∧ k < (↑(List.length o) : Int))
        (needP (0 + Int.toNat k < List.length o)
        (AWP Try.prog 61 n_1 c230_9
        [(0, AV.msl 1 0 0 (List.length o)), (3, AV.int IntKind.i64 (IntKind.wrap IntKind.i64 (k + (1 : Int)))),
        (4, AV.msl 1 0 j n), (5, AV.int IntKind.i64 (IntKind.wrap IntKind.i64 (p + (1 : Int))))]
        [AObj.arr 1 (Seq.raw (List.set (Seq.toList (Seq.map T.encL [] o)) (0 + Int.toNat k) [AV.str { data := List.toArray (List.getD o (j + Int.toNat p) []) }]))]
        (q230_7 n_1 Post))))))
        (AWP Try.prog 61 n_1 c230_9
        [(0, AV.msl 1 0 0 (List.length o)), (3, AV.int IntKind.i64 k), (4, AV.msl 1 0 j n),
        (5, AV.int IntKind.i64 (IntKind.wrap IntKind.i64 (p + (1 : Int))))]
        [AObj.arr 1 (Seq.map T.encL [] o)] (q230_7 n_1 Post)))))))
      (AWP Try.prog 61 n_1 c230_14 [(0, AV.msl 1 0 0 (List.length o)), (3, AV.int IntKind.i64 k)] [AObj.arr 1 (Seq.map T.encL [] o)]
        (q230_5 n_1 Post)) →
    AWP Try.prog 61 n_1 c230_9
      [(0, AV.msl 1 0 0 (List.length o)), (3, AV.int IntKind.i64 k), (4, AV.msl 1 0 j n), (5, AV.int IntKind.i64 p)]
      [AObj.arr 1 (Seq.map T.encL [] o)] (q230_7 n_1 Post) := fun o k j n p n Post h => Go.Ab.AWP.loop' g230 (Cfg.live g230) c230_9 (by kernel_rfl) (by kernel_rfl) (Go.Ab.kc (by kernel_rfl) h)
theorem v230_14 : ∀ (o : List (List UInt8)) (k : Int) (n : Nat) (Post : AV → List AObj → Prop),
  needP ((0 : Int) ≤ k ∧ k ≤ (↑(List.length o) : Int))
      (condP (decide (k < (↑(List.length o) : Int)))
        (needP (0 + Int.toNat k + (List.length o - Int.toNat k) ≤ List.length o)
        (needP
        ((0 : Int) ≤ k ∧
        (0 : Int) + k ≤
        (↑(rowLen
        [AObj.arr 1
        (copied (Seq.map T.encL [] o) (0 + Int.toNat k)
        (Seq.raw (List.replicate (List.length o - Int.toNat k) (List.map ofCell (Array.toList (Value.cells (Value.string { data := #[] })))))))]
        0) :
        Int))
        (Post (AV.msl 1 0 0 (Int.toNat k))
        [AObj.arr 1
        (copied (Seq.map T.encL [] o) (0 + Int.toNat k)
        (Seq.raw (List.replicate (List.length o - Int.toNat k) (List.map ofCell (Array.toList (Value.cells (Value.string { data := #[] })))))))])))
        False) →
    AWP Try.prog 61 n c230_14 [(0, AV.msl 1 0 0 (List.length o)), (3, AV.int IntKind.i64 k)] [AObj.arr 1 (Seq.map T.encL [] o)] (q230_5 n Post) := fun o k n Post h => Go.Ab.awp_sound g230 n _ _ _ _ (Go.Ab.kc (by kernel_rfl) h)

-- 128
noncomputable def l128 : Nat → List Nat
  | 3 => [0, 3, 4]
  | _ => []
noncomputable def u128 : Nat → Bool
  | _ => false
noncomputable def m128 : Nat → Bool
  | _ => false
noncomputable def g128 : Cfg := { N := 33, live := l128, cut := u128, mu := m128, ret := rets }
noncomputable def c128 : Go.Code := Go.Ab.bodyOf Go.Proofs.Try.f128
noncomputable def q128_0 : Nat → (AV → List AObj → Prop) → AQ := fun (n : Nat) (Post : AV → List AObj → Prop) => endQ Try.prog (resultsOf Try.f128) Post
noncomputable def q128_1 : Nat → (AV → List AObj → Prop) → AQ := fun (n : Nat) (Post : AV → List AObj → Prop) => seqQ (fun (s' : Slots) (H' : List AObj) => awp Try.prog g128 n (codeSnd (codeSnd (codeSnd c128))) s' H' (q128_0 n Post)) (q128_0 n Post)
noncomputable def q128_2 : Nat → (AV → List AObj → Prop) → AQ := fun (n : Nat) (Post : AV → List AObj → Prop) => blockQ 0 (q128_1 n Post)
noncomputable def c128_3 : Go.Code := codeFst (codeSnd (codeFst (codeSnd (codeSnd c128))))
theorem s128 : ∀ (l : List T.St) (Post : AV → List AObj → Prop),
  AWP Try.prog 33 0 c128_3
      [(0, AV.sl 6 (Seq.map T.encSt T.noSt l) Tip.none), (3, AV.sl 0 (Seq.raw []) Tip.nil), (4, AV.int IntKind.i64 (0 : Int))] [] (q128_2 0 Post) →
    ASpec Try.prog 128 [AV.sl 6 (Seq.map T.encSt T.noSt l) Tip.none] [] Post := fun l Post h => Go.Ab.ASpec.of_vc g128 Go.Proofs.Try.func128 (by kernel_rfl) (by kernel_rfl) (by kernel_rfl) (Go.Ab.kc (by kernel_rfl) h)
theorem v128_3 : ∀ (l : List T.St) (o : List (List UInt8)) (i : Int) (n : Nat) (Post : AV → List AObj → Prop),
  condP (decide (i < (↑(List.length l) : Int)))
      (needP ((0 : Int) ≤ i ∧ i < (↑(List.length l) : Int))
        (condP (Prod.fst (List.getD l (Int.toNat i) T.noSt) == (2 : Int))
        (needP ((0 : Int) ≤ i ∧ i < (↑(List.length l) : Int))
        (ASpec Try.prog 129 [AV.sl 1 (Seq.map T.encL [] o) Tip.none, AV.str { data := List.toArray (Prod.fst (Prod.snd (List.getD l (Int.toNat i) T.noSt))) }] []
        fun (r : AV) (H' : List AObj) =>
        ∃ (x : List (List UInt8)),
        r = AV.sl 1 (Seq.map T.encL [] x) Tip.none ∧
        H' = [] ∧
        AWP Try.prog 33 n c128_3
        [(0, AV.sl 6 (Seq.map T.encSt T.noSt l) Tip.none), (3, AV.sl 1 (Seq.map T.encL [] x) Tip.none),
        (4, AV.int IntKind.i64 (IntKind.wrap IntKind.i64 (i + (1 : Int))))]
        [] (q128_2 n Post)))
        (needP ((0 : Int) ≤ i ∧ i < (↑(List.length l) : Int))
        (condP (Prod.fst (List.getD l (Int.toNat i) T.noSt) == (3 : Int))
        (needP ((0 : Int) ≤ i ∧ i < (↑(List.length l) : Int))
        (ASpec Try.prog 129 [AV.sl 1 (Seq.map T.encL [] o) Tip.none, AV.str { data := List.toArray (Prod.fst (Prod.snd (List.getD l (Int.toNat i) T.noSt))) }] []
        fun (r : AV) (H' : List AObj) =>
        ∃ (x : List (List UInt8)),
        r = AV.sl 1 (Seq.map T.encL [] x) Tip.none ∧
        H' = [] ∧
        AWP Try.prog 33 n c128_3
        [(0, AV.sl 6 (Seq.map T.encSt T.noSt l) Tip.none), (3, AV.sl 1 (Seq.map T.encL [] x) Tip.none),
        (4, AV.int IntKind.i64 (IntKind.wrap IntKind.i64 (i + (1 : Int))))]
        [] (q128_2 n Post)))
        (AWP Try.prog 33 n c128_3
        [(0, AV.sl 6 (Seq.map T.encSt T.noSt l) Tip.none), (3, AV.sl 1 (Seq.map T.encL [] o) Tip.none),
        (4, AV.int IntKind.i64 (IntKind.wrap IntKind.i64 (i + (1 : Int))))]
        [] (q128_2 n Post))))))
      (Post (AV.sl 1 (Seq.map T.encL [] o) Tip.none) []) →
    AWP Try.prog 33 n c128_3 [(0, AV.sl 6 (Seq.map T.encSt T.noSt l) Tip.none), (3, AV.sl 1 (Seq.map T.encL [] o) Tip.none), (4, AV.int IntKind.i64 i)]
      [] (q128_2 n Post) := fun l o i n Post h => Go.Ab.AWP.loop' g128 (Cfg.live g128) c128_3 (by kernel_rfl) (by kernel_rfl) (Go.Ab.kc (by kernel_rfl) h)

-- 129
noncomputable def l129 : Nat → List Nat
  | 4 => [0, 1, 5, 6, 7]
  | _ => []
noncomputable def u129 : Nat → Bool
  | _ => false
noncomputable def m129 : Nat → Bool
  | _ => false
noncomputable def g129 : Cfg := { N := 48, live := l129, cut := u129, mu := m129, ret := rets }
noncomputable def c129 : Go.Code := Go.Ab.bodyOf Go.Proofs.Try.f129
noncomputable def q129_0 : Nat → (AV → List AObj → Prop) → AQ := fun (n : Nat) (Post : AV → List AObj → Prop) => endQ Try.prog (resultsOf Try.f129) Post
noncomputable def q129_1 : Nat → (AV → List AObj → Prop) → AQ := fun (n : Nat) (Post : AV → List AObj → Prop) => seqQ (fun (s' : Slots) (H' : List AObj) => awp Try.prog g129 n (codeSnd (codeSnd (codeSnd (codeSnd c129)))) s' H' (q129_0 n Post)) (q129_0 n Post)
noncomputable def q129_2 : Nat → (AV → List AObj → Prop) → AQ := fun (n : Nat) (Post : AV → List AObj → Prop) => blockQ 0 (q129_1 n Post)
noncomputable def c129_4 : Go.Code := codeFst (codeSnd (codeFst (codeSnd (codeSnd (codeSnd c129)))))
theorem s129 : ∀ (o : List (List UInt8)) (x : List UInt8) (Post : AV → List AObj → Prop),
  AWP Try.prog 48 0 c129_4
      [(0, AV.sl 1 (Seq.map T.encL [] o) Tip.none), (1, AV.str { data := List.toArray x }), (5, AV.sl 0 (Seq.raw []) Tip.nil), (6, AV.bool false),
        (7, AV.int IntKind.i64 (0 : Int))]
      [] (q129_2 0 Post) →
    ASpec Try.prog 129 [AV.sl 1 (Seq.map T.encL [] o) Tip.none, AV.str { data := List.toArray x }] [] Post := fun o x Post h => Go.Ab.ASpec.of_vc g129 Go.Proofs.Try.func129 (by kernel_rfl) (by kernel_rfl) (by kernel_rfl) (Go.Ab.kc (by kernel_rfl) h)
theorem v129_4 : ∀ (o r : List (List UInt8)) (x : List UInt8) (b : Bool) (i : Int) (n : Nat) (Post : AV → List AObj → Prop),
  condP (decide (i < (↑(List.length o) : Int)))
      (condP (!b)
        (needP ((0 : Int) ≤ i ∧ i < (↑(List.length o) : Int))
        (condP
        (Op.bytesLess (ByteArray.toList { data := List.toArray x }) (ByteArray.toList { data := List.toArray (List.getD o (Int.toNat i) []) }) ||
        ByteArray.toList { data := List.toArray x } == ByteArray.toList { data := List.toArray (List.getD o (Int.toNat i) []) })
        (needP ((List.length r + 1) * 16 ≤ 140737488351232)
        (needP ((0 : Int) ≤ i ∧ i < (↑(List.length o) : Int))
        (condP (ByteArray.toList { data := List.toArray x } == ByteArray.toList { data := List.toArray (List.getD o (Int.toNat i) []) })
        (AWP Try.prog 48 n c129_4
        [(0, AV.sl 1 (Seq.map T.encL [] o) Tip.none), (1, AV.str { data := List.toArray x }),
        (5, AV.sl 1 (Seq.app (Seq.map T.encL [] r) (Seq.raw [[AV.str { data := List.toArray x }]])) (Tip.tok 1)), (6, AV.bool true),
        (7, AV.int IntKind.i64 (IntKind.wrap IntKind.i64 (i + (1 : Int))))]
        [AObj.gone, AObj.tok] (q129_2 n Post))
        (needP ((0 : Int) ≤ i ∧ i < (↑(List.length o) : Int))
        (needP ((List.length r + 1 + 1) * 16 ≤ 140737488351232)
        (AWP Try.prog 48 n c129_4
        [(0, AV.sl 1 (Seq.map T.encL [] o) Tip.none), (1, AV.str { data := List.toArray x }),
        (5,
        AV.sl 1
        (Seq.app (Seq.app (Seq.map T.encL [] r) (Seq.raw [[AV.str { data := List.toArray x }]])) (Seq.raw [[AV.str { data := List.toArray (List.getD o (Int.toNat i) []) }]]))
        (Tip.tok 2)),
        (6, AV.bool true), (7, AV.int IntKind.i64 (IntKind.wrap IntKind.i64 (i + (1 : Int))))]
        [AObj.gone, AObj.gone, AObj.tok] (q129_2 n Post)))))))
        (needP ((0 : Int) ≤ i ∧ i < (↑(List.length o) : Int))
        (needP ((List.length r + 1) * 16 ≤ 140737488351232)
        (AWP Try.prog 48 n c129_4
        [(0, AV.sl 1 (Seq.map T.encL [] o) Tip.none), (1, AV.str { data := List.toArray x }),
        (5, AV.sl 1 (Seq.app (Seq.map T.encL [] r) (Seq.raw [[AV.str { data := List.toArray (List.getD o (Int.toNat i) []) }]])) (Tip.tok 1)),
        (6, AV.bool b), (7, AV.int IntKind.i64 (IntKind.wrap IntKind.i64 (i + (1 : Int))))]
        [AObj.gone, AObj.tok] (q129_2 n Post))))))
        (needP ((0 : Int) ≤ i ∧ i < (↑(List.length o) : Int))
        (needP ((List.length r + 1) * 16 ≤ 140737488351232)
        (AWP Try.prog 48 n c129_4
        [(0, AV.sl 1 (Seq.map T.encL [] o) Tip.none), (1, AV.str { data := List.toArray x }),
        (5, AV.sl 1 (Seq.app (Seq.map T.encL [] r) (Seq.raw [[AV.str { data := List.toArray (List.getD o (Int.toNat i) []) }]])) (Tip.tok 1)), (6, AV.bool b),
        (7, AV.int IntKind.i64 (IntKind.wrap IntKind.i64 (i + (1 : Int))))]
        [AObj.gone, AObj.tok] (q129_2 n Post)))))
      (condP (!b)
        (needP ((List.length r + 1) * 16 ≤ 140737488351232)
        (Post (AV.sl 1 (Seq.app (Seq.map T.encL [] r) (Seq.raw [[AV.str { data := List.toArray x }]])) (Tip.tok 1)) [AObj.gone, AObj.tok]))
        (Post (AV.sl 1 (Seq.map T.encL [] r) (Tip.tok 0)) [AObj.tok])) →
    AWP Try.prog 48 n c129_4
      [(0, AV.sl 1 (Seq.map T.encL [] o) Tip.none), (1, AV.str { data := List.toArray x }), (5, AV.sl 1 (Seq.map T.encL [] r) (Tip.tok 0)),
        (6, AV.bool b), (7, AV.int IntKind.i64 i)]
      [AObj.tok] (q129_2 n Post) := fun o r x b i n Post h => Go.Ab.AWP.loop' g129 (Cfg.live g129) c129_4 (by kernel_rfl) (by kernel_rfl) (Go.Ab.kc (by kernel_rfl) h)

-- 16
noncomputable def l16 : Nat → List Nat
  | 9 => [0, 3, 4, 5, 6]
  | 13 => [0, 3]
  | _ => []
noncomputable def u16 : Nat → Bool
  | 13 => true
  | _ => false
noncomputable def m16 : Nat → Bool
  | _ => false
noncomputable def g16 : Cfg := { N := 97, live := l16, cut := u16, mu := m16, ret := rets }
noncomputable def c16 : Go.Code := Go.Ab.bodyOf Go.Proofs.Try.f16
noncomputable def q16_0 : Nat → (AV → List AObj → Prop) → AQ := fun (n : Nat) (Post : AV → List AObj → Prop) => endQ Try.prog (resultsOf Try.f16) Post
noncomputable def c16_13 : Go.Code := codeSnd (codeSnd (codeSnd (codeSnd (codeSnd (codeSnd (codeSnd c16))))))
noncomputable def q16_1 : Nat → (AV → List AObj → Prop) → AQ := fun (n : Nat) (Post : AV → List AObj → Prop) => seqQ (fun (s' : Slots) (H' : List AObj) => AWP Try.prog (Cfg.N g16) n c16_13 (restrict s' (Cfg.live g16 13)) H' (q16_0 n Post)) (q16_0 n Post)
noncomputable def q16_2 : Nat → (AV → List AObj → Prop) → AQ := fun (n : Nat) (Post : AV → List AObj → Prop) => blockQ 0 (q16_1 n Post)
noncomputable def c16_9 : Go.Code := codeFst (codeSnd (codeFst (codeSnd (codeSnd (codeSnd (codeSnd (codeSnd (codeSnd c16))))))))
theorem s16 : ∀ (l : List T.St) (Post : AV → List AObj → Prop),
  (ASpec Try.prog 18 [AV.sl 6 (Seq.map T.encSt T.noSt l) Tip.none] [] fun (r : AV) (H' : List AObj) =>
      ∃ (x : Bool),
        r = AV.bool x ∧
        H' = [] ∧
        condP x (ASpec Try.prog 19 [] [] fun (r : AV) (H' : List AObj) => ∃ (x : Unit), r = AV.bool true ∧ H' = [] ∧ Post (AV.bool true) [])
        (ASpec Try.prog 123 [AV.sl 6 (Seq.map T.encSt T.noSt l) Tip.none] [] fun (r : AV) (H' : List AObj) =>
        ∃ (x : Bool),
        r = AV.bool x ∧
        H' = [] ∧
        condP (!x) (ASpec Try.prog 19 [] [] fun (r : AV) (H' : List AObj) => ∃ (x : Unit), r = AV.bool true ∧ H' = [] ∧ Post (AV.bool true) [])
        (ASpec Try.prog 125 [AV.sl 6 (Seq.map T.encSt T.noSt l) Tip.none] [] fun (r : AV) (H' : List AObj) =>
        ∃ (x : List T.St),
        r = AV.sl 6 (Seq.map T.encSt T.noSt x) Tip.none ∧
        H' = [] ∧
        ASpec Try.prog 123 [AV.sl 6 (Seq.map T.encSt T.noSt x) Tip.none] [] fun (r : AV) (H' : List AObj) =>
        ∃ (x_1 : Bool),
        r = AV.bool x_1 ∧
        H' = [] ∧
        condP (!x_1) (Post (AV.bool false) [])
        (ASpec Try.prog 125 [AV.sl 6 (Seq.map T.encSt T.noSt x) Tip.none] [] fun (r : AV) (H' : List AObj) =>
        ∃ (x_2 : List T.St),
        r = AV.sl 6 (Seq.map T.encSt T.noSt x_2) Tip.none ∧
        H' = [] ∧
        ASpec Try.prog 124 [AV.sl 6 (Seq.map T.encSt T.noSt x_2) Tip.none, AV.sl 6 (Seq.map T.encSt T.noSt x) Tip.none] []
        fun (r : AV) (H' : List AObj) =>
        ∃ (x_3 : Bool),
        r = AV.bool x_3 ∧
        H' = [] ∧
        condP (!x_3) (Post (AV.bool false) [])
        (condP (decide ((↑(List.length x) : Int) > (↑(List.length l) : Int))) (Post (AV.bool false) [])
        (ASpec Try.prog 127 [AV.sl 6 (Seq.map T.encSt T.noSt l) Tip.none] [] fun (r : AV) (H' : List AObj) =>
        ∃ (x_4 : List (List UInt8)),
        r = AV.sl 1 (Seq.map T.encL [] x_4) Tip.none ∧
        H' = [] ∧
        ASpec Try.prog 127 [AV.sl 6 (Seq.map T.encSt T.noSt x) Tip.none] [] fun (r : AV) (H' : List AObj) =>
        ∃ (x_5 : List (List UInt8)),
        r = AV.sl 1 (Seq.map T.encL [] x_5) Tip.none ∧
        H' = [] ∧
        AWP Try.prog 97 0 c16_9
        [(0, AV.sl 6 (Seq.map T.encSt T.noSt l) Tip.none),
        (3, AV.sl 6 (Seq.map T.encSt T.noSt x) Tip.none),
        (4, AV.sl 1 (Seq.map T.encL [] x_4) Tip.none),
        (5, AV.sl 1 (Seq.map T.encL [] x_5) Tip.none), (6, AV.int IntKind.i64 (0 : Int))]
        [] (q16_2 0 Post))))))) →
    ASpec Try.prog 16 [AV.sl 6 (Seq.map T.encSt T.noSt l) Tip.none] [] Post := fun l Post h => Go.Ab.ASpec.of_vc g16 Go.Proofs.Try.func16 (by kernel_rfl) (by kernel_rfl) (by kernel_rfl) (Go.Ab.kc (by kernel_rfl) h)
theorem v16_9 : ∀ (l t : List T.St) (a o : List (List UInt8)) (i : Int) (n : Nat) (Post : AV → List AObj → Prop),
  condP (decide (i < (↑(List.length o) : Int)))
      (needP ((0 : Int) ≤ i ∧ i < (↑(List.length o) : Int))
        (ASpec Try.prog 129 [AV.sl 1 (Seq.map T.encL [] a) Tip.none, AV.str { data := List.toArray (List.getD o (Int.toNat i) []) }] [] fun (r : AV) (H' : List AObj) =>
        ∃ (x : List (List UInt8)),
        r = AV.sl 1 (Seq.map T.encL [] x) Tip.none ∧
        H' = [] ∧
        condP ((↑(List.length x) : Int) != (↑(List.length a) : Int)) (Post (AV.bool false) [])
        (AWP Try.prog 97 n c16_9
        [(0, AV.sl 6 (Seq.map T.encSt T.noSt l) Tip.none), (3, AV.sl 6 (Seq.map T.encSt T.noSt t) Tip.none),
        (4, AV.sl 1 (Seq.map T.encL [] a) Tip.none), (5, AV.sl 1 (Seq.map T.encL [] o) Tip.none),
        (6, AV.int IntKind.i64 (IntKind.wrap IntKind.i64 (i + (1 : Int))))]
        [] (q16_2 n Post))))
      (AWP Try.prog 97 n c16_13 [(0, AV.sl 6 (Seq.map T.encSt T.noSt l) Tip.none), (3, AV.sl 6 (Seq.map T.encSt T.noSt t) Tip.none)] [] (q16_0 n Post)) →
    AWP Try.prog 97 n c16_9
      [(0, AV.sl 6 (Seq.map T.encSt T.noSt l) Tip.none), (3, AV.sl 6 (Seq.map T.encSt T.noSt t) Tip.none), (4, AV.sl 1 (Seq.map T.encL [] a) Tip.none),
        (5, AV.sl 1 (Seq.map T.encL [] o) Tip.none), (6, AV.int IntKind.i64 i)]
      [] (q16_2 n Post) := fun l t a o i n Post h => Go.Ab.AWP.loop' g16 (Cfg.live g16) c16_9 (by kernel_rfl) (by kernel_rfl) (Go.Ab.kc (by kernel_rfl) h)
theorem v16_13 : ∀ (l t : List T.St) (n : Nat) (Post : AV → List AObj → Prop),
  needP ((0 : Int) ≤ IntKind.wrap IntKind.i64 ((↑(List.length t) : Int) - (1 : Int)) ∧ IntKind.wrap IntKind.i64 ((↑(List.length t) : Int) - (1 : Int)) < (↑(List.length t) : Int))
      (needP ((0 : Int) ≤ IntKind.wrap IntKind.i64 ((↑(List.length l) : Int) - (1 : Int)) ∧ IntKind.wrap IntKind.i64 ((↑(List.length l) : Int) - (1 : Int)) < (↑(List.length l) : Int))
        ((AV.agg
        [AV.int IntKind.i64 (Prod.fst (List.getD l (Int.toNat (IntKind.wrap IntKind.i64 ((↑(List.length l) : Int) - (1 : Int)))) T.noSt)),
        AV.str { data := List.toArray (Prod.fst (Prod.snd (List.getD l (Int.toNat (IntKind.wrap IntKind.i64 ((↑(List.length l) : Int) - (1 : Int)))) T.noSt))) },
        AV.int IntKind.i64 (Prod.fst (Prod.snd (Prod.snd (List.getD l (Int.toNat (IntKind.wrap IntKind.i64 ((↑(List.length l) : Int) - (1 : Int)))) T.noSt)))),
        AV.str { data := List.toArray (Prod.fst (Prod.snd (Prod.snd (Prod.snd (List.getD l (Int.toNat (IntKind.wrap IntKind.i64 ((↑(List.length l) : Int) - (1 : Int)))) T.noSt))))) },
        AV.int IntKind.i64 (Prod.fst (Prod.snd (Prod.snd (Prod.snd (Prod.snd (List.getD l (Int.toNat (IntKind.wrap IntKind.i64 ((↑(List.length l) : Int) - (1 : Int)))) T.noSt)))))),
        AV.int IntKind.i64 (Prod.snd (Prod.snd (Prod.snd (Prod.snd (Prod.snd (List.getD l (Int.toNat (IntKind.wrap IntKind.i64 ((↑(List.length l) : Int) - (1 : Int)))) T.noSt))))))] =
        AV.agg
        [AV.int IntKind.i64 (Prod.fst (List.getD l (Int.toNat (IntKind.wrap IntKind.i64 ((↑(List.length l) : Int) - (1 : Int)))) T.noSt)),
        AV.str { data := List.toArray (Prod.fst (Prod.snd (List.getD l (Int.toNat (IntKind.wrap IntKind.i64 ((↑(List.length l) : Int) - (1 : Int)))) T.noSt))) },
        AV.int IntKind.i64 (Prod.fst (Prod.snd (Prod.snd (List.getD l (Int.toNat (IntKind.wrap IntKind.i64 ((↑(List.length l) : Int) - (1 : Int)))) T.noSt)))),
        AV.str { data := List.toArray (Prod.fst (Prod.snd (Prod.snd (Prod.snd (List.getD l (Int.toNat (IntKind.wrap IntKind.i64 ((↑(List.length l) : Int) - (1 : Int)))) T.noSt))))) },
        AV.int IntKind.i64 (Prod.fst (Prod.snd (Prod.snd (Prod.snd (Prod.snd (List.getD l (Int.toNat (IntKind.wrap IntKind.i64 ((↑(List.length l) : Int) - (1 : Int)))) T.noSt)))))),
        AV.int IntKind.i64 (Prod.snd (Prod.snd (Prod.snd (Prod.snd (Prod.snd (List.getD l (Int.toNat (IntKind.wrap IntKind.i64 ((↑(List.length l) : Int) - (1 : Int)))) T.noSt))))))] ∧
        [AObj.cells [AV.int IntKind.i64 (0 : Int), AV.str { data := #[] }, AV.int IntKind.i64 (0 : Int), AV.str { data := #[] }, AV.int IntKind.i64 (0 : Int), AV.int IntKind.i64 (0 : Int)]] =
        [AObj.cells [AV.int IntKind.i64 (0 : Int), AV.str { data := #[] }, AV.int IntKind.i64 (0 : Int), AV.str { data := #[] }, AV.int IntKind.i64 (0 : Int), AV.int IntKind.i64 (0 : Int)]]) ∧
        (AV.int IntKind.i64 (↑(List.length l) : Int) = AV.int IntKind.i64 (↑(List.length l) : Int) ∧
        [AObj.cells [AV.int IntKind.i64 (0 : Int), AV.str { data := #[] }, AV.int IntKind.i64 (0 : Int), AV.str { data := #[] }, AV.int IntKind.i64 (0 : Int), AV.int IntKind.i64 (0 : Int)]] =
        [AObj.cells [AV.int IntKind.i64 (0 : Int), AV.str { data := #[] }, AV.int IntKind.i64 (0 : Int), AV.str { data := #[] }, AV.int IntKind.i64 (0 : Int), AV.int IntKind.i64 (0 : Int)]]) ∧
        (AV.agg
        [AV.int IntKind.i64 (Prod.fst (List.getD t (Int.toNat (IntKind.wrap IntKind.i64 ((↑(List.length t) : Int) - (1 : Int)))) T.noSt)),
        AV.str { data := List.toArray (Prod.fst (Prod.snd (List.getD t (Int.toNat (IntKind.wrap IntKind.i64 ((↑(List.length t) : Int) - (1 : Int)))) T.noSt))) },
        AV.int IntKind.i64 (Prod.fst (Prod.snd (Prod.snd (List.getD t (Int.toNat (IntKind.wrap IntKind.i64 ((↑(List.length t) : Int) - (1 : Int)))) T.noSt)))),
        AV.str { data := List.toArray (Prod.fst (Prod.snd (Prod.snd (Prod.snd (List.getD t (Int.toNat (IntKind.wrap IntKind.i64 ((↑(List.length t) : Int) - (1 : Int)))) T.noSt))))) },
        AV.int IntKind.i64 (Prod.fst (Prod.snd (Prod.snd (Prod.snd (Prod.snd (List.getD t (Int.toNat (IntKind.wrap IntKind.i64 ((↑(List.length t) : Int) - (1 : Int)))) T.noSt)))))),
        AV.int IntKind.i64 (Prod.snd (Prod.snd (Prod.snd (Prod.snd (Prod.snd (List.getD t (Int.toNat (IntKind.wrap IntKind.i64 ((↑(List.length t) : Int) - (1 : Int)))) T.noSt))))))] =
        AV.agg
        [AV.int IntKind.i64 (Prod.fst (List.getD t (Int.toNat (IntKind.wrap IntKind.i64 ((↑(List.length t) : Int) - (1 : Int)))) T.noSt)),
        AV.str { data := List.toArray (Prod.fst (Prod.snd (List.getD t (Int.toNat (IntKind.wrap IntKind.i64 ((↑(List.length t) : Int) - (1 : Int)))) T.noSt))) },
        AV.int IntKind.i64 (Prod.fst (Prod.snd (Prod.snd (List.getD t (Int.toNat (IntKind.wrap IntKind.i64 ((↑(List.length t) : Int) - (1 : Int)))) T.noSt)))),
        AV.str { data := List.toArray (Prod.fst (Prod.snd (Prod.snd (Prod.snd (List.getD t (Int.toNat (IntKind.wrap IntKind.i64 ((↑(List.length t) : Int) - (1 : Int)))) T.noSt))))) },
        AV.int IntKind.i64 (Prod.fst (Prod.snd (Prod.snd (Prod.snd (Prod.snd (List.getD t (Int.toNat (IntKind.wrap IntKind.i64 ((↑(List.length t) : Int) - (1 : Int)))) T.noSt)))))),
        AV.int IntKind.i64 (Prod.snd (Prod.snd (Prod.snd (Prod.snd (Prod.snd (List.getD t (Int.toNat (IntKind.wrap IntKind.i64 ((↑(List.length t) : Int) - (1 : Int)))) T.noSt))))))] ∧
        [AObj.cells [AV.int IntKind.i64 (0 : Int), AV.str { data := #[] }, AV.int IntKind.i64 (0 : Int), AV.str { data := #[] }, AV.int IntKind.i64 (0 : Int), AV.int IntKind.i64 (0 : Int)]] =
        [AObj.cells
        [AV.int IntKind.i64 (0 : Int), AV.str { data := #[] }, AV.int IntKind.i64 (0 : Int), AV.str { data := #[] }, AV.int IntKind.i64 (0 : Int), AV.int IntKind.i64 (0 : Int)]]) ∧
        (AV.int IntKind.i64 (↑(List.length t) : Int) = AV.int IntKind.i64 (↑(List.length t) : Int) ∧
        [AObj.cells
        [AV.int IntKind.i64 (0 : Int), AV.str { data := #[] }, AV.int IntKind.i64 (0 : Int), AV.str { data := #[] }, AV.int IntKind.i64 (0 : Int), AV.int IntKind.i64 (0 : Int)]] =
        [AObj.cells
        [AV.int IntKind.i64 (0 : Int), AV.str { data := #[] }, AV.int IntKind.i64 (0 : Int), AV.str { data := #[] }, AV.int IntKind.i64 (0 : Int), AV.int IntKind.i64 (0 : Int)]]) ∧
        (AV.agg
        [AV.int IntKind.i64 (Prod.fst (List.getD l (Int.toNat (IntKind.wrap IntKind.i64 ((↑(List.length l) : Int) - (1 : Int)))) T.noSt)),
        AV.str { data := List.toArray (Prod.fst (Prod.snd (List.getD l (Int.toNat (IntKind.wrap IntKind.i64 ((↑(List.length l) : Int) - (1 : Int)))) T.noSt))) },
        AV.int IntKind.i64 (Prod.fst (Prod.snd (Prod.snd (List.getD l (Int.toNat (IntKind.wrap IntKind.i64 ((↑(List.length l) : Int) - (1 : Int)))) T.noSt)))),
        AV.str
        { data := List.toArray (Prod.fst (Prod.snd (Prod.snd (Prod.snd (List.getD l (Int.toNat (IntKind.wrap IntKind.i64 ((↑(List.length l) : Int) - (1 : Int)))) T.noSt))))) },
        AV.int IntKind.i64 (Prod.fst (Prod.snd (Prod.snd (Prod.snd (Prod.snd (List.getD l (Int.toNat (IntKind.wrap IntKind.i64 ((↑(List.length l) : Int) - (1 : Int)))) T.noSt)))))),
        AV.int IntKind.i64
        (Prod.snd (Prod.snd (Prod.snd (Prod.snd (Prod.snd (List.getD l (Int.toNat (IntKind.wrap IntKind.i64 ((↑(List.length l) : Int) - (1 : Int)))) T.noSt))))))] =
        AV.agg
        [AV.int IntKind.i64 (Prod.fst (List.getD l (Int.toNat (IntKind.wrap IntKind.i64 ((↑(List.length l) : Int) - (1 : Int)))) T.noSt)),
        AV.str { data := List.toArray (Prod.fst (Prod.snd (List.getD l (Int.toNat (IntKind.wrap IntKind.i64 ((↑(List.length l) : Int) - (1 : Int)))) T.noSt))) },
        AV.int IntKind.i64 (Prod.fst (Prod.snd (Prod.snd (List.getD l (Int.toNat (IntKind.wrap IntKind.i64 ((↑(List.length l) : Int) - (1 : Int)))) T.noSt)))),
        AV.str
        { data := List.toArray (Prod.fst (Prod.snd (Prod.snd (Prod.snd (List.getD l (Int.toNat (IntKind.wrap IntKind.i64 ((↑(List.length l) : Int) - (1 : Int)))) T.noSt))))) },
        AV.int IntKind.i64 (Prod.fst (Prod.snd (Prod.snd (Prod.snd (Prod.snd (List.getD l (Int.toNat (IntKind.wrap IntKind.i64 ((↑(List.length l) : Int) - (1 : Int)))) T.noSt)))))),
        AV.int IntKind.i64
        (Prod.snd (Prod.snd (Prod.snd (Prod.snd (Prod.snd (List.getD l (Int.toNat (IntKind.wrap IntKind.i64 ((↑(List.length l) : Int) - (1 : Int)))) T.noSt))))))] ∧
        [AObj.cells
        [AV.int IntKind.i64 (0 : Int), AV.str { data := #[] }, AV.int IntKind.i64 (0 : Int), AV.str { data := #[] }, AV.int IntKind.i64 (0 : Int), AV.int IntKind.i64 (0 : Int)],
        AObj.cells
        [AV.int IntKind.i64 (0 : Int), AV.str { data := #[] }, AV.int IntKind.i64 (0 : Int), AV.str { data := #[] }, AV.int IntKind.i64 (0 : Int), AV.int IntKind.i64 (0 : Int)]] =
        [AObj.cells
        [AV.int IntKind.i64 (0 : Int), AV.str { data := #[] }, AV.int IntKind.i64 (0 : Int), AV.str { data := #[] }, AV.int IntKind.i64 (0 : Int), AV.int IntKind.i64 (0 : Int)],
        AObj.cells
        [AV.int IntKind.i64 (0 : Int), AV.str { data := #[] }, AV.int IntKind.i64 (0 : Int), AV.str { data := #[] }, AV.int IntKind.i64 (0 : Int), AV.int IntKind.i64 (0 : Int)]]) ∧
        (AV.int IntKind.i64 (↑(List.length l) : Int) = AV.int IntKind.i64 (↑(List.length l) : Int) ∧
        [AObj.cells
        [AV.int IntKind.i64 (0 : Int), AV.str { data := #[] }, AV.int IntKind.i64 (0 : Int), AV.str { data := #[] }, AV.int IntKind.i64 (0 : Int), AV.int IntKind.i64 (0 : Int)],
        AObj.cells
        [AV.int IntKind.i64 (0 : Int), AV.str { data := #[] }, AV.int IntKind.i64 (0 : Int), AV.str { data := #[] }, AV.int IntKind.i64 (0 : Int), AV.int IntKind.i64 (0 : Int)]] =
        [AObj.cells
        [AV.int IntKind.i64 (0 : Int), AV.str { data := #[] }, AV.int IntKind.i64 (0 : Int), AV.str { data := #[] }, AV.int IntKind.i64 (0 : Int), AV.int IntKind.i64 (0 : Int)],
        AObj.cells
        [AV.int IntKind.i64 (0 : Int), AV.str { data := #[] }, AV.int IntKind.i64 (0 : Int), AV.str { data := #[] }, AV.int IntKind.i64 (0 : Int), AV.int IntKind.i64 (0 : Int)]]) ∧
        (AV.agg
        [AV.int IntKind.i64 (Prod.fst (List.getD t (Int.toNat (IntKind.wrap IntKind.i64 ((↑(List.length t) : Int) - (1 : Int)))) T.noSt)),
        AV.str { data := List.toArray (Prod.fst (Prod.snd (List.getD t (Int.toNat (IntKind.wrap IntKind.i64 ((↑(List.length t) : Int) - (1 : Int)))) T.noSt))) },
        AV.int IntKind.i64 (Prod.fst (Prod.snd (Prod.snd (List.getD t (Int.toNat (IntKind.wrap IntKind.i64 ((↑(List.length t) : Int) - (1 : Int)))) T.noSt)))),
        AV.str
        { data := List.toArray (Prod.fst (Prod.snd (Prod.snd (Prod.snd (List.getD t (Int.toNat (IntKind.wrap IntKind.i64 ((↑(List.length t) : Int) - (1 : Int)))) T.noSt))))) },
        AV.int IntKind.i64
        (Prod.fst (Prod.snd (Prod.snd (Prod.snd (Prod.snd (List.getD t (Int.toNat (IntKind.wrap IntKind.i64 ((↑(List.length t) : Int) - (1 : Int)))) T.noSt)))))),
        AV.int IntKind.i64
        (Prod.snd (Prod.snd (Prod.snd (Prod.snd (Prod.snd (List.getD t (Int.toNat (IntKind.wrap IntKind.i64 ((↑(List.length t) : Int) - (1 : Int)))) T.noSt))))))] =
        AV.agg
        [AV.int IntKind.i64 (Prod.fst (List.getD t (Int.toNat (IntKind.wrap IntKind.i64 ((↑(List.length t) : Int) - (1 : Int)))) T.noSt)),
        AV.str { data := List.toArray (Prod.fst (Prod.snd (List.getD t (Int.toNat (IntKind.wrap IntKind.i64 ((↑(List.length t) : Int) - (1 : Int)))) T.noSt))) },
        AV.int IntKind.i64 (Prod.fst (Prod.snd (Prod.snd (List.getD t (Int.toNat (IntKind.wrap IntKind.i64 ((↑(List.length t) : Int) - (1 : Int)))) T.noSt)))),
        AV.str
        { data := List.toArray (Prod.fst (Prod.snd (Prod.snd (Prod.snd (List.getD t (Int.toNat (IntKind.wrap IntKind.i64 ((↑(List.length t) : Int) - (1 : Int)))) T.noSt))))) },
        AV.int IntKind.i64
        (Prod.fst (Prod.snd (Prod.snd (Prod.snd (Prod.snd (List.getD t (Int.toNat (IntKind.wrap IntKind.i64 ((↑(List.length t) : Int) - (1 : Int)))) T.noSt)))))),
        AV.int IntKind.i64
        (Prod.snd (Prod.snd (Prod.snd (Prod.snd (Prod.snd (List.getD t (Int.toNat (IntKind.wrap IntKind.i64 ((↑(List.length t) : Int) - (1 : Int)))) T.noSt))))))] ∧
        [AObj.cells
        [AV.int IntKind.i64 (0 : Int), AV.str { data := #[] }, AV.int IntKind.i64 (0 : Int), AV.str { data := #[] }, AV.int IntKind.i64 (0 : Int), AV.int IntKind.i64 (0 : Int)],
        AObj.cells
        [AV.int IntKind.i64 (0 : Int), AV.str { data := #[] }, AV.int IntKind.i64 (0 : Int), AV.str { data := #[] }, AV.int IntKind.i64 (0 : Int),
        AV.int IntKind.i64 (0 : Int)]] =
        [AObj.cells
        [AV.int IntKind.i64 (0 : Int), AV.str { data := #[] }, AV.int IntKind.i64 (0 : Int), AV.str { data := #[] }, AV.int IntKind.i64 (0 : Int), AV.int IntKind.i64 (0 : Int)],
        AObj.cells
        [AV.int IntKind.i64 (0 : Int), AV.str { data := #[] }, AV.int IntKind.i64 (0 : Int), AV.str { data := #[] }, AV.int IntKind.i64 (0 : Int),
        AV.int IntKind.i64 (0 : Int)]]) ∧
        (AV.int IntKind.i64 (↑(List.length t) : Int) = AV.int IntKind.i64 (↑(List.length t) : Int) ∧
        [AObj.cells
        [AV.int IntKind.i64 (0 : Int), AV.str { data := #[] }, AV.int IntKind.i64 (0 : Int), AV.str { data := #[] }, AV.int IntKind.i64 (0 : Int),
        AV.int IntKind.i64 (0 : Int)],
        AObj.cells
        [AV.int IntKind.i64 (0 : Int), AV.str { data := #[] }, AV.int IntKind.i64 (0 : Int), AV.str { data := #[] }, AV.int IntKind.i64 (0 : Int),
        AV.int IntKind.i64 (0 : Int)]] =
        [AObj.cells
        [AV.int IntKind.i64 (0 : Int), AV.str { data := #[] }, AV.int IntKind.i64 (0 : Int), AV.str { data := #[] }, AV.int IntKind.i64 (0 : Int),
        AV.int IntKind.i64 (0 : Int)],
        AObj.cells
        [AV.int IntKind.i64 (0 : Int), AV.str { data := #[] }, AV.int IntKind.i64 (0 : Int), AV.str { data := #[] }, AV.int IntKind.i64 (0 : Int),
        AV.int IntKind.i64 (0 : Int)]]) ∧
        (AV.agg
        [AV.int IntKind.i64 (Prod.fst (List.getD l (Int.toNat (IntKind.wrap IntKind.i64 ((↑(List.length l) : Int) - (1 : Int)))) T.noSt)),
        AV.str { data := List.toArray (Prod.fst (Prod.snd (List.getD l (Int.toNat (IntKind.wrap IntKind.i64 ((↑(List.length l) : Int) - (1 : Int)))) T.noSt))) },
        AV.int IntKind.i64 (Prod.fst (Prod.snd (Prod.snd (List.getD l (Int.toNat (IntKind.wrap IntKind.i64 ((↑(List.length l) : Int) - (1 : Int)))) T.noSt)))),
        AV.str
        {
        data :=
        List.toArray (Prod.fst (Prod.snd (Prod.snd (Prod.snd (List.getD l (Int.toNat (IntKind.wrap IntKind.i64 ((↑(List.length l) : Int) - (1 : Int)))) T.noSt))))) },
        AV.int IntKind.i64
        (Prod.fst (Prod.snd (Prod.snd (Prod.snd (Prod.snd (List.getD l (Int.toNat (IntKind.wrap IntKind.i64 ((↑(List.length l) : Int) - (1 : Int)))) T.noSt)))))),
        AV.int IntKind.i64
        (Prod.snd (Prod.snd (Prod.snd (Prod.snd (Prod.snd (List.getD l (Int.toNat (IntKind.wrap IntKind.i64 ((↑(List.length l) : Int) - (1 : Int)))) T.noSt))))))] =
        AV.agg
        [AV.int IntKind.i64 (Prod.fst (List.getD l (Int.toNat (IntKind.wrap IntKind.i64 ((↑(List.length l) : Int) - (1 : Int)))) T.noSt)),
        AV.str { data := List.toArray (Prod.fst (Prod.snd (List.getD l (Int.toNat (IntKind.wrap IntKind.i64 ((↑(List.length l) : Int) - (1 : Int)))) T.noSt))) },
        AV.int IntKind.i64 (Prod.fst (Prod.snd (Prod.snd (List.getD l (Int.toNat (IntKind.wrap IntKind.i64 ((↑(List.length l) : Int) - (1 : Int)))) T.noSt)))),
        AV.str
        {
        data :=
        List.toArray (Prod.fst (Prod.snd (Prod.snd (Prod.snd (List.getD l (Int.toNat (IntKind.wrap IntKind.i64 ((↑(List.length l) : Int) - (1 : Int)))) T.noSt))))) },
        AV.int IntKind.i64
        (Prod.fst (Prod.snd (Prod.snd (Prod.snd (Prod.snd (List.getD l (Int.toNat (IntKind.wrap IntKind.i64 ((↑(List.length l) : Int) - (1 : Int)))) T.noSt)))))),
        AV.int IntKind.i64
        (Prod.snd (Prod.snd (Prod.snd (Prod.snd (Prod.snd (List.getD l (Int.toNat (IntKind.wrap IntKind.i64 ((↑(List.length l) : Int) - (1 : Int)))) T.noSt))))))] ∧
        [AObj.cells
        [AV.int IntKind.i64 (Prod.fst (List.getD t (Int.toNat (IntKind.wrap IntKind.i64 ((↑(List.length t) : Int) - (1 : Int)))) T.noSt)),
        AV.str { data := List.toArray (Prod.fst (Prod.snd (List.getD t (Int.toNat (IntKind.wrap IntKind.i64 ((↑(List.length t) : Int) - (1 : Int)))) T.noSt))) },
        AV.int IntKind.i64 (Prod.fst (Prod.snd (Prod.snd (List.getD t (Int.toNat (IntKind.wrap IntKind.i64 ((↑(List.length t) : Int) - (1 : Int)))) T.noSt)))),
        AV.str
        {
        data :=
        List.toArray (Prod.fst (Prod.snd (Prod.snd (Prod.snd (List.getD t (Int.toNat (IntKind.wrap IntKind.i64 ((↑(List.length t) : Int) - (1 : Int)))) T.noSt))))) },
        AV.int IntKind.i64
        (Prod.fst (Prod.snd (Prod.snd (Prod.snd (Prod.snd (List.getD t (Int.toNat (IntKind.wrap IntKind.i64 ((↑(List.length t) : Int) - (1 : Int)))) T.noSt)))))),
        AV.int IntKind.i64
        (Prod.snd (Prod.snd (Prod.snd (Prod.snd (Prod.snd (List.getD t (Int.toNat (IntKind.wrap IntKind.i64 ((↑(List.length t) : Int) - (1 : Int)))) T.noSt))))))],
        AObj.cells
        [AV.int IntKind.i64 (0 : Int), AV.str { data := #[] }, AV.int IntKind.i64 (0 : Int), AV.str { data := #[] }, AV.int IntKind.i64 (0 : Int),
        AV.int IntKind.i64 (0 : Int)]] =
        [AObj.cells
        [AV.int IntKind.i64 (Prod.fst (List.getD t (Int.toNat (IntKind.wrap IntKind.i64 ((↑(List.length t) : Int) - (1 : Int)))) T.noSt)),
        AV.str { data := List.toArray (Prod.fst (Prod.snd (List.getD t (Int.toNat (IntKind.wrap IntKind.i64 ((↑(List.length t) : Int) - (1 : Int)))) T.noSt))) },
        AV.int IntKind.i64 (Prod.fst (Prod.snd (Prod.snd (List.getD t (Int.toNat (IntKind.wrap IntKind.i64 ((↑(List.length t) : Int) - (1 : Int)))) T.noSt)))),
        AV.str
        {
        data :=
        List.toArray (Prod.fst (Prod.snd (Prod.snd (Prod.snd (List.getD t (Int.toNat (IntKind.wrap IntKind.i64 ((↑(List.length t) : Int) - (1 : Int)))) T.noSt))))) },
        AV.int IntKind.i64
        (Prod.fst (Prod.snd (Prod.snd (Prod.snd (Prod.snd (List.getD t (Int.toNat (IntKind.wrap IntKind.i64 ((↑(List.length t) : Int) - (1 : Int)))) T.noSt)))))),
        AV.int IntKind.i64
        (Prod.snd (Prod.snd (Prod.snd (Prod.snd (Prod.snd (List.getD t (Int.toNat (IntKind.wrap IntKind.i64 ((↑(List.length t) : Int) - (1 : Int)))) T.noSt))))))],
        AObj.cells
        [AV.int IntKind.i64 (0 : Int), AV.str { data := #[] }, AV.int IntKind.i64 (0 : Int), AV.str { data := #[] }, AV.int IntKind.i64 (0 : Int),
        AV.int IntKind.i64 (0 : Int)]]) ∧
        (AV.int IntKind.i64 (↑(List.length l) : Int) = AV.int IntKind.i64 (↑(List.length l) : Int) ∧
        [AObj.cells
        [AV.int IntKind.i64 (Prod.fst (List.getD t (Int.toNat (IntKind.wrap IntKind.i64 ((↑(List.length t) : Int) - (1 : Int)))) T.noSt)),
        AV.str { data := List.toArray (Prod.fst (Prod.snd (List.getD t (Int.toNat (IntKind.wrap IntKind.i64 ((↑(List.length t) : Int) - (1 : Int)))) T.noSt))) },
        AV.int IntKind.i64 (Prod.fst (Prod.snd (Prod.snd (List.getD t (Int.toNat (IntKind.wrap IntKind.i64 ((↑(List.length t) : Int) - (1 : Int)))) T.noSt)))),
        AV.str
        {
        data :=
        List.toArray (Prod.fst (Prod.snd (Prod.snd (Prod.snd (List.getD t (Int.toNat (IntKind.wrap IntKind.i64 ((↑(List.length t) : Int) - (1 : Int)))) T.noSt))))) },
        AV.int IntKind.i64
        (Prod.fst (Prod.snd (Prod.snd (Prod.snd (Prod.snd (List.getD t (Int.toNat (IntKind.wrap IntKind.i64 ((↑(List.length t) : Int) - (1 : Int)))) T.noSt)))))),
        AV.int IntKind.i64
        (Prod.snd (Prod.snd (Prod.snd (Prod.snd (Prod.snd (List.getD t (Int.toNat (IntKind.wrap IntKind.i64 ((↑(List.length t) : Int) - (1 : Int)))) T.noSt))))))],
        AObj.cells
        [AV.int IntKind.i64 (0 : Int), AV.str { data := #[] }, AV.int IntKind.i64 (0 : Int), AV.str { data := #[] }, AV.int IntKind.i64 (0 : Int),
        AV.int IntKind.i64 (0 : Int)]] =
        [AObj.cells
        [AV.int IntKind.i64 (Prod.fst (List.getD t (Int.toNat (IntKind.wrap IntKind.i64 ((↑(List.length t) : Int) - (1 : Int)))) T.noSt)),
        AV.str { data := List.toArray (Prod.fst (Prod.snd (List.getD t (Int.toNat (IntKind.wrap IntKind.i64 ((↑(List.length t) : Int) - (1 : Int)))) T.noSt))) },
        AV.int IntKind.i64 (Prod.fst (Prod.snd (Prod.snd (List.getD t (Int.toNat (IntKind.wrap IntKind.i64 ((↑(List.length t) : Int) - (1 : Int)))) T.noSt)))),
        AV.str
        {
        data :=
        List.toArray (Prod.fst (Prod.snd (Prod.snd (Prod.snd (List.getD t (Int.toNat (IntKind.wrap IntKind.i64 ((↑(List.length t) : Int) - (1 : Int)))) T.noSt))))) },
        AV.int IntKind.i64
        (Prod.fst (Prod.snd (Prod.snd (Prod.snd (Prod.snd (List.getD t (Int.toNat (IntKind.wrap IntKind.i64 ((↑(List.length t) : Int) - (1 : Int)))) T.noSt)))))),
        AV.int IntKind.i64
        (Prod.snd (Prod.snd (Prod.snd (Prod.snd (Prod.snd (List.getD t (Int.toNat (IntKind.wrap IntKind.i64 ((↑(List.length t) : Int) - (1 : Int)))) T.noSt))))))],
        AObj.cells
        [AV.int IntKind.i64 (0 : Int), AV.str { data := #[] }, AV.int IntKind.i64 (0 : Int), AV.str { data := #[] }, AV.int IntKind.i64 (0 : Int),
        AV.int IntKind.i64 (0 : Int)]]) ∧
        condP
        (Prod.fst (List.getD t (Int.toNat (IntKind.wrap IntKind.i64 ((↑(List.length t) : Int) - (1 : Int)))) T.noSt) ==
        Prod.fst (List.getD l (Int.toNat (IntKind.wrap IntKind.i64 ((↑(List.length l) : Int) - (1 : Int)))) T.noSt))
        (condP
        (ByteArray.toList { data := List.toArray (Prod.fst (Prod.snd (List.getD t (Int.toNat (IntKind.wrap IntKind.i64 ((↑(List.length t) : Int) - (1 : Int)))) T.noSt))) } ==
        ByteArray.toList { data := List.toArray (Prod.fst (Prod.snd (List.getD l (Int.toNat (IntKind.wrap IntKind.i64 ((↑(List.length l) : Int) - (1 : Int)))) T.noSt))) })
        (condP
        (Prod.fst (Prod.snd (Prod.snd (List.getD t (Int.toNat (IntKind.wrap IntKind.i64 ((↑(List.length t) : Int) - (1 : Int)))) T.noSt))) ==
        Prod.fst (Prod.snd (Prod.snd (List.getD l (Int.toNat (IntKind.wrap IntKind.i64 ((↑(List.length l) : Int) - (1 : Int)))) T.noSt))))
        (condP
        (ByteArray.toList
        {
        data :=
        List.toArray (Prod.fst (Prod.snd (Prod.snd (Prod.snd (List.getD t (Int.toNat (IntKind.wrap IntKind.i64 ((↑(List.length t) : Int) - (1 : Int)))) T.noSt))))) } ==
        ByteArray.toList
        {
        data :=
        List.toArray (Prod.fst (Prod.snd (Prod.snd (Prod.snd (List.getD l (Int.toNat (IntKind.wrap IntKind.i64 ((↑(List.length l) : Int) - (1 : Int)))) T.noSt))))) })
        (ASpec Try.prog 19 []
        [AObj.cells
        [AV.int IntKind.i64 (Prod.fst (List.getD t (Int.toNat (IntKind.wrap IntKind.i64 ((↑(List.length t) : Int) - (1 : Int)))) T.noSt)),
        AV.str { data := List.toArray (Prod.fst (Prod.snd (List.getD t (Int.toNat (IntKind.wrap IntKind.i64 ((↑(List.length t) : Int) - (1 : Int)))) T.noSt))) },
        AV.int IntKind.i64 (Prod.fst (Prod.snd (Prod.snd (List.getD t (Int.toNat (IntKind.wrap IntKind.i64 ((↑(List.length t) : Int) - (1 : Int)))) T.noSt)))),
        AV.str
        {
        data :=
        List.toArray (Prod.fst (Prod.snd (Prod.snd (Prod.snd (List.getD t (Int.toNat (IntKind.wrap IntKind.i64 ((↑(List.length t) : Int) - (1 : Int)))) T.noSt))))) },
        AV.int IntKind.i64
        (Prod.fst (Prod.snd (Prod.snd (Prod.snd (Prod.snd (List.getD t (Int.toNat (IntKind.wrap IntKind.i64 ((↑(List.length t) : Int) - (1 : Int)))) T.noSt)))))),
        AV.int IntKind.i64
        (Prod.snd
        (Prod.snd (Prod.snd (Prod.snd (Prod.snd (List.getD t (Int.toNat (IntKind.wrap IntKind.i64 ((↑(List.length t) : Int) - (1 : Int)))) T.noSt))))))],
        AObj.cells
        [AV.int IntKind.i64 (Prod.fst (List.getD l (Int.toNat (IntKind.wrap IntKind.i64 ((↑(List.length l) : Int) - (1 : Int)))) T.noSt)),
        AV.str { data := List.toArray (Prod.fst (Prod.snd (List.getD l (Int.toNat (IntKind.wrap IntKind.i64 ((↑(List.length l) : Int) - (1 : Int)))) T.noSt))) },
        AV.int IntKind.i64 (Prod.fst (Prod.snd (Prod.snd (List.getD l (Int.toNat (IntKind.wrap IntKind.i64 ((↑(List.length l) : Int) - (1 : Int)))) T.noSt)))),
        AV.str
        {
        data :=
        List.toArray (Prod.fst (Prod.snd (Prod.snd (Prod.snd (List.getD l (Int.toNat (IntKind.wrap IntKind.i64 ((↑(List.length l) : Int) - (1 : Int)))) T.noSt))))) },
        AV.int IntKind.i64
        (Prod.fst (Prod.snd (Prod.snd (Prod.snd (Prod.snd (List.getD l (Int.toNat (IntKind.wrap IntKind.i64 ((↑(List.length l) : Int) - (1 : Int)))) T.noSt)))))),
        AV.int IntKind.i64
        (Prod.snd
        (Prod.snd (Prod.snd (Prod.snd (Prod.snd (List.getD l (Int.toNat (IntKind.wrap IntKind.i64 ((↑(List.length l) : Int) - (1 : Int)))) T.noSt))))))]]
        fun (r : AV) (H' : List AObj) =>
        ∃ (x : Unit),
        r = AV.bool true ∧
        H' =
        [AObj.cells
        [AV.int IntKind.i64 (Prod.fst (List.getD t (Int.toNat (IntKind.wrap IntKind.i64 ((↑(List.length t) : Int) - (1 : Int)))) T.noSt)),
        AV.str
        { data := List.toArray (Prod.fst (Prod.snd (List.getD t (Int.toNat (IntKind.wrap IntKind.i64 ((↑(List.length t) : Int) - (1 : Int)))) T.noSt))) },
        AV.int IntKind.i64
        (Prod.fst (Prod.snd (Prod.snd (List.getD t (Int.toNat (IntKind.wrap IntKind.i64 ((↑(List.length t) : Int) - (1 : Int)))) T.noSt)))),
        AV.str
        {
        data :=
        List.toArray (Prod.fst
        (Prod.snd (Prod.snd (Prod.snd (List.getD t (Int.toNat (IntKind.wrap IntKind.i64 ((↑(List.length t) : Int) - (1 : Int)))) T.noSt))))) },
        AV.int IntKind.i64
        (Prod.fst
        (Prod.snd (Prod.snd (Prod.snd (Prod.snd (List.getD t (Int.toNat (IntKind.wrap IntKind.i64 ((↑(List.length t) : Int) - (1 : Int)))) T.noSt)))))),
        AV.int IntKind.i64
        (Prod.snd
        (Prod.snd
        (Prod.snd (Prod.snd (Prod.snd (List.getD t (Int.toNat (IntKind.wrap IntKind.i64 ((↑(List.length t) : Int) - (1 : Int)))) T.noSt))))))],
        AObj.cells
        [AV.int IntKind.i64 (Prod.fst (List.getD l (Int.toNat (IntKind.wrap IntKind.i64 ((↑(List.length l) : Int) - (1 : Int)))) T.noSt)),
        AV.str
        { data := List.toArray (Prod.fst (Prod.snd (List.getD l (Int.toNat (IntKind.wrap IntKind.i64 ((↑(List.length l) : Int) - (1 : Int)))) T.noSt))) },
        AV.int IntKind.i64
        (Prod.fst (Prod.snd (Prod.snd (List.getD l (Int.toNat (IntKind.wrap IntKind.i64 ((↑(List.length l) : Int) - (1 : Int)))) T.noSt)))),
        AV.str
        {
        data :=
        List.toArray (Prod.fst
        (Prod.snd (Prod.snd (Prod.snd (List.getD l (Int.toNat (IntKind.wrap IntKind.i64 ((↑(List.length l) : Int) - (1 : Int)))) T.noSt))))) },
        AV.int IntKind.i64
        (Prod.fst
        (Prod.snd (Prod.snd (Prod.snd (Prod.snd (List.getD l (Int.toNat (IntKind.wrap IntKind.i64 ((↑(List.length l) : Int) - (1 : Int)))) T.noSt)))))),
        AV.int IntKind.i64
        (Prod.snd
        (Prod.snd
        (Prod.snd (Prod.snd (Prod.snd (List.getD l (Int.toNat (IntKind.wrap IntKind.i64 ((↑(List.length l) : Int) - (1 : Int)))) T.noSt))))))]] ∧
        Post (AV.bool true)
        [AObj.cells
        [AV.int IntKind.i64 (Prod.fst (List.getD t (Int.toNat (IntKind.wrap IntKind.i64 ((↑(List.length t) : Int) - (1 : Int)))) T.noSt)),
        AV.str
        { data := List.toArray (Prod.fst (Prod.snd (List.getD t (Int.toNat (IntKind.wrap IntKind.i64 ((↑(List.length t) : Int) - (1 : Int)))) T.noSt))) },
        AV.int IntKind.i64
        (Prod.fst (Prod.snd (Prod.snd (List.getD t (Int.toNat (IntKind.wrap IntKind.i64 ((↑(List.length t) : Int) - (1 : Int)))) T.noSt)))),
        AV.str
        {
        data :=
        List.toArray (Prod.fst
        (Prod.snd (Prod.snd (Prod.snd (List.getD t (Int.toNat (IntKind.wrap IntKind.i64 ((↑(List.length t) : Int) - (1 : Int)))) T.noSt))))) },
        AV.int IntKind.i64
        (Prod.fst
        (Prod.snd (Prod.snd (Prod.snd (Prod.snd (List.getD t (Int.toNat (IntKind.wrap IntKind.i64 ((↑(List.length t) : Int) - (1 : Int)))) T.noSt)))))),
        AV.int IntKind.i64
        (Prod.snd
        (Prod.snd
        (Prod.snd (Prod.snd (Prod.snd (List.getD t (Int.toNat (IntKind.wrap IntKind.i64 ((↑(List.length t) : Int) - (1 : Int)))) T.noSt))))))],
        AObj.cells
        [AV.int IntKind.i64 (Prod.fst (List.getD l (Int.toNat (IntKind.wrap IntKind.i64 ((↑(List.length l) : Int) - (1 : Int)))) T.noSt)),
        AV.str
        { data := List.toArray (Prod.fst (Prod.snd (List.getD l (Int.toNat (IntKind.wrap IntKind.i64 ((↑(List.length l) : Int) - (1 : Int)))) T.noSt))) },
        AV.int IntKind.i64
        (Prod.fst (Prod.snd (Prod.snd (List.getD l (Int.toNat (IntKind.wrap IntKind.i64 ((↑(List.length l) : Int) - (1 : Int)))) T.noSt)))),
        AV.str
        {
        data :=
        List.toArray (Prod.fst
        (Prod.snd (Prod.snd (Prod.snd (List.getD l (Int.toNat (IntKind.wrap IntKind.i64 ((↑(List.length l) : Int) - (1 : Int)))) T.noSt))))) },
        AV.int IntKind.i64
        (Prod.fst
        (Prod.snd (Prod.snd (Prod.snd (Prod.snd (List.getD l (Int.toNat (IntKind.wrap IntKind.i64 ((↑(List.length l) : Int) - (1 : Int)))) T.noSt)))))),
        AV.int IntKind.i64
        (Prod.snd
        (Prod.snd
        (Prod.snd (Prod.snd (Prod.snd (List.getD l (Int.toNat (IntKind.wrap IntKind.i64 ((↑(List.length l) : Int) - (1 : Int)))) T.noSt))))))]])
        (Post (AV.bool false)
        [AObj.cells
        [AV.int IntKind.i64 (Prod.fst (List.getD t (Int.toNat (IntKind.wrap IntKind.i64 ((↑(List.length t) : Int) - (1 : Int)))) T.noSt)),
        AV.str { data := List.toArray (Prod.fst (Prod.snd (List.getD t (Int.toNat (IntKind.wrap IntKind.i64 ((↑(List.length t) : Int) - (1 : Int)))) T.noSt))) },
        AV.int IntKind.i64 (Prod.fst (Prod.snd (Prod.snd (List.getD t (Int.toNat (IntKind.wrap IntKind.i64 ((↑(List.length t) : Int) - (1 : Int)))) T.noSt)))),
        AV.str
        {
        data :=
        List.toArray (Prod.fst (Prod.snd (Prod.snd (Prod.snd (List.getD t (Int.toNat (IntKind.wrap IntKind.i64 ((↑(List.length t) : Int) - (1 : Int)))) T.noSt))))) },
        AV.int IntKind.i64
        (Prod.fst (Prod.snd (Prod.snd (Prod.snd (Prod.snd (List.getD t (Int.toNat (IntKind.wrap IntKind.i64 ((↑(List.length t) : Int) - (1 : Int)))) T.noSt)))))),
        AV.int IntKind.i64
        (Prod.snd
        (Prod.snd (Prod.snd (Prod.snd (Prod.snd (List.getD t (Int.toNat (IntKind.wrap IntKind.i64 ((↑(List.length t) : Int) - (1 : Int)))) T.noSt))))))],
        AObj.cells
        [AV.int IntKind.i64 (Prod.fst (List.getD l (Int.toNat (IntKind.wrap IntKind.i64 ((↑(List.length l) : Int) - (1 : Int)))) T.noSt)),
        AV.str { data := List.toArray (Prod.fst (Prod.snd (List.getD l (Int.toNat (IntKind.wrap IntKind.i64 ((↑(List.length l) : Int) - (1 : Int)))) T.noSt))) },
        AV.int IntKind.i64 (Prod.fst (Prod.snd (Prod.snd (List.getD l (Int.toNat (IntKind.wrap IntKind.i64 ((↑(List.length l) : Int) - (1 : Int)))) T.noSt)))),
        AV.str
        {
        data :=
        List.toArray (Prod.fst (Prod.snd (Prod.snd (Prod.snd (List.getD l (Int.toNat (IntKind.wrap IntKind.i64 ((↑(List.length l) : Int) - (1 : Int)))) T.noSt))))) },
        AV.int IntKind.i64
        (Prod.fst (Prod.snd (Prod.snd (Prod.snd (Prod.snd (List.getD l (Int.toNat (IntKind.wrap IntKind.i64 ((↑(List.length l) : Int) - (1 : Int)))) T.noSt)))))),
        AV.int IntKind.i64
        (Prod.snd
        (Prod.snd (Prod.snd (Prod.snd (Prod.snd (List.getD l (Int.toNat (IntKind.wrap IntKind.i64 ((↑(List.length l) : Int) - (1 : Int)))) T.noSt))))))]]))
        (Post (AV.bool false)
        [AObj.cells
        [AV.int IntKind.i64 (Prod.fst (List.getD t (Int.toNat (IntKind.wrap IntKind.i64 ((↑(List.length t) : Int) - (1 : Int)))) T.noSt)),
        AV.str { data := List.toArray (Prod.fst (Prod.snd (List.getD t (Int.toNat (IntKind.wrap IntKind.i64 ((↑(List.length t) : Int) - (1 : Int)))) T.noSt))) },
        AV.int IntKind.i64 (Prod.fst (Prod.snd (Prod.snd (List.getD t (Int.toNat (IntKind.wrap IntKind.i64 ((↑(List.length t) : Int) - (1 : Int)))) T.noSt)))),
        AV.str
        {
        data :=
        List.toArray (Prod.fst (Prod.snd (Prod.snd (Prod.snd (List.getD t (Int.toNat (IntKind.wrap IntKind.i64 ((↑(List.length t) : Int) - (1 : Int)))) T.noSt))))) },
        AV.int IntKind.i64
        (Prod.fst (Prod.snd (Prod.snd (Prod.snd (Prod.snd (List.getD t (Int.toNat (IntKind.wrap IntKind.i64 ((↑(List.length t) : Int) - (1 : Int)))) T.noSt)))))),
        AV.int IntKind.i64
        (Prod.snd (Prod.snd (Prod.snd (Prod.snd (Prod.snd (List.getD t (Int.toNat (IntKind.wrap IntKind.i64 ((↑(List.length t) : Int) - (1 : Int)))) T.noSt))))))],
        AObj.cells
        [AV.int IntKind.i64 (Prod.fst (List.getD l (Int.toNat (IntKind.wrap IntKind.i64 ((↑(List.length l) : Int) - (1 : Int)))) T.noSt)),
        AV.str { data := List.toArray (Prod.fst (Prod.snd (List.getD l (Int.toNat (IntKind.wrap IntKind.i64 ((↑(List.length l) : Int) - (1 : Int)))) T.noSt))) },
        AV.int IntKind.i64 (Prod.fst (Prod.snd (Prod.snd (List.getD l (Int.toNat (IntKind.wrap IntKind.i64 ((↑(List.length l) : Int) - (1 : Int)))) T.noSt)))),
        AV.str
        {
        data :=
        List.toArray (Prod.fst (Prod.snd (Prod.snd (Prod.snd (List.getD l (Int.toNat (IntKind.wrap IntKind.i64 ((↑(List.length l) : Int) - (1 : Int)))) T.noSt))))) },
        AV.int IntKind.i64
        (Prod.fst (Prod.snd (Prod.snd (Prod.snd (Prod.snd (List.getD l (Int.toNat (IntKind.wrap IntKind.i64 ((↑(List.length l) : Int) - (1 : Int)))) T.noSt)))))),
        AV.int IntKind.i64
        (Prod.snd
        (Prod.snd (Prod.snd (Prod.snd (Prod.snd (List.getD l (Int.toNat (IntKind.wrap IntKind.i64 ((↑(List.length l) : Int) - (1 : Int)))) T.noSt))))))]]))
        (Post (AV.bool false)
        [AObj.cells
        [AV.int IntKind.i64 (Prod.fst (List.getD t (Int.toNat (IntKind.wrap IntKind.i64 ((↑(List.length t) : Int) - (1 : Int)))) T.noSt)),
        AV.str { data := List.toArray (Prod.fst (Prod.snd (List.getD t (Int.toNat (IntKind.wrap IntKind.i64 ((↑(List.length t) : Int) - (1 : Int)))) T.noSt))) },
        AV.int IntKind.i64 (Prod.fst (Prod.snd (Prod.snd (List.getD t (Int.toNat (IntKind.wrap IntKind.i64 ((↑(List.length t) : Int) - (1 : Int)))) T.noSt)))),
        AV.str
        {
        data :=
        List.toArray (Prod.fst (Prod.snd (Prod.snd (Prod.snd (List.getD t (Int.toNat (IntKind.wrap IntKind.i64 ((↑(List.length t) : Int) - (1 : Int)))) T.noSt))))) },
        AV.int IntKind.i64
        (Prod.fst (Prod.snd (Prod.snd (Prod.snd (Prod.snd (List.getD t (Int.toNat (IntKind.wrap IntKind.i64 ((↑(List.length t) : Int) - (1 : Int)))) T.noSt)))))),
        AV.int IntKind.i64
        (Prod.snd (Prod.snd (Prod.snd (Prod.snd (Prod.snd (List.getD t (Int.toNat (IntKind.wrap IntKind.i64 ((↑(List.length t) : Int) - (1 : Int)))) T.noSt))))))],
        AObj.cells
        [AV.int IntKind.i64 (Prod.fst (List.getD l (Int.toNat (IntKind.wrap IntKind.i64 ((↑(List.length l) : Int) - (1 : Int)))) T.noSt)),
        AV.str { data := List.toArray (Prod.fst (Prod.snd (List.getD l (Int.toNat (IntKind.wrap IntKind.i64 ((↑(List.length l) : Int) - (1 : Int)))) T.noSt))) },
        AV.int IntKind.i64 (Prod.fst (Prod.snd (Prod.snd (List.getD l (Int.toNat (IntKind.wrap IntKind.i64 ((↑(List.length l) : Int) - (1 : Int)))) T.noSt)))),
        AV.str
        {
        data :=
        List.toArray (Prod.fst (Prod.snd (Prod.snd (Prod.snd (List.getD l (Int.toNat (IntKind.wrap IntKind.i64 ((↑(List.length l) : Int) - (1 : Int)))) T.noSt))))) },
        AV.int IntKind.i64
        (Prod.fst (Prod.snd (Prod.snd (Prod.snd (Prod.snd (List.getD l (Int.toNat (IntKind.wrap IntKind.i64 ((↑(List.length l) : Int) - (1 : Int)))) T.noSt)))))),
        AV.int IntKind.i64
        (Prod.snd (Prod.snd (Prod.snd (Prod.snd (Prod.snd (List.getD l (Int.toNat (IntKind.wrap IntKind.i64 ((↑(List.length l) : Int) - (1 : Int)))) T.noSt))))))]]))
        (Post (AV.bool false)
        [AObj.cells
        [AV.int IntKind.i64 (Prod.fst (List.getD t (Int.toNat (IntKind.wrap IntKind.i64 ((↑(List.length t) : Int) - (1 : Int)))) T.noSt)),
        AV.str { data := List.toArray (Prod.fst (Prod.snd (List.getD t (Int.toNat (IntKind.wrap IntKind.i64 ((↑(List.length t) : Int) - (1 : Int)))) T.noSt))) },
        AV.int IntKind.i64 (Prod.fst (Prod.snd (Prod.snd (List.getD t (Int.toNat (IntKind.wrap IntKind.i64 ((↑(List.length t) : Int) - (1 : Int)))) T.noSt)))),
        AV.str
        {
        data :=
        List.toArray (Prod.fst (Prod.snd (Prod.snd (Prod.snd (List.getD t (Int.toNat (IntKind.wrap IntKind.i64 ((↑(List.length t) : Int) - (1 : Int)))) T.noSt))))) },
        AV.int IntKind.i64
        (Prod.fst (Prod.snd (Prod.snd (Prod.snd (Prod.snd (List.getD t (Int.toNat (IntKind.wrap IntKind.i64 ((↑(List.length t) : Int) - (1 : Int)))) T.noSt)))))),
        AV.int IntKind.i64
        (Prod.snd (Prod.snd (Prod.snd (Prod.snd (Prod.snd (List.getD t (Int.toNat (IntKind.wrap IntKind.i64 ((↑(List.length t) : Int) - (1 : Int)))) T.noSt))))))],
        AObj.cells
        [AV.int IntKind.i64 (Prod.fst (List.getD l (Int.toNat (IntKind.wrap IntKind.i64 ((↑(List.length l) : Int) - (1 : Int)))) T.noSt)),
        AV.str { data := List.toArray (Prod.fst (Prod.snd (List.getD l (Int.toNat (IntKind.wrap IntKind.i64 ((↑(List.length l) : Int) - (1 : Int)))) T.noSt))) },
        AV.int IntKind.i64 (Prod.fst (Prod.snd (Prod.snd (List.getD l (Int.toNat (IntKind.wrap IntKind.i64 ((↑(List.length l) : Int) - (1 : Int)))) T.noSt)))),
        AV.str
        {
        data :=
        List.toArray (Prod.fst (Prod.snd (Prod.snd (Prod.snd (List.getD l (Int.toNat (IntKind.wrap IntKind.i64 ((↑(List.length l) : Int) - (1 : Int)))) T.noSt))))) },
        AV.int IntKind.i64
        (Prod.fst (Prod.snd (Prod.snd (Prod.snd (Prod.snd (List.getD l (Int.toNat (IntKind.wrap IntKind.i64 ((↑(List.length l) : Int) - (1 : Int)))) T.noSt)))))),
        AV.int IntKind.i64
        (Prod.snd (Prod.snd (Prod.snd (Prod.snd (Prod.snd (List.getD l (Int.toNat (IntKind.wrap IntKind.i64 ((↑(List.length l) : Int) - (1 : Int)))) T.noSt))))))]]))) →
    AWP Try.prog 97 n c16_13 [(0, AV.sl 6 (Seq.map T.encSt T.noSt l) Tip.none), (3, AV.sl 6 (Seq.map T.encSt T.noSt t) Tip.none)] [] (q16_0 n Post) := fun l t n Post h => Go.Ab.awp_sound g16 n _ _ _ _ (Go.Ab.kc (by kernel_rfl) h)

-- 15
end
end Pl
end

section
/- Printed: what the code of functions 226, 123, 152, 25, 24, 18, 20, 23, 21, 22, 228, 309, 125, 3, 19 asks for, by the framework's own reading of it; each line is checked against the code. -/

set_option linter.unusedVariables false
set_option maxRecDepth 100000
set_option maxHeartbeats 4000000
open Go Go.Ab Go.Proofs
namespace Pf
noncomputable section

noncomputable def retP : List (Nat × Ret) := [
  (226, ⟨Bool, fun _ _ x => .bool x, fun _ H _ => H⟩), (123, ⟨Bool, fun _ _ x => .bool x, fun _ H _ => H⟩), (152, ⟨Bool, fun _ _ x => .bool x, fun _ H _ => H⟩), (25, ⟨Bool, fun _ _ x => .bool x, fun _ H _ => H⟩), (24, ⟨Bool, fun _ _ x => .bool x, fun _ H _ => H⟩), (18, ⟨Bool, fun _ _ x => .bool x, fun _ H _ => H⟩), (19, ⟨Unit, fun _ _ _ => .bool true, fun _ H _ => H⟩),
  (20, ⟨List UInt8, fun _ _ x => .sl 1 (.map encB 0 x) .none, fun _ H _ => H⟩),
  (21, ⟨List T.St × Int, fun _ _ x => .tup [.sl 6 (.map T.encSt T.noSt x.1) .none, .int .i64 x.2], fun _ H _ => H⟩),
  (22, ⟨List T.St × Int, fun _ _ x => .tup [.sl 6 (.map T.encSt T.noSt x.1) .none, .int .i64 x.2], fun _ H _ => H⟩),
  (23, ⟨ByteArray, fun _ _ x => .str x, fun _ H _ => H⟩),
  (125, ⟨List T.St, fun _ _ x => .sl 6 (.map T.encSt T.noSt x) .none, fun _ H _ => H⟩),
  (228, ⟨Unit, fun _ H _ => .fn 309 [.ptr H.length 0], fun a H _ => H ++ [.cells [a.getD 0 .bad]]⟩),
  (yieldKey, ⟨List Bool, fun _ _ _ => .bool true, fun _ H x => H.set 0 (.arr 1 (.map T.encBo false x))⟩)]
noncomputable def rets : FuncId → List Ret := lookupR (retP ++ C.retC ++ V.retL)

-- 226
noncomputable def l226 : Nat → List Nat
  | 2 => [1, 2, 5]
  | 3 => [1, 2, 5, 6]
  | _ => []
noncomputable def u226 : Nat → Bool
  | 2 => true
  | 3 => true
  | _ => false
noncomputable def m226 : Nat → Bool
  | _ => false
noncomputable def g226 : Cfg := { N := 85, live := l226, cut := u226, mu := m226, ret := rets }
noncomputable def c226 : Go.Code := Go.Ab.bodyOf Go.Proofs.Try.f226
noncomputable def q226_0 : Nat → (AV → List AObj → Prop) → AQ := fun (n : Nat) (Post : AV → List AObj → Prop) => endQ Try.prog (resultsOf Try.f226) Post
noncomputable def c226_2 : Go.Code := codeSnd (codeSnd c226)
theorem s226 : ∀ (x : T.St) (i : Int) (Post : AV → List AObj → Prop),
  condP (ByteArray.toList { data := List.toArray (Prod.fst (Prod.snd (Prod.snd (Prod.snd x)))) } == ByteArray.toList { data := #[] })
      (AWP Try.prog 85 0 c226_2 [(1, AV.int IntKind.i64 i), (2, AV.ptr 0 0), (5, AV.bool (Prod.fst (Prod.snd (Prod.snd x)) == (0 : Int)))]
        [AObj.cells
        [AV.int IntKind.i64 (Prod.fst x), AV.str { data := List.toArray (Prod.fst (Prod.snd x)) }, AV.int IntKind.i64 (Prod.fst (Prod.snd (Prod.snd x))),
        AV.str { data := List.toArray (Prod.fst (Prod.snd (Prod.snd (Prod.snd x)))) }, AV.int IntKind.i64 (Prod.fst (Prod.snd (Prod.snd (Prod.snd (Prod.snd x))))),
        AV.int IntKind.i64 (Prod.snd (Prod.snd (Prod.snd (Prod.snd (Prod.snd x)))))]]
        (q226_0 0 Post))
      (AWP Try.prog 85 0 c226_2 [(1, AV.int IntKind.i64 i), (2, AV.ptr 0 0), (5, AV.bool false)]
        [AObj.cells
        [AV.int IntKind.i64 (Prod.fst x), AV.str { data := List.toArray (Prod.fst (Prod.snd x)) }, AV.int IntKind.i64 (Prod.fst (Prod.snd (Prod.snd x))),
        AV.str { data := List.toArray (Prod.fst (Prod.snd (Prod.snd (Prod.snd x)))) }, AV.int IntKind.i64 (Prod.fst (Prod.snd (Prod.snd (Prod.snd (Prod.snd x))))),
        AV.int IntKind.i64 (Prod.snd (Prod.snd (Prod.snd (Prod.snd (Prod.snd x)))))]]
        (q226_0 0 Post)) →
    ASpec Try.prog 226 [AV.agg (T.encSt x), AV.int IntKind.i64 i] [] Post := fun x i Post h => Go.Ab.ASpec.of_vc g226 Go.Proofs.Try.func226 (by kernel_rfl) (by kernel_rfl) (by kernel_rfl) (Go.Ab.kc (by kernel_rfl) h)
noncomputable def c226_3 : Go.Code := codeSnd c226_2
theorem v226_2 : ∀ (x : T.St) (i : Int) (p : Bool) (n : Nat) (Post : AV → List AObj → Prop),
  condP (Prod.fst (Prod.snd (Prod.snd (Prod.snd (Prod.snd x)))) == (0 : Int))
      (AWP Try.prog 85 n c226_3
        [(1, AV.int IntKind.i64 i), (2, AV.ptr 0 0), (5, AV.bool p), (6, AV.bool (Prod.snd (Prod.snd (Prod.snd (Prod.snd (Prod.snd x)))) == (0 : Int)))]
        [AObj.cells
        [AV.int IntKind.i64 (Prod.fst x), AV.str { data := List.toArray (Prod.fst (Prod.snd x)) }, AV.int IntKind.i64 (Prod.fst (Prod.snd (Prod.snd x))),
        AV.str { data := List.toArray (Prod.fst (Prod.snd (Prod.snd (Prod.snd x)))) }, AV.int IntKind.i64 (Prod.fst (Prod.snd (Prod.snd (Prod.snd (Prod.snd x))))),
        AV.int IntKind.i64 (Prod.snd (Prod.snd (Prod.snd (Prod.snd (Prod.snd x)))))]]
        (q226_0 n Post))
      (AWP Try.prog 85 n c226_3 [(1, AV.int IntKind.i64 i), (2, AV.ptr 0 0), (5, AV.bool p), (6, AV.bool false)]
        [AObj.cells
        [AV.int IntKind.i64 (Prod.fst x), AV.str { data := List.toArray (Prod.fst (Prod.snd x)) }, AV.int IntKind.i64 (Prod.fst (Prod.snd (Prod.snd x))),
        AV.str { data := List.toArray (Prod.fst (Prod.snd (Prod.snd (Prod.snd x)))) }, AV.int IntKind.i64 (Prod.fst (Prod.snd (Prod.snd (Prod.snd (Prod.snd x))))),
        AV.int IntKind.i64 (Prod.snd (Prod.snd (Prod.snd (Prod.snd (Prod.snd x)))))]]
        (q226_0 n Post)) →
    AWP Try.prog 85 n c226_2 [(1, AV.int IntKind.i64 i), (2, AV.ptr 0 0), (5, AV.bool p)] [AObj.cells (T.encSt x)] (q226_0 n Post) := fun x i p n Post h => Go.Ab.awp_sound g226 n _ _ _ _ (Go.Ab.kc (by kernel_rfl) h)
theorem v226_3 : ∀ (x : T.St) (i : Int) (p q : Bool) (n : Nat) (Post : AV → List AObj → Prop),
  condP (Prod.fst x == (1 : Int))
      (condP (Prod.fst x == (1 : Int))
        (ASpec Try.prog 154 [AV.str { data := List.toArray (Prod.fst (Prod.snd x)) }]
        [AObj.cells
        [AV.int IntKind.i64 (Prod.fst x), AV.str { data := List.toArray (Prod.fst (Prod.snd x)) }, AV.int IntKind.i64 (Prod.fst (Prod.snd (Prod.snd x))),
        AV.str { data := List.toArray (Prod.fst (Prod.snd (Prod.snd (Prod.snd x)))) }, AV.int IntKind.i64 (Prod.fst (Prod.snd (Prod.snd (Prod.snd (Prod.snd x))))),
        AV.int IntKind.i64 (Prod.snd (Prod.snd (Prod.snd (Prod.snd (Prod.snd x)))))]]
        fun (r : AV) (H' : List AObj) =>
        ∃ (x_1 : Bool),
        r = AV.bool x_1 ∧
        H' =
        [AObj.cells
        [AV.int IntKind.i64 (Prod.fst x), AV.str { data := List.toArray (Prod.fst (Prod.snd x)) }, AV.int IntKind.i64 (Prod.fst (Prod.snd (Prod.snd x))),
        AV.str { data := List.toArray (Prod.fst (Prod.snd (Prod.snd (Prod.snd x)))) }, AV.int IntKind.i64 (Prod.fst (Prod.snd (Prod.snd (Prod.snd (Prod.snd x))))),
        AV.int IntKind.i64 (Prod.snd (Prod.snd (Prod.snd (Prod.snd (Prod.snd x)))))]] ∧
        condP x_1
        (condP p
        (Post (AV.bool q)
        [AObj.cells
        [AV.int IntKind.i64 (Prod.fst x), AV.str { data := List.toArray (Prod.fst (Prod.snd x)) }, AV.int IntKind.i64 (Prod.fst (Prod.snd (Prod.snd x))),
        AV.str { data := List.toArray (Prod.fst (Prod.snd (Prod.snd (Prod.snd x)))) }, AV.int IntKind.i64 (Prod.fst (Prod.snd (Prod.snd (Prod.snd (Prod.snd x))))),
        AV.int IntKind.i64 (Prod.snd (Prod.snd (Prod.snd (Prod.snd (Prod.snd x)))))]])
        (Post (AV.bool false)
        [AObj.cells
        [AV.int IntKind.i64 (Prod.fst x), AV.str { data := List.toArray (Prod.fst (Prod.snd x)) }, AV.int IntKind.i64 (Prod.fst (Prod.snd (Prod.snd x))),
        AV.str { data := List.toArray (Prod.fst (Prod.snd (Prod.snd (Prod.snd x)))) }, AV.int IntKind.i64 (Prod.fst (Prod.snd (Prod.snd (Prod.snd (Prod.snd x))))),
        AV.int IntKind.i64 (Prod.snd (Prod.snd (Prod.snd (Prod.snd (Prod.snd x)))))]]))
        (Post (AV.bool false)
        [AObj.cells
        [AV.int IntKind.i64 (Prod.fst x), AV.str { data := List.toArray (Prod.fst (Prod.snd x)) }, AV.int IntKind.i64 (Prod.fst (Prod.snd (Prod.snd x))),
        AV.str { data := List.toArray (Prod.fst (Prod.snd (Prod.snd (Prod.snd x)))) }, AV.int IntKind.i64 (Prod.fst (Prod.snd (Prod.snd (Prod.snd (Prod.snd x))))),
        AV.int IntKind.i64 (Prod.snd (Prod.snd (Prod.snd (Prod.snd (Prod.snd x)))))]]))
        (condP (Prod.fst x == (3 : Int))
        (ASpec Try.prog 154 [AV.str { data := List.toArray (Prod.fst (Prod.snd x)) }]
        [AObj.cells
        [AV.int IntKind.i64 (Prod.fst x), AV.str { data := List.toArray (Prod.fst (Prod.snd x)) }, AV.int IntKind.i64 (Prod.fst (Prod.snd (Prod.snd x))),
        AV.str { data := List.toArray (Prod.fst (Prod.snd (Prod.snd (Prod.snd x)))) }, AV.int IntKind.i64 (Prod.fst (Prod.snd (Prod.snd (Prod.snd (Prod.snd x))))),
        AV.int IntKind.i64 (Prod.snd (Prod.snd (Prod.snd (Prod.snd (Prod.snd x)))))]]
        fun (r : AV) (H' : List AObj) =>
        ∃ (x_1 : Bool),
        r = AV.bool x_1 ∧
        H' =
        [AObj.cells
        [AV.int IntKind.i64 (Prod.fst x), AV.str { data := List.toArray (Prod.fst (Prod.snd x)) }, AV.int IntKind.i64 (Prod.fst (Prod.snd (Prod.snd x))),
        AV.str { data := List.toArray (Prod.fst (Prod.snd (Prod.snd (Prod.snd x)))) }, AV.int IntKind.i64 (Prod.fst (Prod.snd (Prod.snd (Prod.snd (Prod.snd x))))),
        AV.int IntKind.i64 (Prod.snd (Prod.snd (Prod.snd (Prod.snd (Prod.snd x)))))]] ∧
        condP x_1
        (ASpec Try.prog 154 [AV.str { data := List.toArray (Prod.fst (Prod.snd (Prod.snd (Prod.snd x)))) }]
        [AObj.cells
        [AV.int IntKind.i64 (Prod.fst x), AV.str { data := List.toArray (Prod.fst (Prod.snd x)) }, AV.int IntKind.i64 (Prod.fst (Prod.snd (Prod.snd x))),
        AV.str { data := List.toArray (Prod.fst (Prod.snd (Prod.snd (Prod.snd x)))) }, AV.int IntKind.i64 (Prod.fst (Prod.snd (Prod.snd (Prod.snd (Prod.snd x))))),
        AV.int IntKind.i64 (Prod.snd (Prod.snd (Prod.snd (Prod.snd (Prod.snd x)))))]]
        fun (r : AV) (H' : List AObj) =>
        ∃ (x_2 : Bool),
        r = AV.bool x_2 ∧
        H' =
        [AObj.cells
        [AV.int IntKind.i64 (Prod.fst x), AV.str { data := List.toArray (Prod.fst (Prod.snd x)) }, AV.int IntKind.i64 (Prod.fst (Prod.snd (Prod.snd x))),
        AV.str { data := List.toArray (Prod.fst (Prod.snd (Prod.snd (Prod.snd x)))) }, AV.int IntKind.i64 (Prod.fst (Prod.snd (Prod.snd (Prod.snd (Prod.snd x))))),
        AV.int IntKind.i64 (Prod.snd (Prod.snd (Prod.snd (Prod.snd (Prod.snd x)))))]] ∧
        condP x_2
        (condP (decide (Prod.fst (Prod.snd (Prod.snd x)) ≥ (0 : Int)))
        (condP (decide (Prod.fst (Prod.snd (Prod.snd x)) < (1000000000 : Int)))
        (Post (AV.bool q)
        [AObj.cells
        [AV.int IntKind.i64 (Prod.fst x), AV.str { data := List.toArray (Prod.fst (Prod.snd x)) }, AV.int IntKind.i64 (Prod.fst (Prod.snd (Prod.snd x))),
        AV.str { data := List.toArray (Prod.fst (Prod.snd (Prod.snd (Prod.snd x)))) }, AV.int IntKind.i64 (Prod.fst (Prod.snd (Prod.snd (Prod.snd (Prod.snd x))))),
        AV.int IntKind.i64 (Prod.snd (Prod.snd (Prod.snd (Prod.snd (Prod.snd x)))))]])
        (Post (AV.bool false)
        [AObj.cells
        [AV.int IntKind.i64 (Prod.fst x), AV.str { data := List.toArray (Prod.fst (Prod.snd x)) }, AV.int IntKind.i64 (Prod.fst (Prod.snd (Prod.snd x))),
        AV.str { data := List.toArray (Prod.fst (Prod.snd (Prod.snd (Prod.snd x)))) }, AV.int IntKind.i64 (Prod.fst (Prod.snd (Prod.snd (Prod.snd (Prod.snd x))))),
        AV.int IntKind.i64 (Prod.snd (Prod.snd (Prod.snd (Prod.snd (Prod.snd x)))))]]))
        (Post (AV.bool false)
        [AObj.cells
        [AV.int IntKind.i64 (Prod.fst x), AV.str { data := List.toArray (Prod.fst (Prod.snd x)) }, AV.int IntKind.i64 (Prod.fst (Prod.snd (Prod.snd x))),
        AV.str { data := List.toArray (Prod.fst (Prod.snd (Prod.snd (Prod.snd x)))) }, AV.int IntKind.i64 (Prod.fst (Prod.snd (Prod.snd (Prod.snd (Prod.snd x))))),
        AV.int IntKind.i64 (Prod.snd (Prod.snd (Prod.snd (Prod.snd (Prod.snd x)))))]]))
        (Post (AV.bool false)
        [AObj.cells
        [AV.int IntKind.i64 (Prod.fst x), AV.str { data := List.toArray (Prod.fst (Prod.snd x)) }, AV.int IntKind.i64 (Prod.fst (Prod.snd (Prod.snd x))),
        AV.str { data := List.toArray (Prod.fst (Prod.snd (Prod.snd (Prod.snd x)))) }, AV.int IntKind.i64 (Prod.fst (Prod.snd (Prod.snd (Prod.snd (Prod.snd x))))),
        AV.int IntKind.i64 (Prod.snd (Prod.snd (Prod.snd (Prod.snd (Prod.snd x)))))]]))
        (Post (AV.bool false)
        [AObj.cells
        [AV.int IntKind.i64 (Prod.fst x), AV.str { data := List.toArray (Prod.fst (Prod.snd x)) }, AV.int IntKind.i64 (Prod.fst (Prod.snd (Prod.snd x))),
        AV.str { data := List.toArray (Prod.fst (Prod.snd (Prod.snd (Prod.snd x)))) }, AV.int IntKind.i64 (Prod.fst (Prod.snd (Prod.snd (Prod.snd (Prod.snd x))))),
        AV.int IntKind.i64 (Prod.snd (Prod.snd (Prod.snd (Prod.snd (Prod.snd x)))))]]))
        (condP (Prod.fst x == (4 : Int))
        (ASpec Try.prog 154 [AV.str { data := List.toArray (Prod.fst (Prod.snd x)) }]
        [AObj.cells
        [AV.int IntKind.i64 (Prod.fst x), AV.str { data := List.toArray (Prod.fst (Prod.snd x)) }, AV.int IntKind.i64 (Prod.fst (Prod.snd (Prod.snd x))),
        AV.str { data := List.toArray (Prod.fst (Prod.snd (Prod.snd (Prod.snd x)))) }, AV.int IntKind.i64 (Prod.fst (Prod.snd (Prod.snd (Prod.snd (Prod.snd x))))),
        AV.int IntKind.i64 (Prod.snd (Prod.snd (Prod.snd (Prod.snd (Prod.snd x)))))]]
        fun (r : AV) (H' : List AObj) =>
        ∃ (x_1 : Bool),
        r = AV.bool x_1 ∧
        H' =
        [AObj.cells
        [AV.int IntKind.i64 (Prod.fst x), AV.str { data := List.toArray (Prod.fst (Prod.snd x)) }, AV.int IntKind.i64 (Prod.fst (Prod.snd (Prod.snd x))),
        AV.str { data := List.toArray (Prod.fst (Prod.snd (Prod.snd (Prod.snd x)))) }, AV.int IntKind.i64 (Prod.fst (Prod.snd (Prod.snd (Prod.snd (Prod.snd x))))),
        AV.int IntKind.i64 (Prod.snd (Prod.snd (Prod.snd (Prod.snd (Prod.snd x)))))]] ∧
        condP x_1
        (condP p
        (condP
        (decide
        ((if Prod.snd (Prod.snd (Prod.snd (Prod.snd (Prod.snd x)))) < Prod.fst (Prod.snd (Prod.snd (Prod.snd (Prod.snd x)))) then
        Prod.snd (Prod.snd (Prod.snd (Prod.snd (Prod.snd x))))
        else Prod.fst (Prod.snd (Prod.snd (Prod.snd (Prod.snd x))))) ≥
        (0 : Int)))
        (Post
        (AV.bool
        (decide
        ((if Prod.snd (Prod.snd (Prod.snd (Prod.snd (Prod.snd x)))) > Prod.fst (Prod.snd (Prod.snd (Prod.snd (Prod.snd x)))) then
        Prod.snd (Prod.snd (Prod.snd (Prod.snd (Prod.snd x))))
        else Prod.fst (Prod.snd (Prod.snd (Prod.snd (Prod.snd x))))) <
        i)))
        [AObj.cells
        [AV.int IntKind.i64 (Prod.fst x), AV.str { data := List.toArray (Prod.fst (Prod.snd x)) }, AV.int IntKind.i64 (Prod.fst (Prod.snd (Prod.snd x))),
        AV.str { data := List.toArray (Prod.fst (Prod.snd (Prod.snd (Prod.snd x)))) }, AV.int IntKind.i64 (Prod.fst (Prod.snd (Prod.snd (Prod.snd (Prod.snd x))))),
        AV.int IntKind.i64 (Prod.snd (Prod.snd (Prod.snd (Prod.snd (Prod.snd x)))))]])
        (Post (AV.bool false)
        [AObj.cells
        [AV.int IntKind.i64 (Prod.fst x), AV.str { data := List.toArray (Prod.fst (Prod.snd x)) }, AV.int IntKind.i64 (Prod.fst (Prod.snd (Prod.snd x))),
        AV.str { data := List.toArray (Prod.fst (Prod.snd (Prod.snd (Prod.snd x)))) }, AV.int IntKind.i64 (Prod.fst (Prod.snd (Prod.snd (Prod.snd (Prod.snd x))))),
        AV.int IntKind.i64 (Prod.snd (Prod.snd (Prod.snd (Prod.snd (Prod.snd x)))))]]))
        (Post (AV.bool false)
        [AObj.cells
        [AV.int IntKind.i64 (Prod.fst x), AV.str { data := List.toArray (Prod.fst (Prod.snd x)) }, AV.int IntKind.i64 (Prod.fst (Prod.snd (Prod.snd x))),
        AV.str { data := List.toArray (Prod.fst (Prod.snd (Prod.snd (Prod.snd x)))) }, AV.int IntKind.i64 (Prod.fst (Prod.snd (Prod.snd (Prod.snd (Prod.snd x))))),
        AV.int IntKind.i64 (Prod.snd (Prod.snd (Prod.snd (Prod.snd (Prod.snd x)))))]]))
        (Post (AV.bool false)
        [AObj.cells
        [AV.int IntKind.i64 (Prod.fst x), AV.str { data := List.toArray (Prod.fst (Prod.snd x)) }, AV.int IntKind.i64 (Prod.fst (Prod.snd (Prod.snd x))),
        AV.str { data := List.toArray (Prod.fst (Prod.snd (Prod.snd (Prod.snd x)))) }, AV.int IntKind.i64 (Prod.fst (Prod.snd (Prod.snd (Prod.snd (Prod.snd x))))),
        AV.int IntKind.i64 (Prod.snd (Prod.snd (Prod.snd (Prod.snd (Prod.snd x)))))]]))
        (Post (AV.bool false)
        [AObj.cells
        [AV.int IntKind.i64 (Prod.fst x), AV.str { data := List.toArray (Prod.fst (Prod.snd x)) }, AV.int IntKind.i64 (Prod.fst (Prod.snd (Prod.snd x))),
        AV.str { data := List.toArray (Prod.fst (Prod.snd (Prod.snd (Prod.snd x)))) }, AV.int IntKind.i64 (Prod.fst (Prod.snd (Prod.snd (Prod.snd (Prod.snd x))))),
        AV.int IntKind.i64 (Prod.snd (Prod.snd (Prod.snd (Prod.snd (Prod.snd x)))))]]))))
      (condP (Prod.fst x == (2 : Int))
        (ASpec Try.prog 154 [AV.str { data := List.toArray (Prod.fst (Prod.snd x)) }]
        [AObj.cells
        [AV.int IntKind.i64 (Prod.fst x), AV.str { data := List.toArray (Prod.fst (Prod.snd x)) }, AV.int IntKind.i64 (Prod.fst (Prod.snd (Prod.snd x))),
        AV.str { data := List.toArray (Prod.fst (Prod.snd (Prod.snd (Prod.snd x)))) }, AV.int IntKind.i64 (Prod.fst (Prod.snd (Prod.snd (Prod.snd (Prod.snd x))))),
        AV.int IntKind.i64 (Prod.snd (Prod.snd (Prod.snd (Prod.snd (Prod.snd x)))))]]
        fun (r : AV) (H' : List AObj) =>
        ∃ (x_1 : Bool),
        r = AV.bool x_1 ∧
        H' =
        [AObj.cells
        [AV.int IntKind.i64 (Prod.fst x), AV.str { data := List.toArray (Prod.fst (Prod.snd x)) }, AV.int IntKind.i64 (Prod.fst (Prod.snd (Prod.snd x))),
        AV.str { data := List.toArray (Prod.fst (Prod.snd (Prod.snd (Prod.snd x)))) }, AV.int IntKind.i64 (Prod.fst (Prod.snd (Prod.snd (Prod.snd (Prod.snd x))))),
        AV.int IntKind.i64 (Prod.snd (Prod.snd (Prod.snd (Prod.snd (Prod.snd x)))))]] ∧
        condP x_1
        (condP p
        (Post (AV.bool q)
        [AObj.cells
        [AV.int IntKind.i64 (Prod.fst x), AV.str { data := List.toArray (Prod.fst (Prod.snd x)) }, AV.int IntKind.i64 (Prod.fst (Prod.snd (Prod.snd x))),
        AV.str { data := List.toArray (Prod.fst (Prod.snd (Prod.snd (Prod.snd x)))) }, AV.int IntKind.i64 (Prod.fst (Prod.snd (Prod.snd (Prod.snd (Prod.snd x))))),
        AV.int IntKind.i64 (Prod.snd (Prod.snd (Prod.snd (Prod.snd (Prod.snd x)))))]])
        (Post (AV.bool false)
        [AObj.cells
        [AV.int IntKind.i64 (Prod.fst x), AV.str { data := List.toArray (Prod.fst (Prod.snd x)) }, AV.int IntKind.i64 (Prod.fst (Prod.snd (Prod.snd x))),
        AV.str { data := List.toArray (Prod.fst (Prod.snd (Prod.snd (Prod.snd x)))) }, AV.int IntKind.i64 (Prod.fst (Prod.snd (Prod.snd (Prod.snd (Prod.snd x))))),
        AV.int IntKind.i64 (Prod.snd (Prod.snd (Prod.snd (Prod.snd (Prod.snd x)))))]]))
        (Post (AV.bool false)
        [AObj.cells
        [AV.int IntKind.i64 (Prod.fst x), AV.str { data := List.toArray (Prod.fst (Prod.snd x)) }, AV.int IntKind.i64 (Prod.fst (Prod.snd (Prod.snd x))),
        AV.str { data := List.toArray (Prod.fst (Prod.snd (Prod.snd (Prod.snd x)))) }, AV.int IntKind.i64 (Prod.fst (Prod.snd (Prod.snd (Prod.snd (Prod.snd x))))),
        AV.int IntKind.i64 (Prod.snd (Prod.snd (Prod.snd (Prod.snd (Prod.snd x)))))]]))
        (condP (Prod.fst x == (3 : Int))
        (ASpec Try.prog 154 [AV.str { data := List.toArray (Prod.fst (Prod.snd x)) }]
        [AObj.cells
        [AV.int IntKind.i64 (Prod.fst x), AV.str { data := List.toArray (Prod.fst (Prod.snd x)) }, AV.int IntKind.i64 (Prod.fst (Prod.snd (Prod.snd x))),
        AV.str { data := List.toArray (Prod.fst (Prod.snd (Prod.snd (Prod.snd x)))) }, AV.int IntKind.i64 (Prod.fst (Prod.snd (Prod.snd (Prod.snd (Prod.snd x))))),
        AV.int IntKind.i64 (Prod.snd (Prod.snd (Prod.snd (Prod.snd (Prod.snd x)))))]]
        fun (r : AV) (H' : List AObj) =>
        ∃ (x_1 : Bool),
        r = AV.bool x_1 ∧
        H' =
        [AObj.cells
        [AV.int IntKind.i64 (Prod.fst x), AV.str { data := List.toArray (Prod.fst (Prod.snd x)) }, AV.int IntKind.i64 (Prod.fst (Prod.snd (Prod.snd x))),
        AV.str { data := List.toArray (Prod.fst (Prod.snd (Prod.snd (Prod.snd x)))) }, AV.int IntKind.i64 (Prod.fst (Prod.snd (Prod.snd (Prod.snd (Prod.snd x))))),
        AV.int IntKind.i64 (Prod.snd (Prod.snd (Prod.snd (Prod.snd (Prod.snd x)))))]] ∧
        condP x_1
        (ASpec Try.prog 154 [AV.str { data := List.toArray (Prod.fst (Prod.snd (Prod.snd (Prod.snd x)))) }]
        [AObj.cells
        [AV.int IntKind.i64 (Prod.fst x), AV.str { data := List.toArray (Prod.fst (Prod.snd x)) }, AV.int IntKind.i64 (Prod.fst (Prod.snd (Prod.snd x))),
        AV.str { data := List.toArray (Prod.fst (Prod.snd (Prod.snd (Prod.snd x)))) }, AV.int IntKind.i64 (Prod.fst (Prod.snd (Prod.snd (Prod.snd (Prod.snd x))))),
        AV.int IntKind.i64 (Prod.snd (Prod.snd (Prod.snd (Prod.snd (Prod.snd x)))))]]
        fun (r : AV) (H' : List AObj) =>
        ∃ (x_2 : Bool),
        r = AV.bool x_2 ∧
        H' =
        [AObj.cells
        [AV.int IntKind.i64 (Prod.fst x), AV.str { data := List.toArray (Prod.fst (Prod.snd x)) }, AV.int IntKind.i64 (Prod.fst (Prod.snd (Prod.snd x))),
        AV.str { data := List.toArray (Prod.fst (Prod.snd (Prod.snd (Prod.snd x)))) }, AV.int IntKind.i64 (Prod.fst (Prod.snd (Prod.snd (Prod.snd (Prod.snd x))))),
        AV.int IntKind.i64 (Prod.snd (Prod.snd (Prod.snd (Prod.snd (Prod.snd x)))))]] ∧
        condP x_2
        (condP (decide (Prod.fst (Prod.snd (Prod.snd x)) ≥ (0 : Int)))
        (condP (decide (Prod.fst (Prod.snd (Prod.snd x)) < (1000000000 : Int)))
        (Post (AV.bool q)
        [AObj.cells
        [AV.int IntKind.i64 (Prod.fst x), AV.str { data := List.toArray (Prod.fst (Prod.snd x)) }, AV.int IntKind.i64 (Prod.fst (Prod.snd (Prod.snd x))),
        AV.str { data := List.toArray (Prod.fst (Prod.snd (Prod.snd (Prod.snd x)))) }, AV.int IntKind.i64 (Prod.fst (Prod.snd (Prod.snd (Prod.snd (Prod.snd x))))),
        AV.int IntKind.i64 (Prod.snd (Prod.snd (Prod.snd (Prod.snd (Prod.snd x)))))]])
        (Post (AV.bool false)
        [AObj.cells
        [AV.int IntKind.i64 (Prod.fst x), AV.str { data := List.toArray (Prod.fst (Prod.snd x)) }, AV.int IntKind.i64 (Prod.fst (Prod.snd (Prod.snd x))),
        AV.str { data := List.toArray (Prod.fst (Prod.snd (Prod.snd (Prod.snd x)))) }, AV.int IntKind.i64 (Prod.fst (Prod.snd (Prod.snd (Prod.snd (Prod.snd x))))),
        AV.int IntKind.i64 (Prod.snd (Prod.snd (Prod.snd (Prod.snd (Prod.snd x)))))]]))
        (Post (AV.bool false)
        [AObj.cells
        [AV.int IntKind.i64 (Prod.fst x), AV.str { data := List.toArray (Prod.fst (Prod.snd x)) }, AV.int IntKind.i64 (Prod.fst (Prod.snd (Prod.snd x))),
        AV.str { data := List.toArray (Prod.fst (Prod.snd (Prod.snd (Prod.snd x)))) }, AV.int IntKind.i64 (Prod.fst (Prod.snd (Prod.snd (Prod.snd (Prod.snd x))))),
        AV.int IntKind.i64 (Prod.snd (Prod.snd (Prod.snd (Prod.snd (Prod.snd x)))))]]))
        (Post (AV.bool false)
        [AObj.cells
        [AV.int IntKind.i64 (Prod.fst x), AV.str { data := List.toArray (Prod.fst (Prod.snd x)) }, AV.int IntKind.i64 (Prod.fst (Prod.snd (Prod.snd x))),
        AV.str { data := List.toArray (Prod.fst (Prod.snd (Prod.snd (Prod.snd x)))) }, AV.int IntKind.i64 (Prod.fst (Prod.snd (Prod.snd (Prod.snd (Prod.snd x))))),
        AV.int IntKind.i64 (Prod.snd (Prod.snd (Prod.snd (Prod.snd (Prod.snd x)))))]]))
        (Post (AV.bool false)
        [AObj.cells
        [AV.int IntKind.i64 (Prod.fst x), AV.str { data := List.toArray (Prod.fst (Prod.snd x)) }, AV.int IntKind.i64 (Prod.fst (Prod.snd (Prod.snd x))),
        AV.str { data := List.toArray (Prod.fst (Prod.snd (Prod.snd (Prod.snd x)))) }, AV.int IntKind.i64 (Prod.fst (Prod.snd (Prod.snd (Prod.snd (Prod.snd x))))),
        AV.int IntKind.i64 (Prod.snd (Prod.snd (Prod.snd (Prod.snd (Prod.snd x)))))]]))
        (condP (Prod.fst x == (4 : Int))
        (ASpec Try.prog 154 [AV.str { data := List.toArray (Prod.fst (Prod.snd x)) }]
        [AObj.cells
        [AV.int IntKind.i64 (Prod.fst x), AV.str { data := List.toArray (Prod.fst (Prod.snd x)) }, AV.int IntKind.i64 (Prod.fst (Prod.snd (Prod.snd x))),
        AV.str { data := List.toArray (Prod.fst (Prod.snd (Prod.snd (Prod.snd x)))) }, AV.int IntKind.i64 (Prod.fst (Prod.snd (Prod.snd (Prod.snd (Prod.snd x))))),
        AV.int IntKind.i64 (Prod.snd (Prod.snd (Prod.snd (Prod.snd (Prod.snd x)))))]]
        fun (r : AV) (H' : List AObj) =>
        ∃ (x_1 : Bool),
        r = AV.bool x_1 ∧
        H' =
        [AObj.cells
        [AV.int IntKind.i64 (Prod.fst x), AV.str { data := List.toArray (Prod.fst (Prod.snd x)) }, AV.int IntKind.i64 (Prod.fst (Prod.snd (Prod.snd x))),
        AV.str { data := List.toArray (Prod.fst (Prod.snd (Prod.snd (Prod.snd x)))) }, AV.int IntKind.i64 (Prod.fst (Prod.snd (Prod.snd (Prod.snd (Prod.snd x))))),
        AV.int IntKind.i64 (Prod.snd (Prod.snd (Prod.snd (Prod.snd (Prod.snd x)))))]] ∧
        condP x_1
        (condP p
        (condP
        (decide
        ((if Prod.snd (Prod.snd (Prod.snd (Prod.snd (Prod.snd x)))) < Prod.fst (Prod.snd (Prod.snd (Prod.snd (Prod.snd x)))) then
        Prod.snd (Prod.snd (Prod.snd (Prod.snd (Prod.snd x))))
        else Prod.fst (Prod.snd (Prod.snd (Prod.snd (Prod.snd x))))) ≥
        (0 : Int)))
        (Post
        (AV.bool
        (decide
        ((if Prod.snd (Prod.snd (Prod.snd (Prod.snd (Prod.snd x)))) > Prod.fst (Prod.snd (Prod.snd (Prod.snd (Prod.snd x)))) then
        Prod.snd (Prod.snd (Prod.snd (Prod.snd (Prod.snd x))))
        else Prod.fst (Prod.snd (Prod.snd (Prod.snd (Prod.snd x))))) <
        i)))
        [AObj.cells
        [AV.int IntKind.i64 (Prod.fst x), AV.str { data := List.toArray (Prod.fst (Prod.snd x)) }, AV.int IntKind.i64 (Prod.fst (Prod.snd (Prod.snd x))),
        AV.str { data := List.toArray (Prod.fst (Prod.snd (Prod.snd (Prod.snd x)))) }, AV.int IntKind.i64 (Prod.fst (Prod.snd (Prod.snd (Prod.snd (Prod.snd x))))),
        AV.int IntKind.i64 (Prod.snd (Prod.snd (Prod.snd (Prod.snd (Prod.snd x)))))]])
        (Post (AV.bool false)
        [AObj.cells
        [AV.int IntKind.i64 (Prod.fst x), AV.str { data := List.toArray (Prod.fst (Prod.snd x)) }, AV.int IntKind.i64 (Prod.fst (Prod.snd (Prod.snd x))),
        AV.str { data := List.toArray (Prod.fst (Prod.snd (Prod.snd (Prod.snd x)))) }, AV.int IntKind.i64 (Prod.fst (Prod.snd (Prod.snd (Prod.snd (Prod.snd x))))),
        AV.int IntKind.i64 (Prod.snd (Prod.snd (Prod.snd (Prod.snd (Prod.snd x)))))]]))
        (Post (AV.bool false)
        [AObj.cells
        [AV.int IntKind.i64 (Prod.fst x), AV.str { data := List.toArray (Prod.fst (Prod.snd x)) }, AV.int IntKind.i64 (Prod.fst (Prod.snd (Prod.snd x))),
        AV.str { data := List.toArray (Prod.fst (Prod.snd (Prod.snd (Prod.snd x)))) }, AV.int IntKind.i64 (Prod.fst (Prod.snd (Prod.snd (Prod.snd (Prod.snd x))))),
        AV.int IntKind.i64 (Prod.snd (Prod.snd (Prod.snd (Prod.snd (Prod.snd x)))))]]))
        (Post (AV.bool false)
        [AObj.cells
        [AV.int IntKind.i64 (Prod.fst x), AV.str { data := List.toArray (Prod.fst (Prod.snd x)) }, AV.int IntKind.i64 (Prod.fst (Prod.snd (Prod.snd x))),
        AV.str { data := List.toArray (Prod.fst (Prod.snd (Prod.snd (Prod.snd x)))) }, AV.int IntKind.i64 (Prod.fst (Prod.snd (Prod.snd (Prod.snd (Prod.snd x))))),
        AV.int IntKind.i64 (Prod.snd (Prod.snd (Prod.snd (Prod.snd (Prod.snd x)))))]]))
        (Post (AV.bool false)
        [AObj.cells
        [AV.int IntKind.i64 (Prod.fst x), AV.str { data := List.toArray (Prod.fst (Prod.snd x)) }, AV.int IntKind.i64 (Prod.fst (Prod.snd (Prod.snd x))),
        AV.str { data := List.toArray (Prod.fst (Prod.snd (Prod.snd (Prod.snd x)))) }, AV.int IntKind.i64 (Prod.fst (Prod.snd (Prod.snd (Prod.snd (Prod.snd x))))),
        AV.int IntKind.i64 (Prod.snd (Prod.snd (Prod.snd (Prod.snd (Prod.snd x)))))]])))) →
    AWP Try.prog 85 n c226_3 [(1, AV.int IntKind.i64 i), (2, AV.ptr 0 0), (5, AV.bool p), (6, AV.bool q)] [AObj.cells (T.encSt x)]
      (q226_0 n Post) := fun x i p q n Post h => Go.Ab.awp_sound g226 n _ _ _ _ (Go.Ab.kc (by kernel_rfl) h)

-- 123
noncomputable def l123 : Nat → List Nat
  | 4 => [13, 14, 15]
  | _ => []
noncomputable def u123 : Nat → Bool
  | _ => false
noncomputable def m123 : Nat → Bool
  | _ => false
noncomputable def g123 : Cfg := { N := 25, live := l123, cut := u123, mu := m123, ret := rets }
noncomputable def c123 : Go.Code := Go.Ab.bodyOf Go.Proofs.Try.f123
noncomputable def q123_0 : Nat → (AV → List AObj → Prop) → AQ := fun (n : Nat) (Post : AV → List AObj → Prop) => endQ Try.prog (resultsOf Try.f123) Post
noncomputable def q123_1 : Nat → (AV → List AObj → Prop) → AQ := fun (n : Nat) (Post : AV → List AObj → Prop) => seqQ (fun (s' : Slots) (H' : List AObj) => awp Try.prog g123 n (codeSnd (codeSnd (codeSnd c123))) s' H' (q123_0 n Post)) (q123_0 n Post)
noncomputable def q123_2 : Nat → (AV → List AObj → Prop) → AQ := fun (n : Nat) (Post : AV → List AObj → Prop) => blockQ 0 (q123_1 n Post)
noncomputable def c123_4 : Go.Code := codeFst (codeSnd (codeFst (codeSnd (codeSnd c123))))
theorem s123 : ∀ (l : List T.St) (Post : AV → List AObj → Prop),
  condP ((↑(List.length l) : Int) == (0 : Int)) (Post (AV.bool false) [])
      (condP (decide ((↑(List.length l) : Int) > (1048576 : Int))) (Post (AV.bool false) [])
        (AWP Try.prog 25 0 c123_4
        [(13, AV.sl 6 (Seq.map T.encSt T.noSt l) Tip.none), (14, AV.int IntKind.i64 (↑(List.length l) : Int)), (15, AV.int IntKind.i64 (0 : Int))] []
        (q123_2 0 Post))) →
    ASpec Try.prog 123 [AV.sl 6 (Seq.map T.encSt T.noSt l) Tip.none] [] Post := fun l Post h => Go.Ab.ASpec.of_vc g123 Go.Proofs.Try.func123 (by kernel_rfl) (by kernel_rfl) (by kernel_rfl) (Go.Ab.kc (by kernel_rfl) h)
theorem v123_4 : ∀ (l : List T.St) (n i : Int) (n_1 : Nat) (Post : AV → List AObj → Prop),
  condP (decide (i < n))
      (needP ((0 : Int) ≤ i ∧ i < (↑(List.length l) : Int))
        (ASpec Try.prog 226
        [AV.agg
        [AV.int IntKind.i64 (Prod.fst (List.getD l (Int.toNat i) T.noSt)), AV.str { data := List.toArray (Prod.fst (Prod.snd (List.getD l (Int.toNat i) T.noSt))) },
        AV.int IntKind.i64 (Prod.fst (Prod.snd (Prod.snd (List.getD l (Int.toNat i) T.noSt)))),
        AV.str { data := List.toArray (Prod.fst (Prod.snd (Prod.snd (Prod.snd (List.getD l (Int.toNat i) T.noSt))))) },
        AV.int IntKind.i64 (Prod.fst (Prod.snd (Prod.snd (Prod.snd (Prod.snd (List.getD l (Int.toNat i) T.noSt)))))),
        AV.int IntKind.i64 (Prod.snd (Prod.snd (Prod.snd (Prod.snd (Prod.snd (List.getD l (Int.toNat i) T.noSt))))))],
        AV.int IntKind.i64 i]
        [AObj.cells
        [AV.int IntKind.i64 (Prod.fst (List.getD l (Int.toNat i) T.noSt)), AV.str { data := List.toArray (Prod.fst (Prod.snd (List.getD l (Int.toNat i) T.noSt))) },
        AV.int IntKind.i64 (Prod.fst (Prod.snd (Prod.snd (List.getD l (Int.toNat i) T.noSt)))),
        AV.str { data := List.toArray (Prod.fst (Prod.snd (Prod.snd (Prod.snd (List.getD l (Int.toNat i) T.noSt))))) },
        AV.int IntKind.i64 (Prod.fst (Prod.snd (Prod.snd (Prod.snd (Prod.snd (List.getD l (Int.toNat i) T.noSt)))))),
        AV.int IntKind.i64 (Prod.snd (Prod.snd (Prod.snd (Prod.snd (Prod.snd (List.getD l (Int.toNat i) T.noSt))))))]]
        fun (r : AV) (H' : List AObj) =>
        ∃ (x : Bool),
        r = AV.bool x ∧
        H' =
        [AObj.cells
        [AV.int IntKind.i64 (Prod.fst (List.getD l (Int.toNat i) T.noSt)), AV.str { data := List.toArray (Prod.fst (Prod.snd (List.getD l (Int.toNat i) T.noSt))) },
        AV.int IntKind.i64 (Prod.fst (Prod.snd (Prod.snd (List.getD l (Int.toNat i) T.noSt)))),
        AV.str { data := List.toArray (Prod.fst (Prod.snd (Prod.snd (Prod.snd (List.getD l (Int.toNat i) T.noSt))))) },
        AV.int IntKind.i64 (Prod.fst (Prod.snd (Prod.snd (Prod.snd (Prod.snd (List.getD l (Int.toNat i) T.noSt)))))),
        AV.int IntKind.i64 (Prod.snd (Prod.snd (Prod.snd (Prod.snd (Prod.snd (List.getD l (Int.toNat i) T.noSt))))))]] ∧
        condP (!x)
        (Post (AV.bool false)
        [AObj.cells
        [AV.int IntKind.i64 (Prod.fst (List.getD l (Int.toNat i) T.noSt)), AV.str { data := List.toArray (Prod.fst (Prod.snd (List.getD l (Int.toNat i) T.noSt))) },
        AV.int IntKind.i64 (Prod.fst (Prod.snd (Prod.snd (List.getD l (Int.toNat i) T.noSt)))),
        AV.str { data := List.toArray (Prod.fst (Prod.snd (Prod.snd (Prod.snd (List.getD l (Int.toNat i) T.noSt))))) },
        AV.int IntKind.i64 (Prod.fst (Prod.snd (Prod.snd (Prod.snd (Prod.snd (List.getD l (Int.toNat i) T.noSt)))))),
        AV.int IntKind.i64 (Prod.snd (Prod.snd (Prod.snd (Prod.snd (Prod.snd (List.getD l (Int.toNat i) T.noSt))))))]])
        (AWP Try.prog 25 n_1 c123_4
        [(13, AV.sl 6 (Seq.map T.encSt T.noSt l) Tip.none), (14, AV.int IntKind.i64 n), (15, AV.int IntKind.i64 (IntKind.wrap IntKind.i64 (i + (1 : Int))))]
        [AObj.cells
        [AV.int IntKind.i64 (Prod.fst (List.getD l (Int.toNat i) T.noSt)), AV.str { data := List.toArray (Prod.fst (Prod.snd (List.getD l (Int.toNat i) T.noSt))) },
        AV.int IntKind.i64 (Prod.fst (Prod.snd (Prod.snd (List.getD l (Int.toNat i) T.noSt)))),
        AV.str { data := List.toArray (Prod.fst (Prod.snd (Prod.snd (Prod.snd (List.getD l (Int.toNat i) T.noSt))))) },
        AV.int IntKind.i64 (Prod.fst (Prod.snd (Prod.snd (Prod.snd (Prod.snd (List.getD l (Int.toNat i) T.noSt)))))),
        AV.int IntKind.i64 (Prod.snd (Prod.snd (Prod.snd (Prod.snd (Prod.snd (List.getD l (Int.toNat i) T.noSt))))))]]
        (q123_2 n_1 Post))))
      (Post (AV.bool true) []) →
    AWP Try.prog 25 n_1 c123_4 [(13, AV.sl 6 (Seq.map T.encSt T.noSt l) Tip.none), (14, AV.int IntKind.i64 n), (15, AV.int IntKind.i64 i)] [] (q123_2 n_1 Post) := fun l n i n Post h => Go.Ab.AWP.loop' g123 (Cfg.live g123) c123_4 (by kernel_rfl) (by kernel_rfl) (Go.Ab.kc (by kernel_rfl) h)

-- 152
noncomputable def l18 : Nat → List Nat
  | 4 => [0, 3]
  | _ => []
noncomputable def u18 : Nat → Bool
  | _ => false
noncomputable def m18 : Nat → Bool
  | _ => false
noncomputable def g18 : Cfg := { N := 39, live := l18, cut := u18, mu := m18, ret := rets }
noncomputable def c18 : Go.Code := Go.Ab.bodyOf Go.Proofs.Try.f18
noncomputable def q18_0 : Nat → (AV → List AObj → Prop) → AQ := fun (n : Nat) (Post : AV → List AObj → Prop) => endQ Try.prog (resultsOf Try.f18) Post
noncomputable def q18_1 : Nat → (AV → List AObj → Prop) → AQ := fun (n : Nat) (Post : AV → List AObj → Prop) => seqQ (fun (s' : Slots) (H' : List AObj) => awp Try.prog g18 n (codeSnd (codeSnd (codeSnd c18))) s' H' (q18_0 n Post)) (q18_0 n Post)
noncomputable def q18_2 : Nat → (AV → List AObj → Prop) → AQ := fun (n : Nat) (Post : AV → List AObj → Prop) => blockQ 0 (q18_1 n Post)
noncomputable def c18_4 : Go.Code := codeFst (codeSnd (codeFst (codeSnd (codeSnd c18))))
theorem s18 : ∀ (l : List T.St) (Post : AV → List AObj → Prop),
  condP (decide ((↑(List.length l) : Int) > (300 : Int)))
      (condP (decide ((↑(List.length l) : Int) ≤ (1048576 : Int))) (Post (AV.bool true) [])
        (condP (decide ((↑(List.length l) : Int) > (1048586 : Int))) (Post (AV.bool true) [])
        (AWP Try.prog 39 0 c18_4 [(0, AV.sl 6 (Seq.map T.encSt T.noSt l) Tip.none), (3, AV.int IntKind.i64 (0 : Int))] [] (q18_2 0 Post))))
      (condP (decide ((↑(List.length l) : Int) > (1048586 : Int))) (Post (AV.bool true) [])
        (AWP Try.prog 39 0 c18_4 [(0, AV.sl 6 (Seq.map T.encSt T.noSt l) Tip.none), (3, AV.int IntKind.i64 (0 : Int))] [] (q18_2 0 Post))) →
    ASpec Try.prog 18 [AV.sl 6 (Seq.map T.encSt T.noSt l) Tip.none] [] Post := fun l Post h => Go.Ab.ASpec.of_vc g18 Go.Proofs.Try.func18 (by kernel_rfl) (by kernel_rfl) (by kernel_rfl) (Go.Ab.kc (by kernel_rfl) h)
theorem v18_4 : ∀ (l : List T.St) (i : Int) (n : Nat) (Post : AV → List AObj → Prop),
  condP (decide (i < (↑(List.length l) : Int)))
      (needP ((0 : Int) ≤ i ∧ i < (↑(List.length l) : Int))
        (condP (decide ((↑(ByteArray.size { data := List.toArray (Prod.fst (Prod.snd (List.getD l (Int.toNat i) T.noSt))) }) : Int) > (100 : Int))) (Post (AV.bool true) [])
        (needP ((0 : Int) ≤ i ∧ i < (↑(List.length l) : Int))
        (condP (decide ((↑(ByteArray.size { data := List.toArray (Prod.fst (Prod.snd (Prod.snd (Prod.snd (List.getD l (Int.toNat i) T.noSt))))) }) : Int) > (100 : Int))) (Post (AV.bool true) [])
        (AWP Try.prog 39 n c18_4 [(0, AV.sl 6 (Seq.map T.encSt T.noSt l) Tip.none), (3, AV.int IntKind.i64 (IntKind.wrap IntKind.i64 (i + (1 : Int))))] []
        (q18_2 n Post))))))
      (Post (AV.bool false) []) →
    AWP Try.prog 39 n c18_4 [(0, AV.sl 6 (Seq.map T.encSt T.noSt l) Tip.none), (3, AV.int IntKind.i64 i)] [] (q18_2 n Post) := fun l i n Post h => Go.Ab.AWP.loop' g18 (Cfg.live g18) c18_4 (by kernel_rfl) (by kernel_rfl) (Go.Ab.kc (by kernel_rfl) h)

-- 20
noncomputable def l228 : Nat → List Nat
  | _ => []
noncomputable def u228 : Nat → Bool
  | _ => false
noncomputable def m228 : Nat → Bool
  | _ => false
noncomputable def g228 : Cfg := { N := 4, live := l228, cut := u228, mu := m228, ret := rets }
theorem s228 : ∀ (l : List T.St) (Post : AV → List AObj → Prop),
  Post (AV.fn 309 [AV.ptr 0 0]) [AObj.cells [AV.sl 6 (Seq.map T.encSt T.noSt l) Tip.none]] →
    ASpec Try.prog 228 [AV.sl 6 (Seq.map T.encSt T.noSt l) Tip.none] [] Post := fun l Post h => Go.Ab.ASpec.of_vc g228 Go.Proofs.Try.func228 (by kernel_rfl) (by kernel_rfl) (by kernel_rfl) (Go.Ab.kc (by kernel_rfl) h)

-- 309
noncomputable def l309 : Nat → List Nat
  | 1 => [0, 1, 3]
  | _ => []
noncomputable def u309 : Nat → Bool
  | _ => false
noncomputable def m309 : Nat → Bool
  | _ => false
noncomputable def g309 : Cfg := { N := 19, live := l309, cut := u309, mu := m309, ret := rets }
noncomputable def c309 : Go.Code := Go.Ab.bodyOf Go.Proofs.Try.f309
noncomputable def q309_0 : Nat → (AV → List AObj → Prop) → AQ := fun (n : Nat) (Post : AV → List AObj → Prop) => endQ Try.prog (resultsOf Try.f309) Post
noncomputable def q309_1 : Nat → (AV → List AObj → Prop) → AQ := fun (n : Nat) (Post : AV → List AObj → Prop) => blockQ 0 (q309_0 n Post)
noncomputable def c309_1 : Go.Code := codeFst (codeSnd c309)
theorem s309 : ∀ (l : List T.St) (u : List Bool) (n : Nat) (o : AObj) (Post : AV → List AObj → Prop),
  AWP Try.prog 19 4 c309_1
      [(0, AV.yld 3), (1, AV.ptr 2 0), (3, AV.int IntKind.i64 (IntKind.wrap IntKind.i64 ((↑(List.length l) : Int) - (1 : Int))))]
      [AObj.arr 1 (Seq.map T.encBo false u), AObj.cells [AV.msl 1 0 0 n], AObj.cells [AV.sl 6 (Seq.map T.encSt T.noSt l) Tip.none], o] (q309_1 4 Post) →
    ASpec Try.prog 309 [AV.yld 3, AV.ptr 2 0]
      [AObj.arr 1 (Seq.map T.encBo false u), AObj.cells [AV.msl 1 0 0 n], AObj.cells [AV.sl 6 (Seq.map T.encSt T.noSt l) Tip.none], o] Post := fun l u n o Post h => Go.Ab.ASpec.of_vc g309 Go.Proofs.Try.func309 (by kernel_rfl) (by kernel_rfl) (by kernel_rfl) (Go.Ab.kc (by kernel_rfl) h)
theorem v309_1 : ∀ (l : List T.St) (u : List Bool) (n : Nat) (o : AObj) (i : Int) (n_1 : Nat) (Post : AV → List AObj → Prop),
  condP (decide (i ≥ (0 : Int)))
      (needP ((0 : Int) ≤ i ∧ i < (↑(List.length l) : Int))
        (AYield Try.prog 3
        [AV.int IntKind.i64 i,
        AV.agg
        [AV.int IntKind.i64 (Prod.fst (List.getD l (Int.toNat i) T.noSt)), AV.str { data := List.toArray (Prod.fst (Prod.snd (List.getD l (Int.toNat i) T.noSt))) },
        AV.int IntKind.i64 (Prod.fst (Prod.snd (Prod.snd (List.getD l (Int.toNat i) T.noSt)))),
        AV.str { data := List.toArray (Prod.fst (Prod.snd (Prod.snd (Prod.snd (List.getD l (Int.toNat i) T.noSt))))) },
        AV.int IntKind.i64 (Prod.fst (Prod.snd (Prod.snd (Prod.snd (Prod.snd (List.getD l (Int.toNat i) T.noSt)))))),
        AV.int IntKind.i64 (Prod.snd (Prod.snd (Prod.snd (Prod.snd (Prod.snd (List.getD l (Int.toNat i) T.noSt))))))]]
        [AObj.arr 1 (Seq.map T.encBo false u), AObj.cells [AV.msl 1 0 0 n], AObj.cells [AV.sl 6 (Seq.map T.encSt T.noSt l) Tip.none], o]
        fun (r : AV) (H' : List AObj) =>
        ∃ (x : List Bool),
        r = AV.bool true ∧
        H' = [AObj.arr 1 (Seq.map T.encBo false x), AObj.cells [AV.msl 1 0 0 n], AObj.cells [AV.sl 6 (Seq.map T.encSt T.noSt l) Tip.none], o] ∧
        AWP Try.prog 19 n_1 c309_1 [(0, AV.yld 3), (1, AV.ptr 2 0), (3, AV.int IntKind.i64 (IntKind.wrap IntKind.i64 (i - (1 : Int))))]
        [AObj.arr 1 (Seq.map T.encBo false x), AObj.cells [AV.msl 1 0 0 n], AObj.cells [AV.sl 6 (Seq.map T.encSt T.noSt l) Tip.none], o]
        (q309_1 n_1 Post)))
      (Post (AV.tup []) [AObj.arr 1 (Seq.map T.encBo false u), AObj.cells [AV.msl 1 0 0 n], AObj.cells [AV.sl 6 (Seq.map T.encSt T.noSt l) Tip.none], o]) →
    AWP Try.prog 19 n_1 c309_1 [(0, AV.yld 3), (1, AV.ptr 2 0), (3, AV.int IntKind.i64 i)]
      [AObj.arr 1 (Seq.map T.encBo false u), AObj.cells [AV.msl 1 0 0 n], AObj.cells [AV.sl 6 (Seq.map T.encSt T.noSt l) Tip.none], o] (q309_1 n_1 Post) := fun l u n o i n Post h => Go.Ab.AWP.loop' g309 (Cfg.live g309) c309_1 (by kernel_rfl) (by kernel_rfl) (Go.Ab.kc (by kernel_rfl) h)

-- 125
noncomputable def l125 : Nat → List Nat
  | 2 => [0, 3]
  | 3 => [0, 3]
  | 6 => [3, 20, 21]
  | 8 => [0, 3]
  | 11 => [3, 6, 7, 42, 43, 44]
  | 16 => [3, 6, 7, 8, 9, 42, 43, 44]
  | _ => []
noncomputable def u125 : Nat → Bool
  | 2 => true
  | 3 => true
  | 8 => true
  | 16 => true
  | _ => false
noncomputable def m125 : Nat → Bool
  | 12 => true
  | 41 => true
  | _ => false
noncomputable def g125 : Cfg := { N := 80, live := l125, cut := u125, mu := m125, ret := rets }
noncomputable def g125r : Cfg := { N := 80, live := l125, cut := u125, mu := m125, ret := rets, rnd := true }
noncomputable def c125 : Go.Code := Go.Ab.bodyOf Go.Proofs.Try.f125
noncomputable def q125_0 : Nat → (AV → List AObj → Prop) → AQ := fun (n : Nat) (Post : AV → List AObj → Prop) => endQ Try.prog (resultsOf Try.f125) Post
noncomputable def c125_2 : Go.Code := codeSnd (codeSnd c125)
theorem s125 : ∀ (l : List T.St) (Post : AV → List AObj → Prop),
  needP
      ((0 : Int) ≤ (↑(List.length l) : Int) ∧
        (↑(List.length l) : Int) ≤ (↑(List.length l) : Int) ∧ (↑(List.length l) : Int) ≤ (9223372036854775807 : Int) ∧ (1 : Int) * (↑(List.length l) : Int) ≤ (281474976710656 : Int))
      (AWP Try.prog 80 0 c125_2 [(0, AV.sl 6 (Seq.map T.encSt T.noSt l) Tip.none), (3, AV.ptr 1 0)]
        [AObj.arr 1 (Seq.raw (List.replicate (List.length l) [AV.bool false])), AObj.cells [AV.msl 1 0 0 (List.length l)]] (q125_0 0 Post)) →
    ASpec Try.prog 125 [AV.sl 6 (Seq.map T.encSt T.noSt l) Tip.none] [] Post := fun l Post h => Go.Ab.ASpec.of_vc g125 Go.Proofs.Try.func125 (by kernel_rfl) (by kernel_rfl) (by kernel_rfl) (Go.Ab.kc (by kernel_rfl) h)
noncomputable def c125_3 : Go.Code := codeSnd c125_2
theorem v125_2 : ∀ (l : List T.St) (u : List Bool) (n : Nat) (Post : AV → List AObj → Prop),
  needP ((0 : Int) ≤ IntKind.wrap IntKind.i64 ((↑(List.length l) : Int) - (1 : Int)) ∧ IntKind.wrap IntKind.i64 ((↑(List.length l) : Int) - (1 : Int)) < (↑(List.length u) : Int))
      (needP (0 + Int.toNat (IntKind.wrap IntKind.i64 ((↑(List.length l) : Int) - (1 : Int))) < List.length u)
        (AWP Try.prog 80 n c125_3 [(0, AV.sl 6 (Seq.map T.encSt T.noSt l) Tip.none), (3, AV.ptr 1 0)]
        [AObj.arr 1 (Seq.raw (List.set (Seq.toList (Seq.map T.encBo false u)) (0 + Int.toNat (IntKind.wrap IntKind.i64 ((↑(List.length l) : Int) - (1 : Int)))) [AV.bool true])),
        AObj.cells [AV.msl 1 0 0 (List.length u)]]
        (q125_0 n Post))) →
    AWP Try.prog 80 n c125_2 [(0, AV.sl 6 (Seq.map T.encSt T.noSt l) Tip.none), (3, AV.ptr 1 0)]
      [AObj.arr 1 (Seq.map T.encBo false u), AObj.cells [AV.msl 1 0 0 (List.length u)]] (q125_0 n Post) := fun l u n Post h => Go.Ab.awp_sound g125 n _ _ _ _ (Go.Ab.kc (by kernel_rfl) h)
noncomputable def c125_8 : Go.Code := codeSnd c125_3
noncomputable def q125_1 : Nat → (AV → List AObj → Prop) → AQ := fun (n : Nat) (Post : AV → List AObj → Prop) => seqQ (fun (s' : Slots) (H' : List AObj) => AWP Try.prog (Cfg.N g125) n c125_8 (restrict s' (Cfg.live g125 8)) H' (q125_0 n Post)) (q125_0 n Post)
noncomputable def q125_2 : Nat → (AV → List AObj → Prop) → AQ := fun (n : Nat) (Post : AV → List AObj → Prop) => blockQ 0 (q125_1 n Post)
noncomputable def c125_6 : Go.Code := codeFst (codeFst (codeSnd (codeFst c125_3)))
noncomputable def c125_6a : Go.Code := codeAsg (codeFst (codeSnd (codeFst c125_3)))
theorem v125_3 : ∀ (l : List T.St) (u : List Bool) (n : Nat) (Post : AV → List AObj → Prop),
  (ASpec Try.prog 228 [AV.sl 6 (Seq.map T.encSt T.noSt l) Tip.none] [AObj.arr 1 (Seq.map T.encBo false u), AObj.cells [AV.msl 1 0 0 (List.length u)]]
      fun (r : AV) (H' : List AObj) =>
      ∃ (x : Unit),
        r = AV.fn (309 : FuncId) [AV.ptr 2 0] ∧
        H' = [AObj.arr 1 (Seq.map T.encBo false u), AObj.cells [AV.msl 1 0 0 (List.length u)], AObj.cells [AV.sl 6 (Seq.map T.encSt T.noSt l) Tip.none]] ∧
        ASpec Try.prog 309 [AV.yld 3, AV.ptr 2 0]
        [AObj.arr 1 (Seq.map T.encBo false u), AObj.cells [AV.msl 1 0 0 (List.length u)], AObj.cells [AV.sl 6 (Seq.map T.encSt T.noSt l) Tip.none],
        AObj.lp 80 [(3, AV.ptr 1 0), (20, AV.bad), (21, AV.bad)] [20, 21] c125_6a c125_6 LpSt.ready]
        fun (r : AV) (H' : List AObj) =>
        rangeEnd (q125_2 n Post)
        [(19, AV.fn (309 : FuncId) [AV.ptr 2 0]), (18, AV.sl 6 (Seq.map T.encSt T.noSt l) Tip.none),
        (0, AV.sl 6 (Seq.map T.encSt T.noSt l) Tip.none), (3, AV.ptr 1 0)]
        3 H') →
    AWP Try.prog 80 n c125_3 [(0, AV.sl 6 (Seq.map T.encSt T.noSt l) Tip.none), (3, AV.ptr 1 0)]
      [AObj.arr 1 (Seq.map T.encBo false u), AObj.cells [AV.msl 1 0 0 (List.length u)]] (q125_0 n Post) := fun l u n Post h => Go.Ab.awp_sound g125 n _ _ _ _ (Go.Ab.kc (by kernel_rfl) h)
theorem v125_6 : ∀ (l : List T.St) (u : List Bool) (i : Int) (x : T.St) (o o' : AObj) (n : Nat) (Post : AV → List AObj → Prop) (Qr : AQ),
  needP (o = o)
      (needP ((0 : Int) ≤ i ∧ i < (↑(List.length u) : Int))
        (needP (0 + Int.toNat i < List.length u)
        (condP (List.getD u (0 + Int.toNat i) false)
        (condP (Prod.fst x == (4 : Int))
        (needP ((0 : Int) ≤ Prod.fst (Prod.snd (Prod.snd (Prod.snd (Prod.snd x)))) ∧ Prod.fst (Prod.snd (Prod.snd (Prod.snd (Prod.snd x)))) < (↑(List.length u) : Int))
        (needP (0 + Int.toNat (Prod.fst (Prod.snd (Prod.snd (Prod.snd (Prod.snd x))))) < List.length u)
        ((AV.int IntKind.i64 (Prod.snd (Prod.snd (Prod.snd (Prod.snd (Prod.snd x))))) = AV.int IntKind.i64 (Prod.snd (Prod.snd (Prod.snd (Prod.snd (Prod.snd x))))) ∧
        [AObj.arr 1 (Seq.raw (List.set (Seq.toList (Seq.map T.encBo false u)) (0 + Int.toNat (Prod.fst (Prod.snd (Prod.snd (Prod.snd (Prod.snd x)))))) [AV.bool true])),
        AObj.cells [AV.msl 1 0 0 (List.length u)], AObj.cells [AV.sl 6 (Seq.map T.encSt T.noSt l) Tip.none], o',
        AObj.cells
        [AV.int IntKind.i64 (Prod.fst x), AV.str { data := List.toArray (Prod.fst (Prod.snd x)) }, AV.int IntKind.i64 (Prod.fst (Prod.snd (Prod.snd x))),
        AV.str { data := List.toArray (Prod.fst (Prod.snd (Prod.snd (Prod.snd x)))) }, AV.int IntKind.i64 (Prod.fst (Prod.snd (Prod.snd (Prod.snd (Prod.snd x))))),
        AV.int IntKind.i64 (Prod.snd (Prod.snd (Prod.snd (Prod.snd (Prod.snd x)))))]] =
        [AObj.arr 1 (Seq.raw (List.set (Seq.toList (Seq.map T.encBo false u)) (0 + Int.toNat (Prod.fst (Prod.snd (Prod.snd (Prod.snd (Prod.snd x)))))) [AV.bool true])),
        AObj.cells [AV.msl 1 0 0 (List.length u)], AObj.cells [AV.sl 6 (Seq.map T.encSt T.noSt l) Tip.none], o',
        AObj.cells
        [AV.int IntKind.i64 (Prod.fst x), AV.str { data := List.toArray (Prod.fst (Prod.snd x)) }, AV.int IntKind.i64 (Prod.fst (Prod.snd (Prod.snd x))),
        AV.str { data := List.toArray (Prod.fst (Prod.snd (Prod.snd (Prod.snd x)))) }, AV.int IntKind.i64 (Prod.fst (Prod.snd (Prod.snd (Prod.snd (Prod.snd x))))),
        AV.int IntKind.i64 (Prod.snd (Prod.snd (Prod.snd (Prod.snd (Prod.snd x)))))]]) ∧
        (AV.msl 1 0 0 (List.length u) = AV.msl 1 0 0 (List.length u) ∧
        [AObj.arr 1 (Seq.raw (List.set (Seq.toList (Seq.map T.encBo false u)) (0 + Int.toNat (Prod.fst (Prod.snd (Prod.snd (Prod.snd (Prod.snd x)))))) [AV.bool true])),
        AObj.cells [AV.msl 1 0 0 (List.length u)], AObj.cells [AV.sl 6 (Seq.map T.encSt T.noSt l) Tip.none], o',
        AObj.cells
        [AV.int IntKind.i64 (Prod.fst x), AV.str { data := List.toArray (Prod.fst (Prod.snd x)) }, AV.int IntKind.i64 (Prod.fst (Prod.snd (Prod.snd x))),
        AV.str { data := List.toArray (Prod.fst (Prod.snd (Prod.snd (Prod.snd x)))) }, AV.int IntKind.i64 (Prod.fst (Prod.snd (Prod.snd (Prod.snd (Prod.snd x))))),
        AV.int IntKind.i64 (Prod.snd (Prod.snd (Prod.snd (Prod.snd (Prod.snd x)))))]] =
        [AObj.arr 1
        (Seq.raw (List.set (Seq.toList (Seq.map T.encBo false u)) (0 + Int.toNat (Prod.fst (Prod.snd (Prod.snd (Prod.snd (Prod.snd x)))))) [AV.bool true])),
        AObj.cells [AV.msl 1 0 0 (List.length u)], AObj.cells [AV.sl 6 (Seq.map T.encSt T.noSt l) Tip.none], o',
        AObj.cells
        [AV.int IntKind.i64 (Prod.fst x), AV.str { data := List.toArray (Prod.fst (Prod.snd x)) }, AV.int IntKind.i64 (Prod.fst (Prod.snd (Prod.snd x))),
        AV.str { data := List.toArray (Prod.fst (Prod.snd (Prod.snd (Prod.snd x)))) }, AV.int IntKind.i64 (Prod.fst (Prod.snd (Prod.snd (Prod.snd (Prod.snd x))))),
        AV.int IntKind.i64 (Prod.snd (Prod.snd (Prod.snd (Prod.snd (Prod.snd x)))))]]) ∧
        needP ((0 : Int) ≤ Prod.snd (Prod.snd (Prod.snd (Prod.snd (Prod.snd x)))) ∧ Prod.snd (Prod.snd (Prod.snd (Prod.snd (Prod.snd x)))) < (↑(List.length u) : Int))
        (needP
        (0 + Int.toNat (Prod.snd (Prod.snd (Prod.snd (Prod.snd (Prod.snd x))))) <
        List.length
        (List.set (Seq.toList (Seq.map T.encBo false u)) (0 + Int.toNat (Prod.fst (Prod.snd (Prod.snd (Prod.snd (Prod.snd x))))))
        (splice (T.encBo (List.getD u (0 + Int.toNat (Prod.fst (Prod.snd (Prod.snd (Prod.snd (Prod.snd x)))))) false)) 0
        [ev
        [(37, AV.mptr 1 0 (0 + Int.toNat (Prod.fst (Prod.snd (Prod.snd (Prod.snd (Prod.snd x)))))) 0),
        (36, AV.int IntKind.i64 (Prod.snd (Prod.snd (Prod.snd (Prod.snd (Prod.snd x)))))), (35, AV.ptr 4 5),
        (34, AV.msl 1 0 0 (List.length u)), (33, AV.int IntKind.i64 (Prod.fst (Prod.snd (Prod.snd (Prod.snd (Prod.snd x)))))),
        (32, AV.ptr 4 4), (31, AV.msl 1 0 0 (List.length u)), (30, AV.bool (Prod.fst x == (4 : Int))),
        (29, AV.bool (Prod.fst x == (4 : Int))), (26, AV.bool true), (28, AV.int IntKind.i64 (Prod.fst x)), (26, AV.bool true),
        (27, AV.ptr 4 0), (26, AV.bool true), (26, AV.bool (List.getD u (0 + Int.toNat i) false)),
        (25, AV.bool (List.getD u (0 + Int.toNat i) false)), (24, AV.mptr 1 0 (0 + Int.toNat i) 0),
        (23, AV.int IntKind.i64 i), (22, AV.msl 1 0 0 (List.length u)), (5, AV.ptr 4 0),
        (4, AV.int IntKind.i64 i), (3, AV.ptr 1 0), (20, AV.int IntKind.i64 i),
        (21,
        AV.agg
        [AV.int IntKind.i64 (Prod.fst x), AV.str { data := List.toArray (Prod.fst (Prod.snd x)) }, AV.int IntKind.i64 (Prod.fst (Prod.snd (Prod.snd x))),
        AV.str { data := List.toArray (Prod.fst (Prod.snd (Prod.snd (Prod.snd x)))) },
        AV.int IntKind.i64 (Prod.fst (Prod.snd (Prod.snd (Prod.snd (Prod.snd x))))),
        AV.int IntKind.i64 (Prod.snd (Prod.snd (Prod.snd (Prod.snd (Prod.snd x)))))])]
        (Operand.const (Value.bool true))])))
        (Qr Exit.normal
        [(38, AV.mptr 1 0 (0 + Int.toNat (Prod.snd (Prod.snd (Prod.snd (Prod.snd (Prod.snd x)))))) 0),
        (37, AV.mptr 1 0 (0 + Int.toNat (Prod.fst (Prod.snd (Prod.snd (Prod.snd (Prod.snd x)))))) 0),
        (36, AV.int IntKind.i64 (Prod.snd (Prod.snd (Prod.snd (Prod.snd (Prod.snd x)))))), (35, AV.ptr 4 5),
        (34, AV.msl 1 0 0 (List.length u)), (33, AV.int IntKind.i64 (Prod.fst (Prod.snd (Prod.snd (Prod.snd (Prod.snd x)))))),
        (32, AV.ptr 4 4), (31, AV.msl 1 0 0 (List.length u)), (30, AV.bool (Prod.fst x == (4 : Int))),
        (29, AV.bool (Prod.fst x == (4 : Int))), (26, AV.bool true), (28, AV.int IntKind.i64 (Prod.fst x)), (26, AV.bool true),
        (27, AV.ptr 4 0), (26, AV.bool true), (26, AV.bool (List.getD u (0 + Int.toNat i) false)),
        (25, AV.bool (List.getD u (0 + Int.toNat i) false)), (24, AV.mptr 1 0 (0 + Int.toNat i) 0),
        (23, AV.int IntKind.i64 i), (22, AV.msl 1 0 0 (List.length u)), (5, AV.ptr 4 0),
        (4, AV.int IntKind.i64 i), (3, AV.ptr 1 0), (20, AV.int IntKind.i64 i),
        (21,
        AV.agg
        [AV.int IntKind.i64 (Prod.fst x), AV.str { data := List.toArray (Prod.fst (Prod.snd x)) }, AV.int IntKind.i64 (Prod.fst (Prod.snd (Prod.snd x))),
        AV.str { data := List.toArray (Prod.fst (Prod.snd (Prod.snd (Prod.snd x)))) }, AV.int IntKind.i64 (Prod.fst (Prod.snd (Prod.snd (Prod.snd (Prod.snd x))))),
        AV.int IntKind.i64 (Prod.snd (Prod.snd (Prod.snd (Prod.snd (Prod.snd x)))))])]
        [AObj.arr 1
        (Seq.raw
        (List.set
        (Seq.toList
        (Seq.raw
        (List.set (Seq.toList (Seq.map T.encBo false u)) (0 + Int.toNat (Prod.fst (Prod.snd (Prod.snd (Prod.snd (Prod.snd x))))))
        (splice (T.encBo (List.getD u (0 + Int.toNat (Prod.fst (Prod.snd (Prod.snd (Prod.snd (Prod.snd x)))))) false)) 0
        [ev
        [(37, AV.mptr 1 0 (0 + Int.toNat (Prod.fst (Prod.snd (Prod.snd (Prod.snd (Prod.snd x)))))) 0),
        (36, AV.int IntKind.i64 (Prod.snd (Prod.snd (Prod.snd (Prod.snd (Prod.snd x)))))), (35, AV.ptr 4 5),
        (34, AV.msl 1 0 0 (List.length u)),
        (33, AV.int IntKind.i64 (Prod.fst (Prod.snd (Prod.snd (Prod.snd (Prod.snd x)))))), (32, AV.ptr 4 4),
        (31, AV.msl 1 0 0 (List.length u)), (30, AV.bool (Prod.fst x == (4 : Int))),
        (29, AV.bool (Prod.fst x == (4 : Int))), (26, AV.bool true), (28, AV.int IntKind.i64 (Prod.fst x)),
        (26, AV.bool true), (27, AV.ptr 4 0), (26, AV.bool true),
        (26, AV.bool (List.getD u (0 + Int.toNat i) false)), (25, AV.bool (List.getD u (0 + Int.toNat i) false)),
        (24, AV.mptr 1 0 (0 + Int.toNat i) 0), (23, AV.int IntKind.i64 i),
        (22, AV.msl 1 0 0 (List.length u)), (5, AV.ptr 4 0), (4, AV.int IntKind.i64 i),
        (3, AV.ptr 1 0), (20, AV.int IntKind.i64 i),
        (21,
        AV.agg
        [AV.int IntKind.i64 (Prod.fst x), AV.str { data := List.toArray (Prod.fst (Prod.snd x)) }, AV.int IntKind.i64 (Prod.fst (Prod.snd (Prod.snd x))),
        AV.str { data := List.toArray (Prod.fst (Prod.snd (Prod.snd (Prod.snd x)))) },
        AV.int IntKind.i64 (Prod.fst (Prod.snd (Prod.snd (Prod.snd (Prod.snd x))))),
        AV.int IntKind.i64 (Prod.snd (Prod.snd (Prod.snd (Prod.snd (Prod.snd x)))))])]
        (Operand.const (Value.bool true))]))))
        (0 + Int.toNat (Prod.snd (Prod.snd (Prod.snd (Prod.snd (Prod.snd x))))))
        (AV.bool true ::
        List.append._f [] PUnit.unit
        (List.drop 1
        (List.getD
        (List.set (Seq.toList (Seq.map T.encBo false u)) (0 + Int.toNat (Prod.fst (Prod.snd (Prod.snd (Prod.snd (Prod.snd x))))))
        (splice (T.encBo (List.getD u (0 + Int.toNat (Prod.fst (Prod.snd (Prod.snd (Prod.snd (Prod.snd x)))))) false)) 0
        [ev
        [(37, AV.mptr 1 0 (0 + Int.toNat (Prod.fst (Prod.snd (Prod.snd (Prod.snd (Prod.snd x)))))) 0),
        (36, AV.int IntKind.i64 (Prod.snd (Prod.snd (Prod.snd (Prod.snd (Prod.snd x)))))), (35, AV.ptr 4 5),
        (34, AV.msl 1 0 0 (List.length u)),
        (33, AV.int IntKind.i64 (Prod.fst (Prod.snd (Prod.snd (Prod.snd (Prod.snd x)))))), (32, AV.ptr 4 4),
        (31, AV.msl 1 0 0 (List.length u)), (30, AV.bool (Prod.fst x == (4 : Int))),
        (29, AV.bool (Prod.fst x == (4 : Int))), (26, AV.bool true), (28, AV.int IntKind.i64 (Prod.fst x)),
        (26, AV.bool true), (27, AV.ptr 4 0), (26, AV.bool true),
        (26, AV.bool (List.getD u (0 + Int.toNat i) false)), (25, AV.bool (List.getD u (0 + Int.toNat i) false)),
        (24, AV.mptr 1 0 (0 + Int.toNat i) 0), (23, AV.int IntKind.i64 i),
        (22, AV.msl 1 0 0 (List.length u)), (5, AV.ptr 4 0), (4, AV.int IntKind.i64 i),
        (3, AV.ptr 1 0), (20, AV.int IntKind.i64 i),
        (21,
        AV.agg
        [AV.int IntKind.i64 (Prod.fst x), AV.str { data := List.toArray (Prod.fst (Prod.snd x)) },
        AV.int IntKind.i64 (Prod.fst (Prod.snd (Prod.snd x))), AV.str { data := List.toArray (Prod.fst (Prod.snd (Prod.snd (Prod.snd x)))) },
        AV.int IntKind.i64 (Prod.fst (Prod.snd (Prod.snd (Prod.snd (Prod.snd x))))),
        AV.int IntKind.i64 (Prod.snd (Prod.snd (Prod.snd (Prod.snd (Prod.snd x)))))])]
        (Operand.const (Value.bool true))]))
        (0 + Int.toNat (Prod.snd (Prod.snd (Prod.snd (Prod.snd (Prod.snd x)))))) []))))),
        AObj.cells [AV.msl 1 0 0 (List.length u)], AObj.cells [AV.sl 6 (Seq.map T.encSt T.noSt l) Tip.none], o',
        AObj.cells
        [AV.int IntKind.i64 (Prod.fst x), AV.str { data := List.toArray (Prod.fst (Prod.snd x)) }, AV.int IntKind.i64 (Prod.fst (Prod.snd (Prod.snd x))),
        AV.str { data := List.toArray (Prod.fst (Prod.snd (Prod.snd (Prod.snd x)))) }, AV.int IntKind.i64 (Prod.fst (Prod.snd (Prod.snd (Prod.snd (Prod.snd x))))),
        AV.int IntKind.i64 (Prod.snd (Prod.snd (Prod.snd (Prod.snd (Prod.snd x)))))]])))))
        (Qr Exit.normal
        [(30, AV.bool (Prod.fst x == (4 : Int))), (29, AV.bool (Prod.fst x == (4 : Int))), (26, AV.bool true), (28, AV.int IntKind.i64 (Prod.fst x)),
        (26, AV.bool true), (27, AV.ptr 4 0), (26, AV.bool true), (26, AV.bool (List.getD u (0 + Int.toNat i) false)),
        (25, AV.bool (List.getD u (0 + Int.toNat i) false)), (24, AV.mptr 1 0 (0 + Int.toNat i) 0),
        (23, AV.int IntKind.i64 i), (22, AV.msl 1 0 0 (List.length u)), (5, AV.ptr 4 0), (4, AV.int IntKind.i64 i),
        (3, AV.ptr 1 0), (20, AV.int IntKind.i64 i),
        (21,
        AV.agg
        [AV.int IntKind.i64 (Prod.fst x), AV.str { data := List.toArray (Prod.fst (Prod.snd x)) }, AV.int IntKind.i64 (Prod.fst (Prod.snd (Prod.snd x))),
        AV.str { data := List.toArray (Prod.fst (Prod.snd (Prod.snd (Prod.snd x)))) }, AV.int IntKind.i64 (Prod.fst (Prod.snd (Prod.snd (Prod.snd (Prod.snd x))))),
        AV.int IntKind.i64 (Prod.snd (Prod.snd (Prod.snd (Prod.snd (Prod.snd x)))))])]
        [AObj.arr 1 (Seq.map T.encBo false u), AObj.cells [AV.msl 1 0 0 (List.length u)], AObj.cells [AV.sl 6 (Seq.map T.encSt T.noSt l) Tip.none], o',
        AObj.cells
        [AV.int IntKind.i64 (Prod.fst x), AV.str { data := List.toArray (Prod.fst (Prod.snd x)) }, AV.int IntKind.i64 (Prod.fst (Prod.snd (Prod.snd x))),
        AV.str { data := List.toArray (Prod.fst (Prod.snd (Prod.snd (Prod.snd x)))) }, AV.int IntKind.i64 (Prod.fst (Prod.snd (Prod.snd (Prod.snd (Prod.snd x))))),
        AV.int IntKind.i64 (Prod.snd (Prod.snd (Prod.snd (Prod.snd (Prod.snd x)))))]]))
        (Qr Exit.normal
        [(30, AV.bool false), (29, AV.tup []), (26, AV.bool false), (28, AV.tup []), (26, AV.bool false), (27, AV.tup []),
        (26, AV.bool false), (26, AV.bool (List.getD u (0 + Int.toNat i) false)), (25, AV.bool (List.getD u (0 + Int.toNat i) false)),
        (24, AV.mptr 1 0 (0 + Int.toNat i) 0), (23, AV.int IntKind.i64 i), (22, AV.msl 1 0 0 (List.length u)),
        (5, AV.ptr 4 0), (4, AV.int IntKind.i64 i), (3, AV.ptr 1 0), (20, AV.int IntKind.i64 i),
        (21,
        AV.agg
        [AV.int IntKind.i64 (Prod.fst x), AV.str { data := List.toArray (Prod.fst (Prod.snd x)) }, AV.int IntKind.i64 (Prod.fst (Prod.snd (Prod.snd x))),
        AV.str { data := List.toArray (Prod.fst (Prod.snd (Prod.snd (Prod.snd x)))) }, AV.int IntKind.i64 (Prod.fst (Prod.snd (Prod.snd (Prod.snd (Prod.snd x))))),
        AV.int IntKind.i64 (Prod.snd (Prod.snd (Prod.snd (Prod.snd (Prod.snd x)))))])]
        [AObj.arr 1 (Seq.map T.encBo false u), AObj.cells [AV.msl 1 0 0 (List.length u)], AObj.cells [AV.sl 6 (Seq.map T.encSt T.noSt l) Tip.none], o',
        AObj.cells
        [AV.int IntKind.i64 (Prod.fst x), AV.str { data := List.toArray (Prod.fst (Prod.snd x)) }, AV.int IntKind.i64 (Prod.fst (Prod.snd (Prod.snd x))),
        AV.str { data := List.toArray (Prod.fst (Prod.snd (Prod.snd (Prod.snd x)))) }, AV.int IntKind.i64 (Prod.fst (Prod.snd (Prod.snd (Prod.snd (Prod.snd x))))),
        AV.int IntKind.i64 (Prod.snd (Prod.snd (Prod.snd (Prod.snd (Prod.snd x)))))]])))) →
    ARound Try.prog 80 n 3 o o' c125_6a c125_6
      [(3, AV.ptr 1 0), (20, AV.int IntKind.i64 i),
        (21,
        AV.agg
        [AV.int IntKind.i64 (Prod.fst x), AV.str { data := List.toArray (Prod.fst (Prod.snd x)) }, AV.int IntKind.i64 (Prod.fst (Prod.snd (Prod.snd x))),
        AV.str { data := List.toArray (Prod.fst (Prod.snd (Prod.snd (Prod.snd x)))) }, AV.int IntKind.i64 (Prod.fst (Prod.snd (Prod.snd (Prod.snd (Prod.snd x))))),
        AV.int IntKind.i64 (Prod.snd (Prod.snd (Prod.snd (Prod.snd (Prod.snd x)))))])]
      [AObj.arr 1 (Seq.map T.encBo false u), AObj.cells [AV.msl 1 0 0 (List.length u)], AObj.cells [AV.sl 6 (Seq.map T.encSt T.noSt l) Tip.none], o] Qr := fun l u i x o o' n Post Qr h => Go.Ab.ARound.of g125r n 3 o o' (by kernel_rfl) _ _ _ _ _ (Go.Ab.kc (by kernel_rfl) h)
noncomputable def q125_3 : Nat → (AV → List AObj → Prop) → AQ := fun (n : Nat) (Post : AV → List AObj → Prop) => seqQ (fun (s' : Slots) (H' : List AObj) => awp Try.prog g125 n (codeSnd (codeSnd (codeSnd c125_8))) s' H' (q125_0 n Post)) (q125_0 n Post)
noncomputable def q125_4 : Nat → (AV → List AObj → Prop) → AQ := fun (n : Nat) (Post : AV → List AObj → Prop) => blockQ 2 (q125_3 n Post)
noncomputable def c125_11 : Go.Code := codeFst (codeSnd (codeFst (codeSnd (codeSnd c125_8))))
theorem v125_8 : ∀ (l : List T.St) (u : List Bool) (n : Nat) (Post : AV → List AObj → Prop),
  needP
      ((0 : Int) ≤ (↑(List.length l) : Int) ∧
        (↑(List.length l) : Int) ≤ (↑(List.length l) : Int) ∧ (↑(List.length l) : Int) ≤ (9223372036854775807 : Int) ∧ (8 : Int) * (↑(List.length l) : Int) ≤ (281474976710656 : Int))
      (AWP Try.prog 80 n c125_11
        [(3, AV.ptr 1 0), (6, AV.msl 1 2 0 (List.length l)), (7, AV.sl 0 (Seq.raw []) Tip.nil),
        (42, AV.sl 6 (Seq.map T.encSt T.noSt l) Tip.none), (43, AV.int IntKind.i64 (↑(List.length l) : Int)), (44, AV.int IntKind.i64 (0 : Int))]
        [AObj.arr 1 (Seq.map T.encBo false u), AObj.cells [AV.msl 1 0 0 (List.length u)],
        AObj.arr 1 (Seq.raw (List.replicate (List.length l) [AV.int IntKind.i64 (0 : Int)]))]
        (q125_4 n Post)) →
    AWP Try.prog 80 n c125_8 [(0, AV.sl 6 (Seq.map T.encSt T.noSt l) Tip.none), (3, AV.ptr 1 0)]
      [AObj.arr 1 (Seq.map T.encBo false u), AObj.cells [AV.msl 1 0 0 (List.length u)]] (q125_0 n Post) := fun l u n Post h => Go.Ab.awp_sound g125 n _ _ _ _ (Go.Ab.kc (by kernel_rfl) h)
noncomputable def q125_5 : Nat → (AV → List AObj → Prop) → AQ := fun (n : Nat) (Post : AV → List AObj → Prop) => loopQ Try.prog 80 n c125_11 (q125_4 n Post) (Cfg.live g125)
noncomputable def q125_6 : Nat → (AV → List AObj → Prop) → AQ := fun (n : Nat) (Post : AV → List AObj → Prop) => seqQ (fun (s' : Slots) (H' : List AObj) => awp Try.prog g125 n (codeSnd (codeSnd (codeSnd (codeFst c125_11)))) s' H' (q125_5 n Post)) (q125_5 n Post)
noncomputable def q125_7 : Nat → (AV → List AObj → Prop) → AQ := fun (n : Nat) (Post : AV → List AObj → Prop) => blockQ 3 (q125_6 n Post)
noncomputable def c125_16 : Go.Code := codeSnd (codeSnd (codeSnd (codeFst (codeFst (codeSnd (codeSnd (codeFst c125_11)))))))
theorem v125_11 : ∀ (l : List T.St) (u : List Bool) (t : List Int) (out : List T.St) (i : Int) (n : Nat) (Post : AV → List AObj → Prop),
  condP (decide (i < (↑(List.length l) : Int)))
      (needP ((0 : Int) ≤ i ∧ i < (↑(List.length l) : Int))
        (needP ((0 : Int) ≤ i ∧ i < (↑(List.length u) : Int))
        (needP (0 + Int.toNat i < List.length u)
        (condP (!List.getD u (0 + Int.toNat i) false)
        (AWP Try.prog 80 n c125_11
        [(3, AV.ptr 1 0), (6, AV.msl 1 2 0 (List.length t)),
        (7, AV.sl 6 (Seq.map T.encSt T.noSt out) (Tip.tok 3)), (42, AV.sl 6 (Seq.map T.encSt T.noSt l) Tip.none),
        (43, AV.int IntKind.i64 (↑(List.length l) : Int)), (44, AV.int IntKind.i64 (IntKind.wrap IntKind.i64 (i + (1 : Int))))]
        [AObj.arr 1 (Seq.map T.encBo false u), AObj.cells [AV.msl 1 0 0 (List.length u)], AObj.arr 1 (Seq.map encI (0 : Int) t), AObj.tok,
        AObj.cells
        [AV.int IntKind.i64 (Prod.fst (List.getD l (Int.toNat i) T.noSt)), AV.str { data := List.toArray (Prod.fst (Prod.snd (List.getD l (Int.toNat i) T.noSt))) },
        AV.int IntKind.i64 (Prod.fst (Prod.snd (Prod.snd (List.getD l (Int.toNat i) T.noSt)))),
        AV.str { data := List.toArray (Prod.fst (Prod.snd (Prod.snd (Prod.snd (List.getD l (Int.toNat i) T.noSt))))) },
        AV.int IntKind.i64 (Prod.fst (Prod.snd (Prod.snd (Prod.snd (Prod.snd (List.getD l (Int.toNat i) T.noSt)))))),
        AV.int IntKind.i64 (Prod.snd (Prod.snd (Prod.snd (Prod.snd (Prod.snd (List.getD l (Int.toNat i) T.noSt))))))]]
        (q125_4 n Post))
        (condP (Prod.fst (List.getD l (Int.toNat i) T.noSt) == (4 : Int))
        (needP
        ((0 : Int) ≤ Prod.fst (Prod.snd (Prod.snd (Prod.snd (Prod.snd (List.getD l (Int.toNat i) T.noSt))))) ∧
        Prod.fst (Prod.snd (Prod.snd (Prod.snd (Prod.snd (List.getD l (Int.toNat i) T.noSt))))) < (↑(List.length t) : Int))
        (needP (0 + Int.toNat (Prod.fst (Prod.snd (Prod.snd (Prod.snd (Prod.snd (List.getD l (Int.toNat i) T.noSt)))))) < List.length t)
        (needP
        ((0 : Int) ≤ Prod.snd (Prod.snd (Prod.snd (Prod.snd (Prod.snd (List.getD l (Int.toNat i) T.noSt))))) ∧
        Prod.snd (Prod.snd (Prod.snd (Prod.snd (Prod.snd (List.getD l (Int.toNat i) T.noSt))))) < (↑(List.length t) : Int))
        (needP (0 + Int.toNat (Prod.snd (Prod.snd (Prod.snd (Prod.snd (Prod.snd (List.getD l (Int.toNat i) T.noSt)))))) < List.length t)
        (needP (0 + Int.toNat (Prod.snd (Prod.snd (Prod.snd (Prod.snd (Prod.snd (List.getD l (Int.toNat i) T.noSt)))))) < List.length t)
        (AV.int IntKind.i64 (List.getD t (0 + Int.toNat (Prod.snd (Prod.snd (Prod.snd (Prod.snd (Prod.snd (List.getD l (Int.toNat i) T.noSt))))))) (0 : Int)) =
        AV.int IntKind.i64 (List.getD t (0 + Int.toNat (Prod.snd (Prod.snd (Prod.snd (Prod.snd (Prod.snd (List.getD l (Int.toNat i) T.noSt))))))) (0 : Int)) ∧
        [AObj.arr 1 (Seq.map T.encBo false u), AObj.cells [AV.msl 1 0 0 (List.length u)], AObj.arr 1 (Seq.map encI (0 : Int) t), AObj.tok,
        AObj.cells
        [AV.int IntKind.i64 (Prod.fst (List.getD l (Int.toNat i) T.noSt)), AV.str { data := List.toArray (Prod.fst (Prod.snd (List.getD l (Int.toNat i) T.noSt))) },
        AV.int IntKind.i64 (Prod.fst (Prod.snd (Prod.snd (List.getD l (Int.toNat i) T.noSt)))),
        AV.str { data := List.toArray (Prod.fst (Prod.snd (Prod.snd (Prod.snd (List.getD l (Int.toNat i) T.noSt))))) },
        AV.int IntKind.i64 (List.getD t (0 + Int.toNat (Prod.fst (Prod.snd (Prod.snd (Prod.snd (Prod.snd (List.getD l (Int.toNat i) T.noSt))))))) (0 : Int)),
        AV.int IntKind.i64 (Prod.snd (Prod.snd (Prod.snd (Prod.snd (Prod.snd (List.getD l (Int.toNat i) T.noSt))))))]] =
        [AObj.arr 1 (Seq.map T.encBo false u), AObj.cells [AV.msl 1 0 0 (List.length u)], AObj.arr 1 (Seq.map encI (0 : Int) t),
        AObj.tok,
        AObj.cells
        [AV.int IntKind.i64 (Prod.fst (List.getD l (Int.toNat i) T.noSt)), AV.str { data := List.toArray (Prod.fst (Prod.snd (List.getD l (Int.toNat i) T.noSt))) },
        AV.int IntKind.i64 (Prod.fst (Prod.snd (Prod.snd (List.getD l (Int.toNat i) T.noSt)))),
        AV.str { data := List.toArray (Prod.fst (Prod.snd (Prod.snd (Prod.snd (List.getD l (Int.toNat i) T.noSt))))) },
        AV.int IntKind.i64 (List.getD t (0 + Int.toNat (Prod.fst (Prod.snd (Prod.snd (Prod.snd (Prod.snd (List.getD l (Int.toNat i) T.noSt))))))) (0 : Int)),
        AV.int IntKind.i64 (Prod.snd (Prod.snd (Prod.snd (Prod.snd (Prod.snd (List.getD l (Int.toNat i) T.noSt))))))]]) ∧
        AWP Try.prog 80 n c125_16
        [(3, AV.ptr 1 0), (6, AV.msl 1 2 0 (List.length t)),
        (7, AV.sl 6 (Seq.map T.encSt T.noSt out) (Tip.tok 3)), (8, AV.int IntKind.i64 i), (9, AV.ptr 4 0),
        (42, AV.sl 6 (Seq.map T.encSt T.noSt l) Tip.none), (43, AV.int IntKind.i64 (↑(List.length l) : Int)), (44, AV.int IntKind.i64 i)]
        [AObj.arr 1 (Seq.map T.encBo false u), AObj.cells [AV.msl 1 0 0 (List.length u)], AObj.arr 1 (Seq.map encI (0 : Int) t), AObj.tok,
        AObj.cells
        [AV.int IntKind.i64 (Prod.fst (List.getD l (Int.toNat i) T.noSt)), AV.str { data := List.toArray (Prod.fst (Prod.snd (List.getD l (Int.toNat i) T.noSt))) },
        AV.int IntKind.i64 (Prod.fst (Prod.snd (Prod.snd (List.getD l (Int.toNat i) T.noSt)))),
        AV.str { data := List.toArray (Prod.fst (Prod.snd (Prod.snd (Prod.snd (List.getD l (Int.toNat i) T.noSt))))) },
        AV.int IntKind.i64 (List.getD t (0 + Int.toNat (Prod.fst (Prod.snd (Prod.snd (Prod.snd (Prod.snd (List.getD l (Int.toNat i) T.noSt))))))) (0 : Int)),
        AV.int IntKind.i64 (List.getD t (0 + Int.toNat (Prod.snd (Prod.snd (Prod.snd (Prod.snd (Prod.snd (List.getD l (Int.toNat i) T.noSt))))))) (0 : Int))]]
        (q125_7 n Post))))))
        (AWP Try.prog 80 n c125_16
        [(3, AV.ptr 1 0), (6, AV.msl 1 2 0 (List.length t)),
        (7, AV.sl 6 (Seq.map T.encSt T.noSt out) (Tip.tok 3)), (8, AV.int IntKind.i64 i), (9, AV.ptr 4 0),
        (42, AV.sl 6 (Seq.map T.encSt T.noSt l) Tip.none), (43, AV.int IntKind.i64 (↑(List.length l) : Int)), (44, AV.int IntKind.i64 i)]
        [AObj.arr 1 (Seq.map T.encBo false u), AObj.cells [AV.msl 1 0 0 (List.length u)], AObj.arr 1 (Seq.map encI (0 : Int) t), AObj.tok,
        AObj.cells
        [AV.int IntKind.i64 (Prod.fst (List.getD l (Int.toNat i) T.noSt)), AV.str { data := List.toArray (Prod.fst (Prod.snd (List.getD l (Int.toNat i) T.noSt))) },
        AV.int IntKind.i64 (Prod.fst (Prod.snd (Prod.snd (List.getD l (Int.toNat i) T.noSt)))),
        AV.str { data := List.toArray (Prod.fst (Prod.snd (Prod.snd (Prod.snd (List.getD l (Int.toNat i) T.noSt))))) },
        AV.int IntKind.i64 (Prod.fst (Prod.snd (Prod.snd (Prod.snd (Prod.snd (List.getD l (Int.toNat i) T.noSt)))))),
        AV.int IntKind.i64 (Prod.snd (Prod.snd (Prod.snd (Prod.snd (Prod.snd (List.getD l (Int.toNat i) T.noSt))))))]]
        (q125_7 n Post)))))))
      (Post (AV.sl 6 (Seq.map T.encSt T.noSt out) (Tip.tok 3))
        [AObj.arr 1 (Seq.map T.encBo false u), AObj.cells [AV.msl 1 0 0 (List.length u)], AObj.arr 1 (Seq.map encI (0 : Int) t), AObj.tok]) →
    AWP Try.prog 80 n c125_11
      [(3, AV.ptr 1 0), (6, AV.msl 1 2 0 (List.length t)), (7, AV.sl 6 (Seq.map T.encSt T.noSt out) (Tip.tok 3)),
        (42, AV.sl 6 (Seq.map T.encSt T.noSt l) Tip.none), (43, AV.int IntKind.i64 (↑(List.length l) : Int)), (44, AV.int IntKind.i64 i)]
      [AObj.arr 1 (Seq.map T.encBo false u), AObj.cells [AV.msl 1 0 0 (List.length u)], AObj.arr 1 (Seq.map encI (0 : Int) t), AObj.tok] (q125_4 n Post) := fun l u t out i n Post h => Go.Ab.AWP.loop' g125 (Cfg.live g125) c125_11 (by kernel_rfl) (by kernel_rfl) (Go.Ab.kc (by kernel_rfl) h)
theorem v125_16 : ∀ (l : List T.St) (u : List Bool) (t : List Int) (out : List T.St) (x : T.St) (i : Int) (n : Nat) (Post : AV → List AObj → Prop),
  needP ((0 : Int) ≤ i ∧ i < (↑(List.length t) : Int))
      (needP (0 + Int.toNat i < List.length t)
        (needP ((List.length out + 1) * 64 ≤ 140737488351232)
        (AWP Try.prog 80 n c125_11
        [(3, AV.ptr 1 0), (6, AV.msl 1 2 0 (List.length t)),
        (7,
        AV.sl 6
        (Seq.app (Seq.map T.encSt T.noSt out)
        (Seq.raw
        [[AV.int IntKind.i64 (Prod.fst x), AV.str { data := List.toArray (Prod.fst (Prod.snd x)) }, AV.int IntKind.i64 (Prod.fst (Prod.snd (Prod.snd x))),
        AV.str { data := List.toArray (Prod.fst (Prod.snd (Prod.snd (Prod.snd x)))) }, AV.int IntKind.i64 (Prod.fst (Prod.snd (Prod.snd (Prod.snd (Prod.snd x))))),
        AV.int IntKind.i64 (Prod.snd (Prod.snd (Prod.snd (Prod.snd (Prod.snd x)))))]]))
        (Tip.tok 5)),
        (42, AV.sl 6 (Seq.map T.encSt T.noSt l) Tip.none), (43, AV.int IntKind.i64 (↑(List.length l) : Int)),
        (44, AV.int IntKind.i64 (IntKind.wrap IntKind.i64 (i + (1 : Int))))]
        [AObj.arr 1 (Seq.map T.encBo false u), AObj.cells [AV.msl 1 0 0 (List.length u)],
        AObj.arr 1 (Seq.raw (List.set (Seq.toList (Seq.map encI (0 : Int) t)) (0 + Int.toNat i) [AV.int IntKind.i64 (↑(List.length out) : Int)])), AObj.gone,
        AObj.cells
        [AV.int IntKind.i64 (Prod.fst x), AV.str { data := List.toArray (Prod.fst (Prod.snd x)) }, AV.int IntKind.i64 (Prod.fst (Prod.snd (Prod.snd x))),
        AV.str { data := List.toArray (Prod.fst (Prod.snd (Prod.snd (Prod.snd x)))) }, AV.int IntKind.i64 (Prod.fst (Prod.snd (Prod.snd (Prod.snd (Prod.snd x))))),
        AV.int IntKind.i64 (Prod.snd (Prod.snd (Prod.snd (Prod.snd (Prod.snd x)))))],
        AObj.tok]
        (q125_4 n Post)))) →
    AWP Try.prog 80 n c125_16
      [(3, AV.ptr 1 0), (6, AV.msl 1 2 0 (List.length t)), (7, AV.sl 6 (Seq.map T.encSt T.noSt out) (Tip.tok 3)),
        (8, AV.int IntKind.i64 i), (9, AV.ptr 4 0), (42, AV.sl 6 (Seq.map T.encSt T.noSt l) Tip.none),
        (43, AV.int IntKind.i64 (↑(List.length l) : Int)), (44, AV.int IntKind.i64 i)]
      [AObj.arr 1 (Seq.map T.encBo false u), AObj.cells [AV.msl 1 0 0 (List.length u)], AObj.arr 1 (Seq.map encI (0 : Int) t), AObj.tok, AObj.cells (T.encSt x)]
      (q125_7 n Post) := fun l u t out x i n Post h => Go.Ab.awp_sound g125 n _ _ _ _ (Go.Ab.kc (by kernel_rfl) h)

-- 3
noncomputable def l19 : Nat → List Nat
  | _ => []
noncomputable def u19 : Nat → Bool
  | _ => false
noncomputable def m19 : Nat → Bool
  | _ => false
noncomputable def g19 : Cfg := { N := 24, live := l19, cut := u19, mu := m19, ret := rets }
theorem s19 : ∀ (Post : AV → List AObj → Prop),
  (ASpec Try.prog 125
      [AV.sl 6
        (Seq.raw
        [[AV.int IntKind.i64 (1 : Int), AV.str { data := #[(97 : UInt8)] }, AV.int IntKind.i64 (0 : Int), AV.str { data := #[] }, AV.int IntKind.i64 (0 : Int), AV.int IntKind.i64 (0 : Int)],
        [AV.int IntKind.i64 (2 : Int), AV.str { data := #[(98 : UInt8)] }, AV.int IntKind.i64 (0 : Int), AV.str { data := #[] }, AV.int IntKind.i64 (0 : Int), AV.int IntKind.i64 (0 : Int)],
        [AV.int IntKind.i64 (2 : Int), AV.str { data := #[(97 : UInt8)] }, AV.int IntKind.i64 (0 : Int), AV.str { data := #[] }, AV.int IntKind.i64 (0 : Int), AV.int IntKind.i64 (0 : Int)],
        [AV.int IntKind.i64 (4 : Int), AV.str { data := #[(97 : UInt8)] }, AV.int IntKind.i64 (0 : Int), AV.str { data := #[] }, AV.int IntKind.i64 (0 : Int), AV.int IntKind.i64 (2 : Int)]])
        Tip.full]
      [] fun (r : AV) (H' : List AObj) =>
      ∃ (x : List T.St),
        r = AV.sl 6 (Seq.map T.encSt T.noSt x) Tip.none ∧
        H' = [] ∧
        ASpec Try.prog 123
        [AV.sl 6
        (Seq.raw
        [[AV.int IntKind.i64 (1 : Int), AV.str { data := #[(97 : UInt8)] }, AV.int IntKind.i64 (0 : Int), AV.str { data := #[] }, AV.int IntKind.i64 (0 : Int),
        AV.int IntKind.i64 (0 : Int)],
        [AV.int IntKind.i64 (2 : Int), AV.str { data := #[(98 : UInt8)] }, AV.int IntKind.i64 (0 : Int), AV.str { data := #[] }, AV.int IntKind.i64 (0 : Int),
        AV.int IntKind.i64 (0 : Int)],
        [AV.int IntKind.i64 (2 : Int), AV.str { data := #[(97 : UInt8)] }, AV.int IntKind.i64 (0 : Int), AV.str { data := #[] }, AV.int IntKind.i64 (0 : Int),
        AV.int IntKind.i64 (0 : Int)],
        [AV.int IntKind.i64 (4 : Int), AV.str { data := #[(97 : UInt8)] }, AV.int IntKind.i64 (0 : Int), AV.str { data := #[] }, AV.int IntKind.i64 (0 : Int),
        AV.int IntKind.i64 (2 : Int)]])
        Tip.full]
        [] fun (r : AV) (H' : List AObj) =>
        ∃ (x_1 : Bool),
        r = AV.bool x_1 ∧
        H' = [] ∧
        condP x_1
        (condP ((↑(List.length x) : Int) == (3 : Int))
        (needP ((0 : Int) ≤ (2 : Int) ∧ (2 : Int) < (↑(List.length x) : Int))
        (Post
        (AV.bool
        (Prod.fst (List.getD x 2 T.noSt) == (4 : Int) &&
        (ByteArray.toList { data := List.toArray (Prod.fst (Prod.snd (List.getD x 2 T.noSt))) } == ByteArray.toList { data := #[(97 : UInt8)] } &&
        (Prod.fst (Prod.snd (Prod.snd (List.getD x 2 T.noSt))) == (0 : Int) &&
        (ByteArray.toList { data := List.toArray (Prod.fst (Prod.snd (Prod.snd (Prod.snd (List.getD x 2 T.noSt))))) } == ByteArray.toList { data := #[] } &&
        (Prod.fst (Prod.snd (Prod.snd (Prod.snd (Prod.snd (List.getD x 2 T.noSt))))) == (0 : Int) &&
        (Prod.snd (Prod.snd (Prod.snd (Prod.snd (Prod.snd (List.getD x 2 T.noSt))))) == (1 : Int) && true)))))))
        []))
        (Post (AV.bool false) []))
        (Post (AV.bool false) [])) →
    ASpec Try.prog 19 [] [] Post := fun Post h => Go.Ab.ASpec.of_vc g19 Go.Proofs.Try.func19 (by kernel_rfl) (by kernel_rfl) (by kernel_rfl) (Go.Ab.kc (by kernel_rfl) h)

end
end Pf
end

section
/- Events as cells. -/

open Go Go.Ab Go.Proofs
namespace T
/-- kind, needs, ticks, ticket, body -/
abbrev Ev := Int × List Need × Int × Int × List UInt8
noncomputable def encE (x : Ev) : List AV := [.int .i64 x.1, .sl 2 (.map encN ([], []) x.2.1) .none, .int .i64 x.2.2.1, .int .i64 x.2.2.2.1, .sl 1 (.map encB 0 x.2.2.2.2) .none]
abbrev noEv : Ev := (0, [], 0, 0, [])
end T
end

section
/- Printed: what the code of functions 328, 329, 375, 376, 377, 394, 282, 48, 330, 190, 283, 189, 194, 70, 188, 187, 281, 415, 72, 71 asks for, by the framework's own reading of it; each line is checked against the code. -/

set_option linter.unusedVariables false
set_option maxRecDepth 100000
set_option maxHeartbeats 4000000
open Go Go.Ab Go.Proofs
namespace E
noncomputable section

noncomputable def retE : List (Nat × Ret) := [
  (71, ⟨Unit, fun _ _ _ => .bool true, fun _ H _ => H⟩),
  (190, ⟨Int × List T.Need, fun _ _ x => .iface 337 (.agg [.int .i64 x.1, .sl 2 (.map T.encN ([], []) x.2) .none]), fun _ H _ => H⟩),
  (190, ⟨Unit, fun _ _ _ => .iface 333 (.agg []), fun _ H _ => H⟩),
  (190, ⟨Int × List UInt8, fun _ _ x => .iface 339 (.agg [.int .i64 x.1, .sl 1 (.map encB 0 x.2) .none]), fun _ H _ => H⟩),
  (190, ⟨Int, fun _ _ x => .iface 341 (.agg [.int .i64 x]), fun _ H _ => H⟩),
  (190, ⟨Unit, fun _ _ _ => .nili, fun _ H _ => H⟩),
  (283, ⟨T.Ev × Bool, fun _ _ x => .tup [.agg (T.encE x.1), .bool x.2], fun _ H _ => H⟩),
  (281, ⟨Int, fun _ _ x => .int .i64 x, fun _ H _ => H⟩),
  (70, ⟨Bool, fun _ _ x => .bool x, fun _ H _ => H⟩),
  (189, ⟨Bool, fun _ _ x => .bool x, fun _ H _ => H⟩),
  (194, ⟨Bool, fun _ _ x => .bool x, fun _ H _ => H⟩),
  (282, ⟨Bool, fun _ _ x => .bool x, fun _ H _ => H⟩),
  (48, ⟨Bool, fun _ _ x => .bool x, fun _ H _ => H⟩),
  (328, ⟨Bool, fun _ _ x => .bool x, fun _ H _ => H⟩),
  (329, ⟨Bool, fun _ _ x => .bool x, fun _ H _ => H⟩),
  (187, ⟨Bool, fun _ _ x => .bool x, fun _ H _ => H⟩),
  (188, ⟨Bool, fun _ _ x => .bool x, fun _ H _ => H⟩),
  (330, ⟨Bool, fun _ _ x => .bool x, fun _ H _ => H⟩),
  (375, ⟨Bool, fun _ _ x => .bool x, fun _ H _ => H⟩),
  (376, ⟨Bool, fun _ _ x => .bool x, fun _ H _ => H⟩),
  (377, ⟨Bool, fun _ _ x => .bool x, fun _ H _ => H⟩),
  (394, ⟨Bool, fun _ _ x => .bool x, fun _ H _ => H⟩),
  (72, ⟨List UInt8, fun _ _ x => .sl 1 (.map encB 0 x) .none, fun _ H _ => H⟩),
  (415, ⟨List UInt8, fun _ _ x => .sl 1 (.map encB 0 x) .none, fun _ H _ => H⟩),
  (416, ⟨List UInt8, fun _ _ x => .sl 1 (.map encB 0 x) .none, fun _ H _ => H⟩),
  (417, ⟨List UInt8, fun _ _ x => .sl 1 (.map encB 0 x) .none, fun _ H _ => H⟩),
  (418, ⟨List UInt8, fun _ _ x => .sl 1 (.map encB 0 x) .none, fun _ H _ => H⟩)
  ]
end
end E
end
