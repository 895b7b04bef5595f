/- Q2: several of this proof's own texts, one behind the other: what each proves stands at its head. -/
import Derived.Test.YtbjcdgepclmmjaaProg
import Derived.Test.YtbjcdgepclmmjaaA1
section
/- Printed: what the code of functions 140, 141, 150, 151, 142, 143, 145, 144, 251, 146, 147, 148, 149, 250, 252 asks for, by the framework's own reading of it; each line is checked against the code. -/

set_option linter.unusedVariables false
set_option maxRecDepth 100000
set_option maxHeartbeats 4000000
open Go Go.Ab Go.Proofs
namespace V
noncomputable section

noncomputable def rd (bs : List UInt8) (p e : Int) : AObj := .cells [.sl 1 (.map encB 0 bs) .none, .int .i64 p, .int .i64 e]
noncomputable def upd3 (args : List AV) (H : List AObj) (p e : Int) : List AObj := match args with
  | .ptr id _ :: _ => match H[id]? with
    | some (.cells [b, _, _]) => H.set id (.cells [b, .int .i64 p, .int .i64 e])
    | _ => H
  | _ => H
noncomputable def upd2 (args : List AV) (H : List AObj) (s : ByteArray) (e : Int) : List AObj := match args with
  | .ptr id _ :: _ => H.set id (.cells [.str s, .int .i64 e])
  | _ => H
noncomputable def retL : List (Nat × Ret) := [
  (9016, ⟨Unit, fun _ _ _ => .bool true, fun _ H _ => H⟩),
  (140, ⟨List UInt8, fun _ H l => .sl 1 (.map encB 0 l) (.tok H.length), fun _ H _ => H ++ [.tok]⟩),
  (141, ⟨List UInt8, fun _ H l => .sl 1 (.map encB 0 l) (.tok H.length), fun _ H _ => H ++ [.tok]⟩),
  (9019, ⟨ByteArray, fun _ _ s => .str s, fun _ H _ => H⟩),
  (151, ⟨ByteArray, fun _ _ s => .str s, fun _ H _ => H⟩),
  (142, ⟨List UInt8, fun _ H _ => .ptr H.length 0, fun _ H l => H ++ [rd l 0 0]⟩),
  (143, ⟨Int × Int × Int, fun _ _ x => .int .i64 x.1, fun a H x => upd3 a H x.2.1 x.2.2⟩),
  (145, ⟨ByteArray × Int × Int, fun _ _ x => .str x.1, fun a H x => upd3 a H x.2.1 x.2.2⟩),
  (144, ⟨Int, fun _ _ x => .int .i64 x, fun _ H _ => H⟩),
  (251, ⟨Int, fun _ _ x => .int .i64 x, fun _ H _ => H⟩),
  (147, ⟨Int × ByteArray × Int, fun _ _ x => .int .i64 x.1, fun a H x => upd2 a H x.2.1 x.2.2⟩),
  (148, ⟨ByteArray × ByteArray × Int, fun _ _ x => .str x.1, fun a H x => upd2 a H x.2.1 x.2.2⟩),
  (9028, ⟨Int × Int, fun _ _ x => .tup [], fun a H x => upd3 a H x.1 x.2⟩),
  (9029, ⟨ByteArray × Int, fun _ _ x => .tup [], fun a H x => upd2 a H x.1 x.2⟩),
  (146, ⟨Int, fun _ _ x => .int .i64 x, fun _ H _ => H⟩),
  (149, ⟨Int, fun _ _ x => .int .i64 x, fun _ H _ => H⟩),
  (150, ⟨ByteArray, fun _ _ s => .str s, fun _ H _ => H⟩),
  (250, ⟨Int × Int × Int × Int, fun _ _ x => .tup [.int .i64 x.1, .int .i64 x.2.1], fun a H x => upd3 a H x.2.2.1 x.2.2.2⟩),
  (252, ⟨Int × Int × Int, fun _ _ x => .tup [.int .i64 x.1, .int .i64 x.2.1, .int .i64 x.2.2], fun _ H _ => H⟩)]
noncomputable def rets : FuncId → List Ret := lookupR retL

-- 140
noncomputable def l140 : Nat → List Nat
  | 3 => [5, 12, 13, 14]
  | 7 => [5, 7, 8, 12, 13, 14]
  | 9 => [5, 7, 8, 12, 13, 14]
  | _ => []
noncomputable def u140 : Nat → Bool
  | _ => false
noncomputable def m140 : Nat → Bool
  | _ => false
noncomputable def g140 : Cfg := { N := 48, live := l140, cut := u140, mu := m140, ret := rets }
noncomputable def c140 : Go.Code := Go.Ab.bodyOf Go.Proofs.Try.f140
noncomputable def q140_0 : Nat → (AV → List AObj → Prop) → AQ := fun (n : Nat) (Post : AV → List AObj → Prop) => endQ Try.prog (resultsOf Try.f140) Post
noncomputable def q140_1 : Nat → (AV → List AObj → Prop) → AQ := fun (n : Nat) (Post : AV → List AObj → Prop) => seqQ (fun (s' : Slots) (H' : List AObj) => awp Try.prog g140 n (codeSnd (codeSnd (codeSnd c140))) s' H' (q140_0 n Post)) (q140_0 n Post)
noncomputable def q140_2 : Nat → (AV → List AObj → Prop) → AQ := fun (n : Nat) (Post : AV → List AObj → Prop) => blockQ 0 (q140_1 n Post)
noncomputable def c140_3 : Go.Code := codeFst (codeSnd (codeFst (codeSnd (codeSnd c140))))
theorem s140 : ∀ (bs : List UInt8) (tip : Tip) (ns : List Int) (tip2 : Tip) (Post : AV → List AObj → Prop),
  needP (∀ (x : UInt8), List.all (encB x) oneAV = true)
      (needP ((0 + List.length bs) * 1 ≤ 140737488351232)
        (AWP Try.prog 48 0 c140_3
        [(5, AV.sl 1 (Seq.app (Seq.raw []) (Seq.map encB (0 : UInt8) bs)) (Tip.tok 0)), (12, AV.sl 1 (Seq.map encI (0 : Int) ns) tip2),
        (13, AV.int IntKind.i64 (↑(List.length ns) : Int)), (14, AV.int IntKind.i64 (0 : Int))]
        [AObj.tok] (q140_2 0 Post))) →
    ASpec Try.prog 140 [AV.sl 1 (Seq.map encB (0 : UInt8) bs) tip, AV.sl 1 (Seq.map encI (0 : Int) ns) tip2] [] Post := fun bs tip ns tip2 Post h => Go.Ab.ASpec.of_vc g140 Go.Proofs.Try.func140 (by kernel_rfl) (by kernel_rfl) (by kernel_rfl) (Go.Ab.kc (by kernel_rfl) h)
noncomputable def q140_3 : Nat → (AV → List AObj → Prop) → AQ := fun (n : Nat) (Post : AV → List AObj → Prop) => loopQ Try.prog 48 n c140_3 (q140_2 n Post) (Cfg.live g140)
noncomputable def q140_4 : Nat → (AV → List AObj → Prop) → AQ := fun (n : Nat) (Post : AV → List AObj → Prop) => seqQ (fun (s' : Slots) (H' : List AObj) => awp Try.prog g140 n (codeSnd (codeSnd (codeSnd (codeFst c140_3)))) s' H' (q140_3 n Post)) (q140_3 n Post)
noncomputable def q140_5 : Nat → (AV → List AObj → Prop) → AQ := fun (n : Nat) (Post : AV → List AObj → Prop) => blockQ 1 (q140_4 n Post)
noncomputable def q140_6 : Nat → (AV → List AObj → Prop) → AQ := fun (n : Nat) (Post : AV → List AObj → Prop) => seqQ (fun (s' : Slots) (H' : List AObj) => awp Try.prog g140 n (codeSnd (codeSnd (codeSnd (codeSnd (codeFst (codeFst (codeSnd (codeSnd (codeFst c140_3))))))))) s' H' (q140_5 n Post)) (q140_5 n Post)
noncomputable def q140_7 : Nat → (AV → List AObj → Prop) → AQ := fun (n : Nat) (Post : AV → List AObj → Prop) => blockQ 2 (q140_6 n Post)
noncomputable def c140_7 : Go.Code := codeFst (codeFst (codeSnd (codeSnd (codeSnd (codeFst (codeFst (codeSnd (codeSnd (codeFst c140_3)))))))))
theorem v140_3 : ∀ (l : List UInt8) (ns : List Int) (tip2 : Tip) (k : Nat) (i : Int) (n : Nat) (Post : AV → List AObj → Prop),
  condP (decide (i < (↑k : Int)))
      (needP ((0 : Int) ≤ i ∧ i < (↑(List.length ns) : Int))
        (AWP Try.prog 48 n c140_7
        [(5, AV.sl 1 (Seq.map encB (0 : UInt8) l) (Tip.tok 0)),
        (7,
        AV.int IntKind.i64
        (if (1099511627776 : Int) < if (0 : Int) > List.getD ns (Int.toNat i) (0 : Int) then (0 : Int) else List.getD ns (Int.toNat i) (0 : Int) then (1099511627776 : Int)
        else if (0 : Int) > List.getD ns (Int.toNat i) (0 : Int) then (0 : Int) else List.getD ns (Int.toNat i) (0 : Int))),
        (8, AV.int IntKind.i64 (1 : Int)), (12, AV.sl 1 (Seq.map encI (0 : Int) ns) tip2), (13, AV.int IntKind.i64 (↑k : Int)), (14, AV.int IntKind.i64 i)]
        [AObj.tok] (q140_7 n Post)))
      (Post (AV.sl 1 (Seq.map encB (0 : UInt8) l) (Tip.tok 0)) [AObj.tok]) →
    AWP Try.prog 48 n c140_3
      [(5, AV.sl 1 (Seq.map encB (0 : UInt8) l) (Tip.tok 0)), (12, AV.sl 1 (Seq.map encI (0 : Int) ns) tip2), (13, AV.int IntKind.i64 (↑k : Int)),
        (14, AV.int IntKind.i64 i)]
      [AObj.tok] (q140_2 n Post) := fun l ns tip2 k i n Post h => Go.Ab.AWP.loop' g140 (Cfg.live g140) c140_3 (by kernel_rfl) (by kernel_rfl) (Go.Ab.kc (by kernel_rfl) h)
noncomputable def q140_8 : Nat → (AV → List AObj → Prop) → AQ := fun (n : Nat) (Post : AV → List AObj → Prop) => seqQ (fun (s' : Slots) (H' : List AObj) => awp Try.prog g140 n (codeSnd (codeSnd (codeSnd (codeSnd (codeSnd (codeFst (codeFst (codeSnd (codeSnd (codeFst c140_3)))))))))) s' H' (q140_5 n Post)) (q140_5 n Post)
noncomputable def q140_9 : Nat → (AV → List AObj → Prop) → AQ := fun (n : Nat) (Post : AV → List AObj → Prop) => blockQ 4 (q140_8 n Post)
noncomputable def c140_9 : Go.Code := codeFst (codeFst (codeSnd (codeSnd (codeSnd (codeSnd (codeFst (codeFst (codeSnd (codeSnd (codeFst c140_3))))))))))
theorem v140_7 : ∀ (l : List UInt8) (v w : Int) (ns : List Int) (tip2 : Tip) (k : Nat) (i : Int) (n : Nat) (Post : AV → List AObj → Prop),
  needP (w ≠ (0 : Int))
      (condP (decide (IntKind.wrap IntKind.i64 (Int.tdiv v w) ≥ (128 : Int)))
        (AWP Try.prog 48 n c140_7
        [(5, AV.sl 1 (Seq.map encB (0 : UInt8) l) (Tip.tok 0)), (7, AV.int IntKind.i64 v),
        (8, AV.int IntKind.i64 (IntKind.wrap IntKind.i64 (w * (128 : Int)))), (12, AV.sl 1 (Seq.map encI (0 : Int) ns) tip2), (13, AV.int IntKind.i64 (↑k : Int)),
        (14, AV.int IntKind.i64 i)]
        [AObj.tok] (q140_7 n Post))
        (AWP Try.prog 48 n c140_9
        [(5, AV.sl 1 (Seq.map encB (0 : UInt8) l) (Tip.tok 0)), (7, AV.int IntKind.i64 v), (8, AV.int IntKind.i64 w),
        (12, AV.sl 1 (Seq.map encI (0 : Int) ns) tip2), (13, AV.int IntKind.i64 (↑k : Int)), (14, AV.int IntKind.i64 i)]
        [AObj.tok] (q140_9 n Post))) →
    AWP Try.prog 48 n c140_7
      [(5, AV.sl 1 (Seq.map encB (0 : UInt8) l) (Tip.tok 0)), (7, AV.int IntKind.i64 v), (8, AV.int IntKind.i64 w),
        (12, AV.sl 1 (Seq.map encI (0 : Int) ns) tip2), (13, AV.int IntKind.i64 (↑k : Int)), (14, AV.int IntKind.i64 i)]
      [AObj.tok] (q140_7 n Post) := fun l v w ns tip2 k i n Post h => Go.Ab.AWP.loop' g140 (Cfg.live g140) c140_7 (by kernel_rfl) (by kernel_rfl) (Go.Ab.kc (by kernel_rfl) h)
theorem v140_9 : ∀ (l : List UInt8) (v w : Int) (ns : List Int) (tip2 : Tip) (k : Nat) (i : Int) (n : Nat) (Post : AV → List AObj → Prop),
  condP (decide (w > (1 : Int)))
      (needP (w ≠ (0 : Int))
        (needP ((128 : Int) ≠ (0 : Int))
        (needP ((List.length l + 1) * 1 ≤ 140737488351232)
        (needP ((128 : Int) ≠ (0 : Int))
        (AWP Try.prog 48 n c140_9
        [(5,
        AV.sl 1
        (Seq.app (Seq.map encB (0 : UInt8) l)
        (Seq.raw [[AV.int IntKind.u8 (IntKind.wrap IntKind.u8 (IntKind.wrap IntKind.i64 ((128 : Int) + Int.tmod (IntKind.wrap IntKind.i64 (Int.tdiv v w)) (128 : Int))))]]))
        (Tip.tok 1)),
        (7, AV.int IntKind.i64 v), (8, AV.int IntKind.i64 (IntKind.wrap IntKind.i64 (Int.tdiv w (128 : Int)))),
        (12, AV.sl 1 (Seq.map encI (0 : Int) ns) tip2), (13, AV.int IntKind.i64 (↑k : Int)), (14, AV.int IntKind.i64 i)]
        [AObj.gone, AObj.tok] (q140_9 n Post))))))
      (needP ((128 : Int) ≠ (0 : Int))
        (needP ((List.length l + 1) * 1 ≤ 140737488351232)
        (AWP Try.prog 48 n c140_3
        [(5, AV.sl 1 (Seq.app (Seq.map encB (0 : UInt8) l) (Seq.raw [[AV.int IntKind.u8 (IntKind.wrap IntKind.u8 (Int.tmod v (128 : Int)))]])) (Tip.tok 1)),
        (12, AV.sl 1 (Seq.map encI (0 : Int) ns) tip2), (13, AV.int IntKind.i64 (↑k : Int)), (14, AV.int IntKind.i64 (IntKind.wrap IntKind.i64 (i + (1 : Int))))]
        [AObj.gone, AObj.tok] (q140_2 n Post)))) →
    AWP Try.prog 48 n c140_9
      [(5, AV.sl 1 (Seq.map encB (0 : UInt8) l) (Tip.tok 0)), (7, AV.int IntKind.i64 v), (8, AV.int IntKind.i64 w),
        (12, AV.sl 1 (Seq.map encI (0 : Int) ns) tip2), (13, AV.int IntKind.i64 (↑k : Int)), (14, AV.int IntKind.i64 i)]
      [AObj.tok] (q140_9 n Post) := fun l v w ns tip2 k i n Post h => Go.Ab.AWP.loop' g140 (Cfg.live g140) c140_9 (by kernel_rfl) (by kernel_rfl) (Go.Ab.kc (by kernel_rfl) h)

-- 141
noncomputable def l141 : Nat → List Nat
  | _ => []
noncomputable def u141 : Nat → Bool
  | _ => false
noncomputable def m141 : Nat → Bool
  | _ => false
noncomputable def g141 : Cfg := { N := 12, live := l141, cut := u141, mu := m141, ret := rets }
theorem s141 : ∀ (bs : List UInt8) (tip : Tip) (s : ByteArray) (Post : AV → List AObj → Prop),
  (ASpec Try.prog 140 [AV.sl 1 (Seq.map encB (0 : UInt8) bs) tip, AV.sl 1 (Seq.raw [[AV.int IntKind.i64 (↑(ByteArray.size s) : Int)]]) Tip.full] []
      fun (r : AV) (H' : List AObj) =>
      ∃ (x : List UInt8),
        r = AV.sl 1 (Seq.map encB (0 : UInt8) x) (Tip.tok 0) ∧
        H' = [AObj.tok] ∧
        needP (∀ (x : UInt8), List.all (encB x) oneAV = true)
        (needP ((List.length x + Seq.len (bytesSeq s)) * 1 ≤ 140737488351232)
        (Post (AV.sl 1 (Seq.app (Seq.map encB (0 : UInt8) x) (bytesSeq s)) (Tip.tok 1)) [AObj.gone, AObj.tok]))) →
    ASpec Try.prog 141 [AV.sl 1 (Seq.map encB (0 : UInt8) bs) tip, AV.str s] [] Post := fun bs tip s Post h => Go.Ab.ASpec.of_vc g141 Go.Proofs.Try.func141 (by kernel_rfl) (by kernel_rfl) (by kernel_rfl) (Go.Ab.kc (by kernel_rfl) h)

-- 150
noncomputable def l150 : Nat → List Nat
  | 3 => [0, 3]
  | _ => []
noncomputable def u150 : Nat → Bool
  | _ => false
noncomputable def m150 : Nat → Bool
  | _ => false
noncomputable def g150 : Cfg := { N := 25, live := l150, cut := u150, mu := m150, ret := rets }
noncomputable def c150 : Go.Code := Go.Ab.bodyOf Go.Proofs.Try.f150
noncomputable def q150_0 : Nat → (AV → List AObj → Prop) → AQ := fun (n : Nat) (Post : AV → List AObj → Prop) => endQ Try.prog (resultsOf Try.f150) Post
noncomputable def q150_1 : Nat → (AV → List AObj → Prop) → AQ := fun (n : Nat) (Post : AV → List AObj → Prop) => seqQ (fun (s' : Slots) (H' : List AObj) => awp Try.prog g150 n (codeSnd (codeSnd (codeSnd (codeSnd c150)))) s' H' (q150_0 n Post)) (q150_0 n Post)
noncomputable def q150_2 : Nat → (AV → List AObj → Prop) → AQ := fun (n : Nat) (Post : AV → List AObj → Prop) => blockQ 0 (q150_1 n Post)
noncomputable def c150_3 : Go.Code := codeFst (codeFst (codeSnd (codeSnd (codeSnd c150))))
theorem s150 : ∀ (x : Int) (Post : AV → List AObj → Prop),
  needP ((128 : Int) ≠ (0 : Int))
      (needP
        (allBytes
        (Seq.raw
        [[AV.int IntKind.u8
        (IntKind.wrap IntKind.u8
        (Int.tmod (if (1099511627776 : Int) < if (0 : Int) > x then (0 : Int) else x then (1099511627776 : Int) else if (0 : Int) > x then (0 : Int) else x) (128 : Int)))]]))
        (AWP Try.prog 25 0 c150_3
        [(0, AV.int IntKind.i64 (if (1099511627776 : Int) < if (0 : Int) > x then (0 : Int) else x then (1099511627776 : Int) else if (0 : Int) > x then (0 : Int) else x)),
        (3,
        AV.str
        (bytesOf
        (Seq.raw
        [[AV.int IntKind.u8
        (IntKind.wrap IntKind.u8
        (Int.tmod (if (1099511627776 : Int) < if (0 : Int) > x then (0 : Int) else x then (1099511627776 : Int) else if (0 : Int) > x then (0 : Int) else x) (128 : Int)))]])))]
        [] (q150_2 0 Post))) →
    ASpec Try.prog 150 [AV.int IntKind.i64 x] [] Post := fun x Post h => Go.Ab.ASpec.of_vc g150 Go.Proofs.Try.func150 (by kernel_rfl) (by kernel_rfl) (by kernel_rfl) (Go.Ab.kc (by kernel_rfl) h)
theorem v150_3 : ∀ (x : Int) (s : ByteArray) (n : Nat) (Post : AV → List AObj → Prop),
  condP (decide (x ≥ (128 : Int)))
      (needP ((128 : Int) ≠ (0 : Int))
        (needP ((128 : Int) ≠ (0 : Int))
        (needP
        (allBytes (Seq.raw [[AV.int IntKind.u8 (IntKind.wrap IntKind.u8 (IntKind.wrap IntKind.i64 ((128 : Int) + Int.tmod (IntKind.wrap IntKind.i64 (Int.tdiv x (128 : Int))) (128 : Int))))]]))
        (needP
        ((↑(ByteArray.size
        (bytesOf
        (Seq.raw
        [[AV.int IntKind.u8 (IntKind.wrap IntKind.u8 (IntKind.wrap IntKind.i64 ((128 : Int) + Int.tmod (IntKind.wrap IntKind.i64 (Int.tdiv x (128 : Int))) (128 : Int))))]])) +
        ByteArray.size s) :
        Int) ≤
        (9223372036854775807 : Int))
        (AWP Try.prog 25 n c150_3
        [(0, AV.int IntKind.i64 (IntKind.wrap IntKind.i64 (Int.tdiv x (128 : Int)))),
        (3,
        AV.str
        (bytesOf
        (Seq.raw
        [[AV.int IntKind.u8 (IntKind.wrap IntKind.u8 (IntKind.wrap IntKind.i64 ((128 : Int) + Int.tmod (IntKind.wrap IntKind.i64 (Int.tdiv x (128 : Int))) (128 : Int))))]]) ++
        s))]
        [] (q150_2 n Post))))))
      (Post (AV.str s) []) →
    AWP Try.prog 25 n c150_3 [(0, AV.int IntKind.i64 x), (3, AV.str s)] [] (q150_2 n Post) := fun x s n Post h => Go.Ab.AWP.loop' g150 (Cfg.live g150) c150_3 (by kernel_rfl) (by kernel_rfl) (Go.Ab.kc (by kernel_rfl) h)

-- 151
noncomputable def l151 : Nat → List Nat
  | _ => []
noncomputable def u151 : Nat → Bool
  | _ => false
noncomputable def m151 : Nat → Bool
  | _ => false
noncomputable def g151 : Cfg := { N := 8, live := l151, cut := u151, mu := m151, ret := rets }
theorem s151 : ∀ (s : ByteArray) (Post : AV → List AObj → Prop),
  (ASpec Try.prog 150 [AV.int IntKind.i64 (↑(ByteArray.size s) : Int)] [] fun (r : AV) (H' : List AObj) =>
      ∃ (x : ByteArray), r = AV.str x ∧ H' = [] ∧ needP ((↑(ByteArray.size x + ByteArray.size s) : Int) ≤ (9223372036854775807 : Int)) (Post (AV.str (x ++ s)) [])) →
    ASpec Try.prog 151 [AV.str s] [] Post := fun s Post h => Go.Ab.ASpec.of_vc g151 Go.Proofs.Try.func151 (by kernel_rfl) (by kernel_rfl) (by kernel_rfl) (Go.Ab.kc (by kernel_rfl) h)

-- 142
noncomputable def l147 : Nat → List Nat
  | _ => []
noncomputable def u147 : Nat → Bool
  | _ => false
noncomputable def m147 : Nat → Bool
  | _ => false
noncomputable def g147 : Cfg := { N := 37, live := l147, cut := u147, mu := m147, ret := rets }
theorem s147 : ∀ (s : ByteArray) (e most : Int) (Post : AV → List AObj → Prop),
  condP (e != (0 : Int)) (Post (AV.int IntKind.i64 (0 : Int)) [AObj.cells [AV.str s, AV.int IntKind.i64 e]])
      (ASpec Try.prog 252 [AV.str s, AV.int IntKind.i64 most] [AObj.cells [AV.str s, AV.int IntKind.i64 e]] fun (r : AV) (H' : List AObj) =>
        ∃ (x : Int × Int × Int),
        r = AV.tup [AV.int IntKind.i64 (Prod.fst x), AV.int IntKind.i64 (Prod.fst (Prod.snd x)), AV.int IntKind.i64 (Prod.snd (Prod.snd x))] ∧
        H' = [AObj.cells [AV.str s, AV.int IntKind.i64 e]] ∧
        needP ((0 : Int) ≤ Prod.fst (Prod.snd x) ∧ Prod.fst (Prod.snd x) ≤ (↑(ByteArray.size s) : Int))
        (Post (AV.int IntKind.i64 (Prod.fst x))
        [AObj.cells [AV.str (ByteArray.extract s (Int.toNat (Prod.fst (Prod.snd x))) (ByteArray.size s)), AV.int IntKind.i64 (Prod.snd (Prod.snd x))]])) →
    ASpec Try.prog 147 [AV.ptr 0 0, AV.int IntKind.i64 most] [AObj.cells [AV.str s, AV.int IntKind.i64 e]] Post := fun s e most Post h => Go.Ab.ASpec.of_vc g147 Go.Proofs.Try.func147 (by kernel_rfl) (by kernel_rfl) (by kernel_rfl) (Go.Ab.kc (by kernel_rfl) h)

-- 148
noncomputable def l148 : Nat → List Nat
  | _ => []
noncomputable def u148 : Nat → Bool
  | _ => false
noncomputable def m148 : Nat → Bool
  | _ => false
noncomputable def g148 : Cfg := { N := 64, live := l148, cut := u148, mu := m148, ret := rets }
theorem s148 : ∀ (s : ByteArray) (e most : Int) (Post : AV → List AObj → Prop),
  condP (e != (0 : Int)) (Post (AV.str { data := #[] }) [AObj.cells [AV.str s, AV.int IntKind.i64 e]])
      (ASpec Try.prog 252 [AV.str s, AV.int IntKind.i64 most] [AObj.cells [AV.str s, AV.int IntKind.i64 e]] fun (r : AV) (H' : List AObj) =>
        ∃ (x : Int × Int × Int),
        r = AV.tup [AV.int IntKind.i64 (Prod.fst x), AV.int IntKind.i64 (Prod.fst (Prod.snd x)), AV.int IntKind.i64 (Prod.snd (Prod.snd x))] ∧
        H' = [AObj.cells [AV.str s, AV.int IntKind.i64 e]] ∧
        condP (Prod.snd (Prod.snd x) == (0 : Int))
        (condP (decide (Prod.fst x > IntKind.wrap IntKind.i64 ((↑(ByteArray.size s) : Int) - Prod.fst (Prod.snd x))))
        (Post (AV.str { data := #[] }) [AObj.cells [AV.str s, AV.int IntKind.i64 (2 : Int)]])
        (condP (Prod.snd (Prod.snd x) != (0 : Int)) (Post (AV.str { data := #[] }) [AObj.cells [AV.str s, AV.int IntKind.i64 (Prod.snd (Prod.snd x))]])
        (needP
        ((0 : Int) ≤ Prod.fst (Prod.snd x) ∧
        Prod.fst (Prod.snd x) ≤ IntKind.wrap IntKind.i64 (Prod.fst (Prod.snd x) + Prod.fst x) ∧
        IntKind.wrap IntKind.i64 (Prod.fst (Prod.snd x) + Prod.fst x) ≤ (↑(ByteArray.size s) : Int))
        (needP ((0 : Int) ≤ IntKind.wrap IntKind.i64 (Prod.fst (Prod.snd x) + Prod.fst x) ∧ IntKind.wrap IntKind.i64 (Prod.fst (Prod.snd x) + Prod.fst x) ≤ (↑(ByteArray.size s) : Int))
        (Post (AV.str (ByteArray.extract s (Int.toNat (Prod.fst (Prod.snd x))) (Int.toNat (IntKind.wrap IntKind.i64 (Prod.fst (Prod.snd x) + Prod.fst x)))))
        [AObj.cells
        [AV.str (ByteArray.extract s (Int.toNat (IntKind.wrap IntKind.i64 (Prod.fst (Prod.snd x) + Prod.fst x))) (ByteArray.size s)),
        AV.int IntKind.i64 (Prod.snd (Prod.snd x))]])))))
        (condP (Prod.snd (Prod.snd x) != (0 : Int)) (Post (AV.str { data := #[] }) [AObj.cells [AV.str s, AV.int IntKind.i64 (Prod.snd (Prod.snd x))]])
        (needP
        ((0 : Int) ≤ Prod.fst (Prod.snd x) ∧
        Prod.fst (Prod.snd x) ≤ IntKind.wrap IntKind.i64 (Prod.fst (Prod.snd x) + Prod.fst x) ∧
        IntKind.wrap IntKind.i64 (Prod.fst (Prod.snd x) + Prod.fst x) ≤ (↑(ByteArray.size s) : Int))
        (needP ((0 : Int) ≤ IntKind.wrap IntKind.i64 (Prod.fst (Prod.snd x) + Prod.fst x) ∧ IntKind.wrap IntKind.i64 (Prod.fst (Prod.snd x) + Prod.fst x) ≤ (↑(ByteArray.size s) : Int))
        (Post (AV.str (ByteArray.extract s (Int.toNat (Prod.fst (Prod.snd x))) (Int.toNat (IntKind.wrap IntKind.i64 (Prod.fst (Prod.snd x) + Prod.fst x)))))
        [AObj.cells
        [AV.str (ByteArray.extract s (Int.toNat (IntKind.wrap IntKind.i64 (Prod.fst (Prod.snd x) + Prod.fst x))) (ByteArray.size s)),
        AV.int IntKind.i64 (Prod.snd (Prod.snd x))]]))))) →
    ASpec Try.prog 148 [AV.ptr 0 0, AV.int IntKind.i64 most] [AObj.cells [AV.str s, AV.int IntKind.i64 e]] Post := fun s e most Post h => Go.Ab.ASpec.of_vc g148 Go.Proofs.Try.func148 (by kernel_rfl) (by kernel_rfl) (by kernel_rfl) (Go.Ab.kc (by kernel_rfl) h)

-- 149
noncomputable def l149 : Nat → List Nat
  | _ => []
noncomputable def u149 : Nat → Bool
  | _ => false
noncomputable def m149 : Nat → Bool
  | _ => false
noncomputable def g149 : Cfg := { N := 19, live := l149, cut := u149, mu := m149, ret := rets }
theorem s149 : ∀ (s : ByteArray) (e : Int) (Post : AV → List AObj → Prop),
  condP (e == (0 : Int))
      (condP (!ByteArray.toList s == ByteArray.toList { data := #[] }) (Post (AV.int IntKind.i64 (3 : Int)) [AObj.cells [AV.str s, AV.int IntKind.i64 e]])
        (Post (AV.int IntKind.i64 e) [AObj.cells [AV.str s, AV.int IntKind.i64 e]]))
      (Post (AV.int IntKind.i64 e) [AObj.cells [AV.str s, AV.int IntKind.i64 e]]) →
    ASpec Try.prog 149 [AV.ptr 0 0] [AObj.cells [AV.str s, AV.int IntKind.i64 e]] Post := fun s e Post h => Go.Ab.ASpec.of_vc g149 Go.Proofs.Try.func149 (by kernel_rfl) (by kernel_rfl) (by kernel_rfl) (Go.Ab.kc (by kernel_rfl) h)

-- 250
noncomputable def l252 : Nat → List Nat
  | 6 => [0, 1, 7]
  | 14 => [0, 1, 7, 8, 9]
  | _ => []
noncomputable def u252 : Nat → Bool
  | _ => false
noncomputable def m252 : Nat → Bool
  | _ => false
noncomputable def g252 : Cfg := { N := 60, live := l252, cut := u252, mu := m252, ret := rets }
noncomputable def c252 : Go.Code := Go.Ab.bodyOf Go.Proofs.Try.f252
noncomputable def q252_0 : Nat → (AV → List AObj → Prop) → AQ := fun (n : Nat) (Post : AV → List AObj → Prop) => endQ Try.prog (resultsOf Try.f252) Post
noncomputable def q252_1 : Nat → (AV → List AObj → Prop) → AQ := fun (n : Nat) (Post : AV → List AObj → Prop) => seqQ (fun (s' : Slots) (H' : List AObj) => awp Try.prog g252 n (codeSnd (codeSnd (codeSnd (codeSnd (codeSnd c252))))) s' H' (q252_0 n Post)) (q252_0 n Post)
noncomputable def q252_2 : Nat → (AV → List AObj → Prop) → AQ := fun (n : Nat) (Post : AV → List AObj → Prop) => blockQ 0 (q252_1 n Post)
noncomputable def c252_6 : Go.Code := codeFst (codeFst (codeSnd (codeSnd (codeSnd (codeSnd c252)))))
theorem s252 : ∀ (s : ByteArray) (most : Int) (Post : AV → List AObj → Prop),
  condP (ByteArray.toList s == ByteArray.toList { data := #[] }) (Post (AV.tup [AV.int IntKind.i64 (0 : Int), AV.int IntKind.i64 (0 : Int), AV.int IntKind.i64 (2 : Int)]) [])
      (needP ((0 : Int) ≤ (0 : Int) ∧ (0 : Int) < (↑(ByteArray.size s) : Int))
        (condP ((↑(UInt8.toNat (List.getD (Array.toList (ByteArray.data s)) 0 (0 : UInt8))) : Int) == (128 : Int))
        (Post (AV.tup [AV.int IntKind.i64 (0 : Int), AV.int IntKind.i64 (0 : Int), AV.int IntKind.i64 (3 : Int)]) [])
        (AWP Try.prog 60 0 c252_6 [(0, AV.str s), (1, AV.int IntKind.i64 most), (7, AV.int IntKind.i64 (0 : Int))] [] (q252_2 0 Post)))) →
    ASpec Try.prog 252 [AV.str s, AV.int IntKind.i64 most] [] Post := fun s most Post h => Go.Ab.ASpec.of_vc g252 Go.Proofs.Try.func252 (by kernel_rfl) (by kernel_rfl) (by kernel_rfl) (Go.Ab.kc (by kernel_rfl) h)
noncomputable def q252_3 : Nat → (AV → List AObj → Prop) → AQ := fun (n : Nat) (Post : AV → List AObj → Prop) => seqQ (fun (s' : Slots) (H' : List AObj) => awp Try.prog g252 n (codeSnd (codeSnd (codeSnd (codeSnd (codeSnd (codeSnd (codeSnd (codeSnd (codeSnd c252))))))))) s' H' (q252_0 n Post)) (q252_0 n Post)
noncomputable def q252_4 : Nat → (AV → List AObj → Prop) → AQ := fun (n : Nat) (Post : AV → List AObj → Prop) => blockQ 2 (q252_3 n Post)
noncomputable def c252_14 : Go.Code := codeFst (codeSnd (codeFst (codeSnd (codeSnd (codeSnd (codeSnd (codeSnd (codeSnd (codeSnd (codeSnd c252))))))))))
theorem v252_6 : ∀ (s : ByteArray) (most k : Int) (n : Nat) (Post : AV → List AObj → Prop),
  condP (decide (k < (↑(ByteArray.size s) : Int)))
      (condP (decide (k < (6 : Int)))
        (needP ((0 : Int) ≤ k ∧ k < (↑(ByteArray.size s) : Int))
        (condP (decide ((↑(UInt8.toNat (List.getD (Array.toList (ByteArray.data s)) (Int.toNat k) (0 : UInt8))) : Int) ≥ (128 : Int)))
        (AWP Try.prog 60 n c252_6 [(0, AV.str s), (1, AV.int IntKind.i64 most), (7, AV.int IntKind.i64 (IntKind.wrap IntKind.i64 (k + (1 : Int))))] []
        (q252_2 n Post))
        (condP (k == (6 : Int)) (Post (AV.tup [AV.int IntKind.i64 (0 : Int), AV.int IntKind.i64 (0 : Int), AV.int IntKind.i64 (4 : Int)]) [])
        (condP (k == (↑(ByteArray.size s) : Int)) (Post (AV.tup [AV.int IntKind.i64 (0 : Int), AV.int IntKind.i64 (0 : Int), AV.int IntKind.i64 (2 : Int)]) [])
        (AWP Try.prog 60 n c252_14
        [(0, AV.str s), (1, AV.int IntKind.i64 most), (7, AV.int IntKind.i64 k), (8, AV.int IntKind.i64 (0 : Int)), (9, AV.int IntKind.i64 (0 : Int))]
        [] (q252_4 n Post))))))
        (condP (k == (6 : Int)) (Post (AV.tup [AV.int IntKind.i64 (0 : Int), AV.int IntKind.i64 (0 : Int), AV.int IntKind.i64 (4 : Int)]) [])
        (condP (k == (↑(ByteArray.size s) : Int)) (Post (AV.tup [AV.int IntKind.i64 (0 : Int), AV.int IntKind.i64 (0 : Int), AV.int IntKind.i64 (2 : Int)]) [])
        (AWP Try.prog 60 n c252_14
        [(0, AV.str s), (1, AV.int IntKind.i64 most), (7, AV.int IntKind.i64 k), (8, AV.int IntKind.i64 (0 : Int)), (9, AV.int IntKind.i64 (0 : Int))] []
        (q252_4 n Post)))))
      (condP (k == (6 : Int)) (Post (AV.tup [AV.int IntKind.i64 (0 : Int), AV.int IntKind.i64 (0 : Int), AV.int IntKind.i64 (4 : Int)]) [])
        (condP (k == (↑(ByteArray.size s) : Int)) (Post (AV.tup [AV.int IntKind.i64 (0 : Int), AV.int IntKind.i64 (0 : Int), AV.int IntKind.i64 (2 : Int)]) [])
        (AWP Try.prog 60 n c252_14
        [(0, AV.str s), (1, AV.int IntKind.i64 most), (7, AV.int IntKind.i64 k), (8, AV.int IntKind.i64 (0 : Int)), (9, AV.int IntKind.i64 (0 : Int))] []
        (q252_4 n Post)))) →
    AWP Try.prog 60 n c252_6 [(0, AV.str s), (1, AV.int IntKind.i64 most), (7, AV.int IntKind.i64 k)] [] (q252_2 n Post) := fun s most k n Post h => Go.Ab.AWP.loop' g252 (Cfg.live g252) c252_6 (by kernel_rfl) (by kernel_rfl) (Go.Ab.kc (by kernel_rfl) h)
theorem v252_14 : ∀ (s : ByteArray) (most k x i : Int) (n : Nat) (Post : AV → List AObj → Prop),
  condP (decide (i ≤ k))
      (needP ((0 : Int) ≤ i ∧ i < (↑(ByteArray.size s) : Int))
        (needP ((128 : Int) ≠ (0 : Int))
        (AWP Try.prog 60 n c252_14
        [(0, AV.str s), (1, AV.int IntKind.i64 most), (7, AV.int IntKind.i64 k),
        (8,
        AV.int IntKind.i64
        (IntKind.wrap IntKind.i64
        (IntKind.wrap IntKind.i64 (x * (128 : Int)) +
        IntKind.wrap IntKind.i64 (Int.tmod (↑(UInt8.toNat (List.getD (Array.toList (ByteArray.data s)) (Int.toNat i) (0 : UInt8))) : Int) (128 : Int))))),
        (9, AV.int IntKind.i64 (IntKind.wrap IntKind.i64 (i + (1 : Int))))]
        [] (q252_4 n Post))))
      (condP (decide (x > (1099511627776 : Int))) (Post (AV.tup [AV.int IntKind.i64 (0 : Int), AV.int IntKind.i64 (0 : Int), AV.int IntKind.i64 (4 : Int)]) [])
        (condP (decide (x > most)) (Post (AV.tup [AV.int IntKind.i64 (0 : Int), AV.int IntKind.i64 (0 : Int), AV.int IntKind.i64 (4 : Int)]) [])
        (Post (AV.tup [AV.int IntKind.i64 x, AV.int IntKind.i64 (IntKind.wrap IntKind.i64 (k + (1 : Int))), AV.int IntKind.i64 (0 : Int)]) []))) →
    AWP Try.prog 60 n c252_14
      [(0, AV.str s), (1, AV.int IntKind.i64 most), (7, AV.int IntKind.i64 k), (8, AV.int IntKind.i64 x), (9, AV.int IntKind.i64 i)] [] (q252_4 n Post) := fun s most k x i n Post h => Go.Ab.AWP.loop' g252 (Cfg.live g252) c252_14 (by kernel_rfl) (by kernel_rfl) (Go.Ab.kc (by kernel_rfl) h)

end
end V
end

section
/- Spans, needs, releases and manifests as cells. -/

open Go Go.Ab Go.Proofs
namespace T
abbrev Span := Int × Int
abbrev Need := List UInt8 × List Span
abbrev Rel := Int × List Need
abbrev Mani := List UInt8 × List Rel
noncomputable def encS (x : Span) : List AV := [.int .i64 x.1, .int .i64 x.2]
noncomputable def encN (x : Need) : List AV := [.str ⟨x.1.toArray⟩, .sl 2 (.map encS (0, 0) x.2) .none]
noncomputable def encR (x : Rel) : List AV := [.int .i64 x.1, .sl 2 (.map encN ([], []) x.2) .none]
noncomputable def encM (x : Mani) : List AV := [.str ⟨x.1.toArray⟩, .sl 2 (.map encR (0, []) x.2) .none]
end T
end

section
/- Printed: what the code of functions 256, 285, 232, 239, 185, 186, 231, 130, 66, 163, 173, 62 asks for, by the framework's own reading of it; each line is checked against the code. -/

set_option linter.unusedVariables false
set_option maxRecDepth 100000
set_option maxHeartbeats 4000000
open Go Go.Ab Go.Proofs
namespace C
noncomputable section

noncomputable def retC : List (Nat × Ret) := [
  (39, ⟨Bool, fun _ _ x => .bool x, fun _ H _ => H⟩), (66, ⟨Bool, fun _ _ x => .bool x, fun _ H _ => H⟩), (62, ⟨Bool, fun _ _ x => .bool x, fun _ H _ => H⟩), (186, ⟨Bool, fun _ _ x => .bool x, fun _ H _ => H⟩),
  (154, ⟨Bool, fun _ _ x => .bool x, fun _ H _ => H⟩), (130, ⟨Bool, fun _ _ x => .bool x, fun _ H _ => H⟩), (185, ⟨Bool, fun _ _ x => .bool x, fun _ H _ => H⟩), (173, ⟨Bool, fun _ _ x => .bool x, fun _ H _ => H⟩),
  (231, ⟨Bool, fun _ _ x => .bool x, fun _ H _ => H⟩), (239, ⟨Bool, fun _ _ x => .bool x, fun _ H _ => H⟩), (163, ⟨Bool, fun _ _ x => .bool x, fun _ H _ => H⟩), (232, ⟨Bool, fun _ _ x => .bool x, fun _ H _ => H⟩),
  (285, ⟨Bool, fun _ _ x => .bool x, fun _ H _ => H⟩), (256, ⟨Bool, fun _ _ x => .bool x, fun _ H _ => H⟩)]
noncomputable def rets : FuncId → List Ret := lookupR (retC ++ V.retL)

-- 256
noncomputable def l256 : Nat → List Nat
  | 3 => [3, 6, 7, 8]
  | _ => []
noncomputable def u256 : Nat → Bool
  | _ => false
noncomputable def m256 : Nat → Bool
  | _ => false
noncomputable def g256 : Cfg := { N := 31, live := l256, cut := u256, mu := m256, ret := rets }
noncomputable def c256 : Go.Code := Go.Ab.bodyOf Go.Proofs.Try.f256
noncomputable def q256_0 : Nat → (AV → List AObj → Prop) → AQ := fun (n : Nat) (Post : AV → List AObj → Prop) => endQ Try.prog (resultsOf Try.f256) Post
noncomputable def q256_1 : Nat → (AV → List AObj → Prop) → AQ := fun (n : Nat) (Post : AV → List AObj → Prop) => seqQ (fun (s' : Slots) (H' : List AObj) => awp Try.prog g256 n (codeSnd (codeSnd (codeSnd c256))) s' H' (q256_0 n Post)) (q256_0 n Post)
noncomputable def q256_2 : Nat → (AV → List AObj → Prop) → AQ := fun (n : Nat) (Post : AV → List AObj → Prop) => blockQ 0 (q256_1 n Post)
noncomputable def c256_3 : Go.Code := codeFst (codeSnd (codeFst (codeSnd (codeSnd c256))))
theorem s256 : ∀ (l : List T.Span) (Post : AV → List AObj → Prop),
  AWP Try.prog 31 0 c256_3
      [(3, AV.int IntKind.i64 (-1 : Int)), (6, AV.sl 2 (Seq.map T.encS ((0 : Int), (0 : Int)) l) Tip.none), (7, AV.int IntKind.i64 (↑(List.length l) : Int)),
        (8, AV.int IntKind.i64 (0 : Int))]
      [] (q256_2 0 Post) →
    ASpec Try.prog 256 [AV.sl 2 (Seq.map T.encS ((0 : Int), (0 : Int)) l) Tip.none] [] Post := fun l Post h => Go.Ab.ASpec.of_vc g256 Go.Proofs.Try.func256 (by kernel_rfl) (by kernel_rfl) (by kernel_rfl) (Go.Ab.kc (by kernel_rfl) h)
theorem v256_3 : ∀ (l : List T.Span) (e n i : Int) (n_1 : Nat) (Post : AV → List AObj → Prop),
  condP (decide (i < n))
      (needP ((0 : Int) ≤ i ∧ i < (↑(List.length l) : Int))
        (condP (decide (Prod.fst (List.getD l (Int.toNat i) ((0 : Int), (0 : Int))) ≤ e))
        (Post (AV.bool false)
        [AObj.cells [AV.int IntKind.i64 (Prod.fst (List.getD l (Int.toNat i) ((0 : Int), (0 : Int)))), AV.int IntKind.i64 (Prod.snd (List.getD l (Int.toNat i) ((0 : Int), (0 : Int))))]])
        (condP (decide (Prod.fst (List.getD l (Int.toNat i) ((0 : Int), (0 : Int))) ≥ Prod.snd (List.getD l (Int.toNat i) ((0 : Int), (0 : Int)))))
        (Post (AV.bool false)
        [AObj.cells [AV.int IntKind.i64 (Prod.fst (List.getD l (Int.toNat i) ((0 : Int), (0 : Int)))), AV.int IntKind.i64 (Prod.snd (List.getD l (Int.toNat i) ((0 : Int), (0 : Int))))]])
        (condP (decide (Prod.snd (List.getD l (Int.toNat i) ((0 : Int), (0 : Int))) > (1000000000 : Int)))
        (Post (AV.bool false)
        [AObj.cells [AV.int IntKind.i64 (Prod.fst (List.getD l (Int.toNat i) ((0 : Int), (0 : Int)))), AV.int IntKind.i64 (Prod.snd (List.getD l (Int.toNat i) ((0 : Int), (0 : Int))))]])
        (AWP Try.prog 31 n_1 c256_3
        [(3, AV.int IntKind.i64 (Prod.snd (List.getD l (Int.toNat i) ((0 : Int), (0 : Int))))), (6, AV.sl 2 (Seq.map T.encS ((0 : Int), (0 : Int)) l) Tip.none),
        (7, AV.int IntKind.i64 n), (8, AV.int IntKind.i64 (IntKind.wrap IntKind.i64 (i + (1 : Int))))]
        [AObj.cells [AV.int IntKind.i64 (Prod.fst (List.getD l (Int.toNat i) ((0 : Int), (0 : Int)))), AV.int IntKind.i64 (Prod.snd (List.getD l (Int.toNat i) ((0 : Int), (0 : Int))))]]
        (q256_2 n_1 Post))))))
      (Post (AV.bool true) []) →
    AWP Try.prog 31 n_1 c256_3
      [(3, AV.int IntKind.i64 e), (6, AV.sl 2 (Seq.map T.encS ((0 : Int), (0 : Int)) l) Tip.none), (7, AV.int IntKind.i64 n), (8, AV.int IntKind.i64 i)] []
      (q256_2 n_1 Post) := fun l e n i n Post h => Go.Ab.AWP.loop' g256 (Cfg.live g256) c256_3 (by kernel_rfl) (by kernel_rfl) (Go.Ab.kc (by kernel_rfl) h)

-- 285
noncomputable def l285 : Nat → List Nat
  | 2 => [0, 3]
  | _ => []
noncomputable def u285 : Nat → Bool
  | _ => false
noncomputable def m285 : Nat → Bool
  | _ => false
noncomputable def g285 : Cfg := { N := 55, live := l285, cut := u285, mu := m285, ret := rets }
noncomputable def c285 : Go.Code := Go.Ab.bodyOf Go.Proofs.Try.f285
noncomputable def q285_0 : Nat → (AV → List AObj → Prop) → AQ := fun (n : Nat) (Post : AV → List AObj → Prop) => endQ Try.prog (resultsOf Try.f285) Post
noncomputable def q285_1 : Nat → (AV → List AObj → Prop) → AQ := fun (n : Nat) (Post : AV → List AObj → Prop) => seqQ (fun (s' : Slots) (H' : List AObj) => awp Try.prog g285 n (codeSnd (codeSnd c285)) s' H' (q285_0 n Post)) (q285_0 n Post)
noncomputable def q285_2 : Nat → (AV → List AObj → Prop) → AQ := fun (n : Nat) (Post : AV → List AObj → Prop) => blockQ 0 (q285_1 n Post)
noncomputable def c285_2 : Go.Code := codeFst (codeSnd (codeFst (codeSnd c285)))
theorem s285 : ∀ (l : List T.Span) (Post : AV → List AObj → Prop),
  AWP Try.prog 55 0 c285_2 [(0, AV.sl 2 (Seq.map T.encS ((0 : Int), (0 : Int)) l) Tip.none), (3, AV.int IntKind.i64 (0 : Int))] [] (q285_2 0 Post) →
    ASpec Try.prog 285 [AV.sl 2 (Seq.map T.encS ((0 : Int), (0 : Int)) l) Tip.none] [] Post := fun l Post h => Go.Ab.ASpec.of_vc g285 Go.Proofs.Try.func285 (by kernel_rfl) (by kernel_rfl) (by kernel_rfl) (Go.Ab.kc (by kernel_rfl) h)
theorem v285_2 : ∀ (l : List T.Span) (i : Int) (n : Nat) (Post : AV → List AObj → Prop),
  condP (decide (i < (↑(List.length l) : Int)))
      (needP ((0 : Int) ≤ i ∧ i < (↑(List.length l) : Int))
        (condP (decide (Prod.fst (List.getD l (Int.toNat i) ((0 : Int), (0 : Int))) < (0 : Int))) (Post (AV.bool false) [])
        (needP ((0 : Int) ≤ i ∧ i < (↑(List.length l) : Int))
        (condP (decide (Prod.snd (List.getD l (Int.toNat i) ((0 : Int), (0 : Int))) > (1000000000 : Int))) (Post (AV.bool false) [])
        (needP ((0 : Int) ≤ i ∧ i < (↑(List.length l) : Int))
        (needP ((0 : Int) ≤ i ∧ i < (↑(List.length l) : Int))
        (condP (decide (Prod.fst (List.getD l (Int.toNat i) ((0 : Int), (0 : Int))) ≥ Prod.snd (List.getD l (Int.toNat i) ((0 : Int), (0 : Int))))) (Post (AV.bool false) [])
        (condP (decide (i > (0 : Int)))
        (needP ((0 : Int) ≤ i ∧ i < (↑(List.length l) : Int))
        (needP ((0 : Int) ≤ IntKind.wrap IntKind.i64 (i - (1 : Int)) ∧ IntKind.wrap IntKind.i64 (i - (1 : Int)) < (↑(List.length l) : Int))
        (condP
        (decide
        (Prod.fst (List.getD l (Int.toNat i) ((0 : Int), (0 : Int))) ≤ Prod.snd (List.getD l (Int.toNat (IntKind.wrap IntKind.i64 (i - (1 : Int)))) ((0 : Int), (0 : Int)))))
        (Post (AV.bool false) [])
        (AWP Try.prog 55 n c285_2
        [(0, AV.sl 2 (Seq.map T.encS ((0 : Int), (0 : Int)) l) Tip.none), (3, AV.int IntKind.i64 (IntKind.wrap IntKind.i64 (i + (1 : Int))))] []
        (q285_2 n Post)))))
        (AWP Try.prog 55 n c285_2
        [(0, AV.sl 2 (Seq.map T.encS ((0 : Int), (0 : Int)) l) Tip.none), (3, AV.int IntKind.i64 (IntKind.wrap IntKind.i64 (i + (1 : Int))))] []
        (q285_2 n Post))))))))))
      (Post (AV.bool true) []) →
    AWP Try.prog 55 n c285_2 [(0, AV.sl 2 (Seq.map T.encS ((0 : Int), (0 : Int)) l) Tip.none), (3, AV.int IntKind.i64 i)] [] (q285_2 n Post) := fun l i n Post h => Go.Ab.AWP.loop' g285 (Cfg.live g285) c285_2 (by kernel_rfl) (by kernel_rfl) (Go.Ab.kc (by kernel_rfl) h)

-- 232
noncomputable def l232 : Nat → List Nat
  | 3 => [0, 3, 6, 7, 8]
  | _ => []
noncomputable def u232 : Nat → Bool
  | _ => false
noncomputable def m232 : Nat → Bool
  | _ => false
noncomputable def g232 : Cfg := { N := 40, live := l232, cut := u232, mu := m232, ret := rets }
noncomputable def c232 : Go.Code := Go.Ab.bodyOf Go.Proofs.Try.f232
noncomputable def q232_0 : Nat → (AV → List AObj → Prop) → AQ := fun (n : Nat) (Post : AV → List AObj → Prop) => endQ Try.prog (resultsOf Try.f232) Post
noncomputable def q232_1 : Nat → (AV → List AObj → Prop) → AQ := fun (n : Nat) (Post : AV → List AObj → Prop) => seqQ (fun (s' : Slots) (H' : List AObj) => awp Try.prog g232 n (codeSnd (codeSnd (codeSnd c232))) s' H' (q232_0 n Post)) (q232_0 n Post)
noncomputable def q232_2 : Nat → (AV → List AObj → Prop) → AQ := fun (n : Nat) (Post : AV → List AObj → Prop) => blockQ 0 (q232_1 n Post)
noncomputable def c232_3 : Go.Code := codeFst (codeSnd (codeFst (codeSnd (codeSnd c232))))
theorem s232 : ∀ (l : List T.Need) (Post : AV → List AObj → Prop),
  AWP Try.prog 40 0 c232_3
      [(0, AV.sl 2 (Seq.map T.encN ([], []) l) Tip.none), (3, AV.str { data := #[] }), (6, AV.sl 2 (Seq.map T.encN ([], []) l) Tip.none),
        (7, AV.int IntKind.i64 (↑(List.length l) : Int)), (8, AV.int IntKind.i64 (0 : Int))]
      [] (q232_2 0 Post) →
    ASpec Try.prog 232 [AV.sl 2 (Seq.map T.encN ([], []) l) Tip.none] [] Post := fun l Post h => Go.Ab.ASpec.of_vc g232 Go.Proofs.Try.func232 (by kernel_rfl) (by kernel_rfl) (by kernel_rfl) (Go.Ab.kc (by kernel_rfl) h)
theorem v232_3 : ∀ (l : List T.Need) (s : ByteArray) (n i : Int) (n_1 : Nat) (Post : AV → List AObj → Prop),
  condP (decide (i < n))
      (needP ((0 : Int) ≤ i ∧ i < (↑(List.length l) : Int))
        (ASpec Try.prog 154 [AV.str { data := List.toArray (Prod.fst (List.getD l (Int.toNat i) ([], []))) }]
        [AObj.cells
        [AV.str { data := List.toArray (Prod.fst (List.getD l (Int.toNat i) ([], []))) },
        AV.sl 2 (Seq.map T.encS ((0 : Int), (0 : Int)) (Prod.snd (List.getD l (Int.toNat i) ([], [])))) Tip.none]]
        fun (r : AV) (H' : List AObj) =>
        ∃ (x : Bool),
        r = AV.bool x ∧
        H' =
        [AObj.cells
        [AV.str { data := List.toArray (Prod.fst (List.getD l (Int.toNat i) ([], []))) },
        AV.sl 2 (Seq.map T.encS ((0 : Int), (0 : Int)) (Prod.snd (List.getD l (Int.toNat i) ([], [])))) Tip.none]] ∧
        condP (!x)
        (Post (AV.bool false)
        [AObj.cells
        [AV.str { data := List.toArray (Prod.fst (List.getD l (Int.toNat i) ([], []))) },
        AV.sl 2 (Seq.map T.encS ((0 : Int), (0 : Int)) (Prod.snd (List.getD l (Int.toNat i) ([], [])))) Tip.none]])
        (condP
        (Op.bytesLess (ByteArray.toList { data := List.toArray (Prod.fst (List.getD l (Int.toNat i) ([], []))) }) (ByteArray.toList s) ||
        ByteArray.toList { data := List.toArray (Prod.fst (List.getD l (Int.toNat i) ([], []))) } == ByteArray.toList s)
        (Post (AV.bool false)
        [AObj.cells
        [AV.str { data := List.toArray (Prod.fst (List.getD l (Int.toNat i) ([], []))) },
        AV.sl 2 (Seq.map T.encS ((0 : Int), (0 : Int)) (Prod.snd (List.getD l (Int.toNat i) ([], [])))) Tip.none]])
        (condP (decide ((↑(List.length (Prod.snd (List.getD l (Int.toNat i) ([], [])))) : Int) > (6 : Int)))
        (Post (AV.bool false)
        [AObj.cells
        [AV.str { data := List.toArray (Prod.fst (List.getD l (Int.toNat i) ([], []))) },
        AV.sl 2 (Seq.map T.encS ((0 : Int), (0 : Int)) (Prod.snd (List.getD l (Int.toNat i) ([], [])))) Tip.none]])
        (ASpec Try.prog 256 [AV.sl 2 (Seq.map T.encS ((0 : Int), (0 : Int)) (Prod.snd (List.getD l (Int.toNat i) ([], [])))) Tip.none]
        [AObj.cells
        [AV.str { data := List.toArray (Prod.fst (List.getD l (Int.toNat i) ([], []))) },
        AV.sl 2 (Seq.map T.encS ((0 : Int), (0 : Int)) (Prod.snd (List.getD l (Int.toNat i) ([], [])))) Tip.none]]
        fun (r : AV) (H' : List AObj) =>
        ∃ (x : Bool),
        r = AV.bool x ∧
        H' =
        [AObj.cells
        [AV.str { data := List.toArray (Prod.fst (List.getD l (Int.toNat i) ([], []))) },
        AV.sl 2 (Seq.map T.encS ((0 : Int), (0 : Int)) (Prod.snd (List.getD l (Int.toNat i) ([], [])))) Tip.none]] ∧
        condP (!x)
        (Post (AV.bool false)
        [AObj.cells
        [AV.str { data := List.toArray (Prod.fst (List.getD l (Int.toNat i) ([], []))) },
        AV.sl 2 (Seq.map T.encS ((0 : Int), (0 : Int)) (Prod.snd (List.getD l (Int.toNat i) ([], [])))) Tip.none]])
        (AWP Try.prog 40 n_1 c232_3
        [(0, AV.sl 2 (Seq.map T.encN ([], []) l) Tip.none), (3, AV.str { data := List.toArray (Prod.fst (List.getD l (Int.toNat i) ([], []))) }),
        (6, AV.sl 2 (Seq.map T.encN ([], []) l) Tip.none), (7, AV.int IntKind.i64 n),
        (8, AV.int IntKind.i64 (IntKind.wrap IntKind.i64 (i + (1 : Int))))]
        [AObj.cells
        [AV.str { data := List.toArray (Prod.fst (List.getD l (Int.toNat i) ([], []))) },
        AV.sl 2 (Seq.map T.encS ((0 : Int), (0 : Int)) (Prod.snd (List.getD l (Int.toNat i) ([], [])))) Tip.none]]
        (q232_2 n_1 Post)))))))
      (Post (AV.bool (decide ((↑(List.length l) : Int) ≤ (6 : Int)))) []) →
    AWP Try.prog 40 n_1 c232_3
      [(0, AV.sl 2 (Seq.map T.encN ([], []) l) Tip.none), (3, AV.str s), (6, AV.sl 2 (Seq.map T.encN ([], []) l) Tip.none), (7, AV.int IntKind.i64 n),
        (8, AV.int IntKind.i64 i)]
      [] (q232_2 n_1 Post) := fun l s n i n Post h => Go.Ab.AWP.loop' g232 (Cfg.live g232) c232_3 (by kernel_rfl) (by kernel_rfl) (Go.Ab.kc (by kernel_rfl) h)

-- 239
noncomputable def l239 : Nat → List Nat
  | 2 => [0, 3]
  | _ => []
noncomputable def u239 : Nat → Bool
  | _ => false
noncomputable def m239 : Nat → Bool
  | _ => false
noncomputable def g239 : Cfg := { N := 56, live := l239, cut := u239, mu := m239, ret := rets }
noncomputable def c239 : Go.Code := Go.Ab.bodyOf Go.Proofs.Try.f239
noncomputable def q239_0 : Nat → (AV → List AObj → Prop) → AQ := fun (n : Nat) (Post : AV → List AObj → Prop) => endQ Try.prog (resultsOf Try.f239) Post
noncomputable def q239_1 : Nat → (AV → List AObj → Prop) → AQ := fun (n : Nat) (Post : AV → List AObj → Prop) => seqQ (fun (s' : Slots) (H' : List AObj) => awp Try.prog g239 n (codeSnd (codeSnd c239)) s' H' (q239_0 n Post)) (q239_0 n Post)
noncomputable def q239_2 : Nat → (AV → List AObj → Prop) → AQ := fun (n : Nat) (Post : AV → List AObj → Prop) => blockQ 0 (q239_1 n Post)
noncomputable def c239_2 : Go.Code := codeFst (codeSnd (codeFst (codeSnd c239)))
theorem s239 : ∀ (l : List T.Need) (Post : AV → List AObj → Prop),
  AWP Try.prog 56 0 c239_2 [(0, AV.sl 2 (Seq.map T.encN ([], []) l) Tip.none), (3, AV.int IntKind.i64 (0 : Int))] [] (q239_2 0 Post) →
    ASpec Try.prog 239 [AV.sl 2 (Seq.map T.encN ([], []) l) Tip.none] [] Post := fun l Post h => Go.Ab.ASpec.of_vc g239 Go.Proofs.Try.func239 (by kernel_rfl) (by kernel_rfl) (by kernel_rfl) (Go.Ab.kc (by kernel_rfl) h)
theorem v239_2 : ∀ (l : List T.Need) (i : Int) (n : Nat) (Post : AV → List AObj → Prop),
  condP (decide (i < (↑(List.length l) : Int)))
      (needP ((0 : Int) ≤ i ∧ i < (↑(List.length l) : Int))
        (ASpec Try.prog 39 [AV.str { data := List.toArray (Prod.fst (List.getD l (Int.toNat i) ([], []))) }] [] fun (r : AV) (H' : List AObj) =>
        ∃ (x : Bool),
        r = AV.bool x ∧
        H' = [] ∧
        condP (!x) (Post (AV.bool false) [])
        (needP ((0 : Int) ≤ i ∧ i < (↑(List.length l) : Int))
        (ASpec Try.prog 285 [AV.sl 2 (Seq.map T.encS ((0 : Int), (0 : Int)) (Prod.snd (List.getD l (Int.toNat i) ([], [])))) Tip.none] [] fun (r : AV) (H' : List AObj) =>
        ∃ (x : Bool),
        r = AV.bool x ∧
        H' = [] ∧
        condP (!x) (Post (AV.bool false) [])
        (needP ((0 : Int) ≤ i ∧ i < (↑(List.length l) : Int))
        (condP (decide ((↑(List.length (Prod.snd (List.getD l (Int.toNat i) ([], [])))) : Int) > (6 : Int))) (Post (AV.bool false) [])
        (condP (decide (i > (0 : Int)))
        (needP ((0 : Int) ≤ i ∧ i < (↑(List.length l) : Int))
        (needP ((0 : Int) ≤ IntKind.wrap IntKind.i64 (i - (1 : Int)) ∧ IntKind.wrap IntKind.i64 (i - (1 : Int)) < (↑(List.length l) : Int))
        (condP
        (Op.bytesLess (ByteArray.toList { data := List.toArray (Prod.fst (List.getD l (Int.toNat i) ([], []))) })
        (ByteArray.toList { data := List.toArray (Prod.fst (List.getD l (Int.toNat (IntKind.wrap IntKind.i64 (i - (1 : Int)))) ([], []))) }) ||
        ByteArray.toList { data := List.toArray (Prod.fst (List.getD l (Int.toNat i) ([], []))) } ==
        ByteArray.toList { data := List.toArray (Prod.fst (List.getD l (Int.toNat (IntKind.wrap IntKind.i64 (i - (1 : Int)))) ([], []))) })
        (Post (AV.bool false) [])
        (AWP Try.prog 56 n c239_2
        [(0, AV.sl 2 (Seq.map T.encN ([], []) l) Tip.none), (3, AV.int IntKind.i64 (IntKind.wrap IntKind.i64 (i + (1 : Int))))] []
        (q239_2 n Post)))))
        (AWP Try.prog 56 n c239_2
        [(0, AV.sl 2 (Seq.map T.encN ([], []) l) Tip.none), (3, AV.int IntKind.i64 (IntKind.wrap IntKind.i64 (i + (1 : Int))))] []
        (q239_2 n Post)))))))))
      (Post (AV.bool (decide ((↑(List.length l) : Int) ≤ (6 : Int)))) []) →
    AWP Try.prog 56 n c239_2 [(0, AV.sl 2 (Seq.map T.encN ([], []) l) Tip.none), (3, AV.int IntKind.i64 i)] [] (q239_2 n Post) := fun l i n Post h => Go.Ab.AWP.loop' g239 (Cfg.live g239) c239_2 (by kernel_rfl) (by kernel_rfl) (Go.Ab.kc (by kernel_rfl) h)

-- 185
noncomputable def l185 : Nat → List Nat
  | 3 => [1, 3, 7, 8, 9]
  | _ => []
noncomputable def u185 : Nat → Bool
  | _ => false
noncomputable def m185 : Nat → Bool
  | _ => false
noncomputable def g185 : Cfg := { N := 40, live := l185, cut := u185, mu := m185, ret := rets }
noncomputable def c185 : Go.Code := Go.Ab.bodyOf Go.Proofs.Try.f185
noncomputable def q185_0 : Nat → (AV → List AObj → Prop) → AQ := fun (n : Nat) (Post : AV → List AObj → Prop) => endQ Try.prog (resultsOf Try.f185) Post
noncomputable def q185_1 : Nat → (AV → List AObj → Prop) → AQ := fun (n : Nat) (Post : AV → List AObj → Prop) => seqQ (fun (s' : Slots) (H' : List AObj) => awp Try.prog g185 n (codeSnd (codeSnd (codeSnd c185))) s' H' (q185_0 n Post)) (q185_0 n Post)
noncomputable def q185_2 : Nat → (AV → List AObj → Prop) → AQ := fun (n : Nat) (Post : AV → List AObj → Prop) => blockQ 0 (q185_1 n Post)
noncomputable def c185_3 : Go.Code := codeFst (codeSnd (codeFst (codeSnd (codeSnd c185))))
theorem s185 : ∀ (m : T.Mani) (Post : AV → List AObj → Prop),
  AWP Try.prog 40 0 c185_3
      [(1, AV.ptr 0 0), (3, AV.int IntKind.i64 (-1 : Int)), (7, AV.sl 2 (Seq.map T.encR ((0 : Int), []) (Prod.snd m)) Tip.none),
        (8, AV.int IntKind.i64 (↑(List.length (Prod.snd m)) : Int)), (9, AV.int IntKind.i64 (0 : Int))]
      [AObj.cells [AV.str { data := List.toArray (Prod.fst m) }, AV.sl 2 (Seq.map T.encR ((0 : Int), []) (Prod.snd m)) Tip.none]] (q185_2 0 Post) →
    ASpec Try.prog 185 [AV.agg (T.encM m)] [] Post := fun m Post h => Go.Ab.ASpec.of_vc g185 Go.Proofs.Try.func185 (by kernel_rfl) (by kernel_rfl) (by kernel_rfl) (Go.Ab.kc (by kernel_rfl) h)
theorem v185_3 : ∀ (m : T.Mani) (e n i : Int) (n_1 : Nat) (Post : AV → List AObj → Prop),
  condP (decide (i < n))
      (needP ((0 : Int) ≤ i ∧ i < (↑(List.length (Prod.snd m)) : Int))
        (condP (decide (Prod.fst (List.getD (Prod.snd m) (Int.toNat i) ((0 : Int), [])) ≤ e))
        (Post (AV.bool false)
        [AObj.cells [AV.str { data := List.toArray (Prod.fst m) }, AV.sl 2 (Seq.map T.encR ((0 : Int), []) (Prod.snd m)) Tip.none],
        AObj.cells
        [AV.int IntKind.i64 (Prod.fst (List.getD (Prod.snd m) (Int.toNat i) ((0 : Int), []))),
        AV.sl 2 (Seq.map T.encN ([], []) (Prod.snd (List.getD (Prod.snd m) (Int.toNat i) ((0 : Int), [])))) Tip.none]])
        (condP (decide (Prod.fst (List.getD (Prod.snd m) (Int.toNat i) ((0 : Int), [])) ≥ (1000000000 : Int)))
        (Post (AV.bool false)
        [AObj.cells [AV.str { data := List.toArray (Prod.fst m) }, AV.sl 2 (Seq.map T.encR ((0 : Int), []) (Prod.snd m)) Tip.none],
        AObj.cells
        [AV.int IntKind.i64 (Prod.fst (List.getD (Prod.snd m) (Int.toNat i) ((0 : Int), []))),
        AV.sl 2 (Seq.map T.encN ([], []) (Prod.snd (List.getD (Prod.snd m) (Int.toNat i) ((0 : Int), [])))) Tip.none]])
        (ASpec Try.prog 232 [AV.sl 2 (Seq.map T.encN ([], []) (Prod.snd (List.getD (Prod.snd m) (Int.toNat i) ((0 : Int), [])))) Tip.none]
        [AObj.cells [AV.str { data := List.toArray (Prod.fst m) }, AV.sl 2 (Seq.map T.encR ((0 : Int), []) (Prod.snd m)) Tip.none],
        AObj.cells
        [AV.int IntKind.i64 (Prod.fst (List.getD (Prod.snd m) (Int.toNat i) ((0 : Int), []))),
        AV.sl 2 (Seq.map T.encN ([], []) (Prod.snd (List.getD (Prod.snd m) (Int.toNat i) ((0 : Int), [])))) Tip.none]]
        fun (r : AV) (H' : List AObj) =>
        ∃ (x : Bool),
        r = AV.bool x ∧
        H' =
        [AObj.cells [AV.str { data := List.toArray (Prod.fst m) }, AV.sl 2 (Seq.map T.encR ((0 : Int), []) (Prod.snd m)) Tip.none],
        AObj.cells
        [AV.int IntKind.i64 (Prod.fst (List.getD (Prod.snd m) (Int.toNat i) ((0 : Int), []))),
        AV.sl 2 (Seq.map T.encN ([], []) (Prod.snd (List.getD (Prod.snd m) (Int.toNat i) ((0 : Int), [])))) Tip.none]] ∧
        condP (!x)
        (Post (AV.bool false)
        [AObj.cells [AV.str { data := List.toArray (Prod.fst m) }, AV.sl 2 (Seq.map T.encR ((0 : Int), []) (Prod.snd m)) Tip.none],
        AObj.cells
        [AV.int IntKind.i64 (Prod.fst (List.getD (Prod.snd m) (Int.toNat i) ((0 : Int), []))),
        AV.sl 2 (Seq.map T.encN ([], []) (Prod.snd (List.getD (Prod.snd m) (Int.toNat i) ((0 : Int), [])))) Tip.none]])
        (AWP Try.prog 40 n_1 c185_3
        [(1, AV.ptr 0 0), (3, AV.int IntKind.i64 (Prod.fst (List.getD (Prod.snd m) (Int.toNat i) ((0 : Int), [])))),
        (7, AV.sl 2 (Seq.map T.encR ((0 : Int), []) (Prod.snd m)) Tip.none), (8, AV.int IntKind.i64 n),
        (9, AV.int IntKind.i64 (IntKind.wrap IntKind.i64 (i + (1 : Int))))]
        [AObj.cells [AV.str { data := List.toArray (Prod.fst m) }, AV.sl 2 (Seq.map T.encR ((0 : Int), []) (Prod.snd m)) Tip.none],
        AObj.cells
        [AV.int IntKind.i64 (Prod.fst (List.getD (Prod.snd m) (Int.toNat i) ((0 : Int), []))),
        AV.sl 2 (Seq.map T.encN ([], []) (Prod.snd (List.getD (Prod.snd m) (Int.toNat i) ((0 : Int), [])))) Tip.none]]
        (q185_2 n_1 Post))))))
      (ASpec Try.prog 154 [AV.str { data := List.toArray (Prod.fst m) }]
        [AObj.cells [AV.str { data := List.toArray (Prod.fst m) }, AV.sl 2 (Seq.map T.encR ((0 : Int), []) (Prod.snd m)) Tip.none]] fun (r : AV) (H' : List AObj) =>
        ∃ (x : Bool),
        r = AV.bool x ∧
        H' = [AObj.cells [AV.str { data := List.toArray (Prod.fst m) }, AV.sl 2 (Seq.map T.encR ((0 : Int), []) (Prod.snd m)) Tip.none]] ∧
        condP x
        (Post (AV.bool (decide ((↑(List.length (Prod.snd m)) : Int) ≤ (8 : Int))))
        [AObj.cells [AV.str { data := List.toArray (Prod.fst m) }, AV.sl 2 (Seq.map T.encR ((0 : Int), []) (Prod.snd m)) Tip.none]])
        (Post (AV.bool false) [AObj.cells [AV.str { data := List.toArray (Prod.fst m) }, AV.sl 2 (Seq.map T.encR ((0 : Int), []) (Prod.snd m)) Tip.none]])) →
    AWP Try.prog 40 n_1 c185_3
      [(1, AV.ptr 0 0), (3, AV.int IntKind.i64 e), (7, AV.sl 2 (Seq.map T.encR ((0 : Int), []) (Prod.snd m)) Tip.none),
        (8, AV.int IntKind.i64 n), (9, AV.int IntKind.i64 i)]
      [AObj.cells (T.encM m)] (q185_2 n_1 Post) := fun m e n i n Post h => Go.Ab.AWP.loop' g185 (Cfg.live g185) c185_3 (by kernel_rfl) (by kernel_rfl) (Go.Ab.kc (by kernel_rfl) h)

-- 186
noncomputable def l186 : Nat → List Nat
  | 2 => [1, 3]
  | _ => []
noncomputable def u186 : Nat → Bool
  | _ => false
noncomputable def m186 : Nat → Bool
  | _ => false
noncomputable def g186 : Cfg := { N := 52, live := l186, cut := u186, mu := m186, ret := rets }
noncomputable def c186 : Go.Code := Go.Ab.bodyOf Go.Proofs.Try.f186
noncomputable def q186_0 : Nat → (AV → List AObj → Prop) → AQ := fun (n : Nat) (Post : AV → List AObj → Prop) => endQ Try.prog (resultsOf Try.f186) Post
noncomputable def q186_1 : Nat → (AV → List AObj → Prop) → AQ := fun (n : Nat) (Post : AV → List AObj → Prop) => seqQ (fun (s' : Slots) (H' : List AObj) => awp Try.prog g186 n (codeSnd (codeSnd c186)) s' H' (q186_0 n Post)) (q186_0 n Post)
noncomputable def q186_2 : Nat → (AV → List AObj → Prop) → AQ := fun (n : Nat) (Post : AV → List AObj → Prop) => blockQ 0 (q186_1 n Post)
noncomputable def c186_2 : Go.Code := codeFst (codeSnd (codeFst (codeSnd c186)))
theorem s186 : ∀ (m : T.Mani) (Post : AV → List AObj → Prop),
  AWP Try.prog 52 0 c186_2 [(1, AV.ptr 0 0), (3, AV.int IntKind.i64 (0 : Int))]
      [AObj.cells [AV.str { data := List.toArray (Prod.fst m) }, AV.sl 2 (Seq.map T.encR ((0 : Int), []) (Prod.snd m)) Tip.none]] (q186_2 0 Post) →
    ASpec Try.prog 186 [AV.agg (T.encM m)] [] Post := fun m Post h => Go.Ab.ASpec.of_vc g186 Go.Proofs.Try.func186 (by kernel_rfl) (by kernel_rfl) (by kernel_rfl) (Go.Ab.kc (by kernel_rfl) h)
theorem v186_2 : ∀ (m : T.Mani) (i : Int) (n : Nat) (Post : AV → List AObj → Prop),
  condP (decide (i < (↑(List.length (Prod.snd m)) : Int)))
      (needP ((0 : Int) ≤ i ∧ i < (↑(List.length (Prod.snd m)) : Int))
        (ASpec Try.prog 231 [AV.int IntKind.i64 (Prod.fst (List.getD (Prod.snd m) (Int.toNat i) ((0 : Int), [])))]
        [AObj.cells [AV.str { data := List.toArray (Prod.fst m) }, AV.sl 2 (Seq.map T.encR ((0 : Int), []) (Prod.snd m)) Tip.none],
        AObj.cells
        [AV.int IntKind.i64 (Prod.fst (List.getD (Prod.snd m) (Int.toNat i) ((0 : Int), []))),
        AV.sl 2 (Seq.map T.encN ([], []) (Prod.snd (List.getD (Prod.snd m) (Int.toNat i) ((0 : Int), [])))) Tip.none]]
        fun (r : AV) (H' : List AObj) =>
        ∃ (x : Bool),
        r = AV.bool x ∧
        H' =
        [AObj.cells [AV.str { data := List.toArray (Prod.fst m) }, AV.sl 2 (Seq.map T.encR ((0 : Int), []) (Prod.snd m)) Tip.none],
        AObj.cells
        [AV.int IntKind.i64 (Prod.fst (List.getD (Prod.snd m) (Int.toNat i) ((0 : Int), []))),
        AV.sl 2 (Seq.map T.encN ([], []) (Prod.snd (List.getD (Prod.snd m) (Int.toNat i) ((0 : Int), [])))) Tip.none]] ∧
        condP (!x)
        (Post (AV.bool false)
        [AObj.cells [AV.str { data := List.toArray (Prod.fst m) }, AV.sl 2 (Seq.map T.encR ((0 : Int), []) (Prod.snd m)) Tip.none],
        AObj.cells
        [AV.int IntKind.i64 (Prod.fst (List.getD (Prod.snd m) (Int.toNat i) ((0 : Int), []))),
        AV.sl 2 (Seq.map T.encN ([], []) (Prod.snd (List.getD (Prod.snd m) (Int.toNat i) ((0 : Int), [])))) Tip.none]])
        (ASpec Try.prog 239 [AV.sl 2 (Seq.map T.encN ([], []) (Prod.snd (List.getD (Prod.snd m) (Int.toNat i) ((0 : Int), [])))) Tip.none]
        [AObj.cells [AV.str { data := List.toArray (Prod.fst m) }, AV.sl 2 (Seq.map T.encR ((0 : Int), []) (Prod.snd m)) Tip.none],
        AObj.cells
        [AV.int IntKind.i64 (Prod.fst (List.getD (Prod.snd m) (Int.toNat i) ((0 : Int), []))),
        AV.sl 2 (Seq.map T.encN ([], []) (Prod.snd (List.getD (Prod.snd m) (Int.toNat i) ((0 : Int), [])))) Tip.none]]
        fun (r : AV) (H' : List AObj) =>
        ∃ (x : Bool),
        r = AV.bool x ∧
        H' =
        [AObj.cells [AV.str { data := List.toArray (Prod.fst m) }, AV.sl 2 (Seq.map T.encR ((0 : Int), []) (Prod.snd m)) Tip.none],
        AObj.cells
        [AV.int IntKind.i64 (Prod.fst (List.getD (Prod.snd m) (Int.toNat i) ((0 : Int), []))),
        AV.sl 2 (Seq.map T.encN ([], []) (Prod.snd (List.getD (Prod.snd m) (Int.toNat i) ((0 : Int), [])))) Tip.none]] ∧
        condP (!x)
        (Post (AV.bool false)
        [AObj.cells [AV.str { data := List.toArray (Prod.fst m) }, AV.sl 2 (Seq.map T.encR ((0 : Int), []) (Prod.snd m)) Tip.none],
        AObj.cells
        [AV.int IntKind.i64 (Prod.fst (List.getD (Prod.snd m) (Int.toNat i) ((0 : Int), []))),
        AV.sl 2 (Seq.map T.encN ([], []) (Prod.snd (List.getD (Prod.snd m) (Int.toNat i) ((0 : Int), [])))) Tip.none]])
        (condP (decide (i > (0 : Int)))
        (needP ((0 : Int) ≤ IntKind.wrap IntKind.i64 (i - (1 : Int)) ∧ IntKind.wrap IntKind.i64 (i - (1 : Int)) < (↑(List.length (Prod.snd m)) : Int))
        (condP
        (decide
        (Prod.fst (List.getD (Prod.snd m) (Int.toNat i) ((0 : Int), [])) ≤
        Prod.fst (List.getD (Prod.snd m) (Int.toNat (IntKind.wrap IntKind.i64 (i - (1 : Int)))) ((0 : Int), []))))
        (Post (AV.bool false)
        [AObj.cells [AV.str { data := List.toArray (Prod.fst m) }, AV.sl 2 (Seq.map T.encR ((0 : Int), []) (Prod.snd m)) Tip.none],
        AObj.cells
        [AV.int IntKind.i64 (Prod.fst (List.getD (Prod.snd m) (Int.toNat i) ((0 : Int), []))),
        AV.sl 2 (Seq.map T.encN ([], []) (Prod.snd (List.getD (Prod.snd m) (Int.toNat i) ((0 : Int), [])))) Tip.none]])
        (AWP Try.prog 52 n c186_2 [(1, AV.ptr 0 0), (3, AV.int IntKind.i64 (IntKind.wrap IntKind.i64 (i + (1 : Int))))]
        [AObj.cells [AV.str { data := List.toArray (Prod.fst m) }, AV.sl 2 (Seq.map T.encR ((0 : Int), []) (Prod.snd m)) Tip.none],
        AObj.cells
        [AV.int IntKind.i64 (Prod.fst (List.getD (Prod.snd m) (Int.toNat i) ((0 : Int), []))),
        AV.sl 2 (Seq.map T.encN ([], []) (Prod.snd (List.getD (Prod.snd m) (Int.toNat i) ((0 : Int), [])))) Tip.none]]
        (q186_2 n Post))))
        (AWP Try.prog 52 n c186_2 [(1, AV.ptr 0 0), (3, AV.int IntKind.i64 (IntKind.wrap IntKind.i64 (i + (1 : Int))))]
        [AObj.cells [AV.str { data := List.toArray (Prod.fst m) }, AV.sl 2 (Seq.map T.encR ((0 : Int), []) (Prod.snd m)) Tip.none],
        AObj.cells
        [AV.int IntKind.i64 (Prod.fst (List.getD (Prod.snd m) (Int.toNat i) ((0 : Int), []))),
        AV.sl 2 (Seq.map T.encN ([], []) (Prod.snd (List.getD (Prod.snd m) (Int.toNat i) ((0 : Int), [])))) Tip.none]]
        (q186_2 n Post))))))
      (ASpec Try.prog 39 [AV.str { data := List.toArray (Prod.fst m) }]
        [AObj.cells [AV.str { data := List.toArray (Prod.fst m) }, AV.sl 2 (Seq.map T.encR ((0 : Int), []) (Prod.snd m)) Tip.none]] fun (r : AV) (H' : List AObj) =>
        ∃ (x : Bool),
        r = AV.bool x ∧
        H' = [AObj.cells [AV.str { data := List.toArray (Prod.fst m) }, AV.sl 2 (Seq.map T.encR ((0 : Int), []) (Prod.snd m)) Tip.none]] ∧
        condP x
        (Post (AV.bool (decide ((↑(List.length (Prod.snd m)) : Int) ≤ (8 : Int))))
        [AObj.cells [AV.str { data := List.toArray (Prod.fst m) }, AV.sl 2 (Seq.map T.encR ((0 : Int), []) (Prod.snd m)) Tip.none]])
        (Post (AV.bool false) [AObj.cells [AV.str { data := List.toArray (Prod.fst m) }, AV.sl 2 (Seq.map T.encR ((0 : Int), []) (Prod.snd m)) Tip.none]])) →
    AWP Try.prog 52 n c186_2 [(1, AV.ptr 0 0), (3, AV.int IntKind.i64 i)] [AObj.cells (T.encM m)] (q186_2 n Post) := fun m i n Post h => Go.Ab.AWP.loop' g186 (Cfg.live g186) c186_2 (by kernel_rfl) (by kernel_rfl) (Go.Ab.kc (by kernel_rfl) h)

-- 231
noncomputable def l231 : Nat → List Nat
  | _ => []
noncomputable def u231 : Nat → Bool
  | _ => false
noncomputable def m231 : Nat → Bool
  | _ => false
noncomputable def g231 : Cfg := { N := 9, live := l231, cut := u231, mu := m231, ret := rets }
theorem s231 : ∀ (x : Int) (Post : AV → List AObj → Prop),
  condP (decide (x ≥ (0 : Int))) (Post (AV.bool (decide (x < (1000000000 : Int)))) []) (Post (AV.bool false) []) → ASpec Try.prog 231 [AV.int IntKind.i64 x] [] Post := fun x Post h => Go.Ab.ASpec.of_vc g231 Go.Proofs.Try.func231 (by kernel_rfl) (by kernel_rfl) (by kernel_rfl) (Go.Ab.kc (by kernel_rfl) h)

-- 130
noncomputable def l130 : Nat → List Nat
  | 4 => [0, 3]
  | _ => []
noncomputable def l163 : Nat → List Nat
  | 4 => [0, 1, 5]
  | _ => []
noncomputable def u163 : Nat → Bool
  | _ => false
noncomputable def m163 : Nat → Bool
  | _ => false
noncomputable def g163 : Cfg := { N := 26, live := l163, cut := u163, mu := m163, ret := rets }
noncomputable def c163 : Go.Code := Go.Ab.bodyOf Go.Proofs.Try.f163
noncomputable def q163_0 : Nat → (AV → List AObj → Prop) → AQ := fun (n : Nat) (Post : AV → List AObj → Prop) => endQ Try.prog (resultsOf Try.f163) Post
noncomputable def q163_1 : Nat → (AV → List AObj → Prop) → AQ := fun (n : Nat) (Post : AV → List AObj → Prop) => seqQ (fun (s' : Slots) (H' : List AObj) => awp Try.prog g163 n (codeSnd (codeSnd (codeSnd c163))) s' H' (q163_0 n Post)) (q163_0 n Post)
noncomputable def q163_2 : Nat → (AV → List AObj → Prop) → AQ := fun (n : Nat) (Post : AV → List AObj → Prop) => blockQ 0 (q163_1 n Post)
noncomputable def c163_4 : Go.Code := codeFst (codeSnd (codeFst (codeSnd (codeSnd c163))))
theorem s163 : ∀ (a b : List T.Span) (Post : AV → List AObj → Prop),
  condP ((↑(List.length a) : Int) != (↑(List.length b) : Int)) (Post (AV.bool false) [])
      (AWP Try.prog 26 0 c163_4
        [(0, AV.sl 2 (Seq.map T.encS ((0 : Int), (0 : Int)) a) Tip.none), (1, AV.sl 2 (Seq.map T.encS ((0 : Int), (0 : Int)) b) Tip.none),
        (5, AV.int IntKind.i64 (0 : Int))]
        [] (q163_2 0 Post)) →
    ASpec Try.prog 163 [AV.sl 2 (Seq.map T.encS ((0 : Int), (0 : Int)) a) Tip.none, AV.sl 2 (Seq.map T.encS ((0 : Int), (0 : Int)) b) Tip.none] [] Post := fun a b Post h => Go.Ab.ASpec.of_vc g163 Go.Proofs.Try.func163 (by kernel_rfl) (by kernel_rfl) (by kernel_rfl) (Go.Ab.kc (by kernel_rfl) h)
theorem v163_4 : ∀ (a b : List T.Span) (i : Int) (n : Nat) (Post : AV → List AObj → Prop),
  condP (decide (i < (↑(List.length a) : Int)))
      (needP ((0 : Int) ≤ i ∧ i < (↑(List.length a) : Int))
        (needP ((0 : Int) ≤ i ∧ i < (↑(List.length b) : Int))
        (condP
        (!(Prod.fst (List.getD a (Int.toNat i) ((0 : Int), (0 : Int))) == Prod.fst (List.getD b (Int.toNat i) ((0 : Int), (0 : Int))) &&
        (Prod.snd (List.getD a (Int.toNat i) ((0 : Int), (0 : Int))) == Prod.snd (List.getD b (Int.toNat i) ((0 : Int), (0 : Int))) && true)))
        (Post (AV.bool false) [])
        (AWP Try.prog 26 n c163_4
        [(0, AV.sl 2 (Seq.map T.encS ((0 : Int), (0 : Int)) a) Tip.none), (1, AV.sl 2 (Seq.map T.encS ((0 : Int), (0 : Int)) b) Tip.none),
        (5, AV.int IntKind.i64 (IntKind.wrap IntKind.i64 (i + (1 : Int))))]
        [] (q163_2 n Post)))))
      (Post (AV.bool true) []) →
    AWP Try.prog 26 n c163_4
      [(0, AV.sl 2 (Seq.map T.encS ((0 : Int), (0 : Int)) a) Tip.none), (1, AV.sl 2 (Seq.map T.encS ((0 : Int), (0 : Int)) b) Tip.none),
        (5, AV.int IntKind.i64 i)]
      [] (q163_2 n Post) := fun a b i n Post h => Go.Ab.AWP.loop' g163 (Cfg.live g163) c163_4 (by kernel_rfl) (by kernel_rfl) (Go.Ab.kc (by kernel_rfl) h)

-- 173
noncomputable def l173 : Nat → List Nat
  | 4 => [0, 1, 5]
  | _ => []
noncomputable def u173 : Nat → Bool
  | _ => false
noncomputable def m173 : Nat → Bool
  | _ => false
noncomputable def g173 : Cfg := { N := 42, live := l173, cut := u173, mu := m173, ret := rets }
noncomputable def c173 : Go.Code := Go.Ab.bodyOf Go.Proofs.Try.f173
noncomputable def q173_0 : Nat → (AV → List AObj → Prop) → AQ := fun (n : Nat) (Post : AV → List AObj → Prop) => endQ Try.prog (resultsOf Try.f173) Post
noncomputable def q173_1 : Nat → (AV → List AObj → Prop) → AQ := fun (n : Nat) (Post : AV → List AObj → Prop) => seqQ (fun (s' : Slots) (H' : List AObj) => awp Try.prog g173 n (codeSnd (codeSnd (codeSnd c173))) s' H' (q173_0 n Post)) (q173_0 n Post)
noncomputable def q173_2 : Nat → (AV → List AObj → Prop) → AQ := fun (n : Nat) (Post : AV → List AObj → Prop) => blockQ 0 (q173_1 n Post)
noncomputable def c173_4 : Go.Code := codeFst (codeSnd (codeFst (codeSnd (codeSnd c173))))
theorem s173 : ∀ (a b : List T.Need) (Post : AV → List AObj → Prop),
  condP ((↑(List.length a) : Int) != (↑(List.length b) : Int)) (Post (AV.bool false) [])
      (AWP Try.prog 42 0 c173_4
        [(0, AV.sl 2 (Seq.map T.encN ([], []) a) Tip.none), (1, AV.sl 2 (Seq.map T.encN ([], []) b) Tip.none), (5, AV.int IntKind.i64 (0 : Int))] []
        (q173_2 0 Post)) →
    ASpec Try.prog 173 [AV.sl 2 (Seq.map T.encN ([], []) a) Tip.none, AV.sl 2 (Seq.map T.encN ([], []) b) Tip.none] [] Post := fun a b Post h => Go.Ab.ASpec.of_vc g173 Go.Proofs.Try.func173 (by kernel_rfl) (by kernel_rfl) (by kernel_rfl) (Go.Ab.kc (by kernel_rfl) h)
theorem v173_4 : ∀ (a b : List T.Need) (i : Int) (n : Nat) (Post : AV → List AObj → Prop),
  condP (decide (i < (↑(List.length a) : Int)))
      (needP ((0 : Int) ≤ i ∧ i < (↑(List.length a) : Int))
        (needP ((0 : Int) ≤ i ∧ i < (↑(List.length b) : Int))
        (condP
        (!ByteArray.toList { data := List.toArray (Prod.fst (List.getD a (Int.toNat i) ([], []))) } == ByteArray.toList { data := List.toArray (Prod.fst (List.getD b (Int.toNat i) ([], []))) })
        (Post (AV.bool false) [])
        (needP ((0 : Int) ≤ i ∧ i < (↑(List.length a) : Int))
        (needP ((0 : Int) ≤ i ∧ i < (↑(List.length b) : Int))
        (ASpec Try.prog 163
        [AV.sl 2 (Seq.map T.encS ((0 : Int), (0 : Int)) (Prod.snd (List.getD a (Int.toNat i) ([], [])))) Tip.none,
        AV.sl 2 (Seq.map T.encS ((0 : Int), (0 : Int)) (Prod.snd (List.getD b (Int.toNat i) ([], [])))) Tip.none]
        [] fun (r : AV) (H' : List AObj) =>
        ∃ (x : Bool),
        r = AV.bool x ∧
        H' = [] ∧
        condP (!x) (Post (AV.bool false) [])
        (AWP Try.prog 42 n c173_4
        [(0, AV.sl 2 (Seq.map T.encN ([], []) a) Tip.none), (1, AV.sl 2 (Seq.map T.encN ([], []) b) Tip.none),
        (5, AV.int IntKind.i64 (IntKind.wrap IntKind.i64 (i + (1 : Int))))]
        [] (q173_2 n Post))))))))
      (Post (AV.bool true) []) →
    AWP Try.prog 42 n c173_4
      [(0, AV.sl 2 (Seq.map T.encN ([], []) a) Tip.none), (1, AV.sl 2 (Seq.map T.encN ([], []) b) Tip.none), (5, AV.int IntKind.i64 i)] [] (q173_2 n Post) := fun a b i n Post h => Go.Ab.AWP.loop' g173 (Cfg.live g173) c173_4 (by kernel_rfl) (by kernel_rfl) (Go.Ab.kc (by kernel_rfl) h)

-- 62
end
end C
end

section
/- Printed: what the code of functions 184, 264, 172, 270, 271, 273, 272, 276, 275, 274, 181, 326, 277 asks for, by the framework's own reading of it; each line is checked against the code. -/

set_option linter.unusedVariables false
set_option maxRecDepth 100000
set_option maxHeartbeats 4000000
open Go Go.Ab Go.Proofs
namespace W
noncomputable section

noncomputable def updC (args : List AV) (H : List AObj) (p e : Int) : List AObj := match args with
  | .ptr c _ :: _ => match H[c]? with
    | some (.cells [.ptr id off]) => V.upd3 [.ptr id off] H p e
    | _ => H
  | _ => H
noncomputable def tl (args : List AV) : List AV := match args with
  | _ :: r => r
  | _ => []
noncomputable def retW : List (Nat × Ret) := [
  (9039, ⟨Unit, fun _ _ _ => .bool true, fun _ H _ => H⟩),
  (181, ⟨T.Mani × Int, fun _ _ x => .tup [.agg (T.encM x.1), .int .i64 x.2], fun _ H _ => H⟩),
  (277, ⟨T.Mani × Int, fun _ _ x => .tup [.agg (T.encM x.1), .int .i64 x.2], fun _ H _ => H⟩),
  (184, ⟨List UInt8, fun _ _ x => .sl 1 (.map encB 0 x) .none, fun _ H _ => H⟩),
  (172, ⟨ByteArray, fun _ _ x => .str x, fun _ H _ => H⟩),
  (270, ⟨ByteArray × Int × Int, fun _ _ x => .str x.1, fun a H x => updC a H x.2.1 x.2.2⟩),
  (271, ⟨T.Span × Int × Int, fun _ _ x => .agg (T.encS x.1), fun a H x => updC a H x.2.1 x.2.2⟩),
  (272, ⟨T.Need × Int × Int, fun _ _ x => .agg (T.encN x.1), fun a H x => updC (tl a) H x.2.1 x.2.2⟩),
  (275, ⟨T.Rel × Int × Int, fun _ _ x => .agg (T.encR x.1), fun a H x => updC a H x.2.1 x.2.2⟩),
  (273, ⟨List T.Span × Int × Int, fun _ _ x => .sl 2 (.map T.encS (0, 0) x.1) .none, fun a H x => V.upd3 a H x.2.1 x.2.2⟩),
  (276, ⟨List T.Need × Int × Int, fun _ _ x => .sl 2 (.map T.encN ([], []) x.1) .none, fun a H x => V.upd3 a H x.2.1 x.2.2⟩),
  (274, ⟨List T.Rel × Int × Int, fun _ _ x => .sl 2 (.map T.encR (0, []) x.1) .none, fun a H x => V.upd3 a H x.2.1 x.2.2⟩),
  (326, ⟨List T.Need × ByteArray × Int, fun _ _ x => .sl 2 (.map T.encN ([], []) x.1) .none, fun a H x => V.upd2 a H x.2.1 x.2.2⟩),
  (264, ⟨ByteArray, fun _ _ x => .str x, fun _ H _ => H⟩)]
noncomputable def rets : FuncId → List Ret := lookupR (retW ++ C.retC ++ V.retL)

-- 184
noncomputable def l184 : Nat → List Nat
  | 5 => [3, 22, 23, 24]
  | 9 => [3, 22, 23, 24, 37, 38, 39]
  | 13 => [3, 22, 23, 24, 37, 38, 39, 53, 54, 55]
  | _ => []
noncomputable def u184 : Nat → Bool
  | _ => false
noncomputable def m184 : Nat → Bool
  | _ => false
noncomputable def g184 : Cfg := { N := 73, live := l184, cut := u184, mu := m184, ret := rets }
noncomputable def c184 : Go.Code := Go.Ab.bodyOf Go.Proofs.Try.f184
noncomputable def q184_0 : Nat → (AV → List AObj → Prop) → AQ := fun (n : Nat) (Post : AV → List AObj → Prop) => endQ Try.prog (resultsOf Try.f184) Post
noncomputable def q184_1 : Nat → (AV → List AObj → Prop) → AQ := fun (n : Nat) (Post : AV → List AObj → Prop) => seqQ (fun (s' : Slots) (H' : List AObj) => awp Try.prog g184 n (codeSnd (codeSnd (codeSnd (codeSnd c184)))) s' H' (q184_0 n Post)) (q184_0 n Post)
noncomputable def q184_2 : Nat → (AV → List AObj → Prop) → AQ := fun (n : Nat) (Post : AV → List AObj → Prop) => blockQ 0 (q184_1 n Post)
noncomputable def c184_5 : Go.Code := codeFst (codeSnd (codeFst (codeSnd (codeSnd (codeSnd c184)))))
theorem s184 : ∀ (m : T.Mani) (Post : AV → List AObj → Prop),
  (ASpec Try.prog 185 [AV.agg [AV.str { data := List.toArray (Prod.fst m) }, AV.sl 2 (Seq.map T.encR ((0 : Int), []) (Prod.snd m)) Tip.none]]
      [AObj.cells [AV.str { data := List.toArray (Prod.fst m) }, AV.sl 2 (Seq.map T.encR ((0 : Int), []) (Prod.snd m)) Tip.none]] fun (r : AV) (H' : List AObj) =>
      ∃ (x : Bool),
        r = AV.bool x ∧
        H' = [AObj.cells [AV.str { data := List.toArray (Prod.fst m) }, AV.sl 2 (Seq.map T.encR ((0 : Int), []) (Prod.snd m)) Tip.none]] ∧
        condP (!x) (Post (AV.sl 0 (Seq.raw []) Tip.nil) [AObj.cells [AV.str { data := List.toArray (Prod.fst m) }, AV.sl 2 (Seq.map T.encR ((0 : Int), []) (Prod.snd m)) Tip.none]])
        (ASpec Try.prog 141 [AV.sl 0 (Seq.raw []) Tip.nil, AV.str { data := List.toArray (Prod.fst m) }]
        [AObj.cells [AV.str { data := List.toArray (Prod.fst m) }, AV.sl 2 (Seq.map T.encR ((0 : Int), []) (Prod.snd m)) Tip.none]] fun (r : AV) (H' : List AObj) =>
        ∃ (x : List UInt8),
        r = AV.sl 1 (Seq.map encB (0 : UInt8) x) (Tip.tok 1) ∧
        H' = [AObj.cells [AV.str { data := List.toArray (Prod.fst m) }, AV.sl 2 (Seq.map T.encR ((0 : Int), []) (Prod.snd m)) Tip.none], AObj.tok] ∧
        (AV.int IntKind.i64 (↑(List.length (Prod.snd m)) : Int) = AV.int IntKind.i64 (↑(List.length (Prod.snd m)) : Int) ∧
        [AObj.cells [AV.str { data := List.toArray (Prod.fst m) }, AV.sl 2 (Seq.map T.encR ((0 : Int), []) (Prod.snd m)) Tip.none], AObj.tok] =
        [AObj.cells [AV.str { data := List.toArray (Prod.fst m) }, AV.sl 2 (Seq.map T.encR ((0 : Int), []) (Prod.snd m)) Tip.none], AObj.tok]) ∧
        (AV.sl 2 (Seq.map T.encR ((0 : Int), []) (Prod.snd m)) Tip.none = AV.sl 2 (Seq.map T.encR ((0 : Int), []) (Prod.snd m)) Tip.none ∧
        [AObj.cells [AV.str { data := List.toArray (Prod.fst m) }, AV.sl 2 (Seq.map T.encR ((0 : Int), []) (Prod.snd m)) Tip.none], AObj.tok] =
        [AObj.cells [AV.str { data := List.toArray (Prod.fst m) }, AV.sl 2 (Seq.map T.encR ((0 : Int), []) (Prod.snd m)) Tip.none], AObj.tok]) ∧
        ASpec Try.prog 140
        [AV.sl 1 (Seq.map encB (0 : UInt8) x) (Tip.tok 1), AV.sl 1 (Seq.raw [[AV.int IntKind.i64 (↑(List.length (Prod.snd m)) : Int)]]) Tip.full]
        [AObj.cells [AV.str { data := List.toArray (Prod.fst m) }, AV.sl 2 (Seq.map T.encR ((0 : Int), []) (Prod.snd m)) Tip.none], AObj.tok]
        fun (r : AV) (H' : List AObj) =>
        ∃ (x : List UInt8),
        r = AV.sl 1 (Seq.map encB (0 : UInt8) x) (Tip.tok 2) ∧
        H' = [AObj.cells [AV.str { data := List.toArray (Prod.fst m) }, AV.sl 2 (Seq.map T.encR ((0 : Int), []) (Prod.snd m)) Tip.none], AObj.tok, AObj.tok] ∧
        AWP Try.prog 73 0 c184_5
        [(3, AV.sl 1 (Seq.map encB (0 : UInt8) x) (Tip.tok 2)),
        (22, AV.sl 2 (Seq.map T.encR ((0 : Int), []) (Prod.snd m)) Tip.none), (23, AV.int IntKind.i64 (↑(List.length (Prod.snd m)) : Int)),
        (24, AV.int IntKind.i64 (0 : Int))]
        [AObj.cells [AV.str { data := List.toArray (Prod.fst m) }, AV.sl 2 (Seq.map T.encR ((0 : Int), []) (Prod.snd m)) Tip.none], AObj.tok, AObj.tok]
        (q184_2 0 Post))) →
    ASpec Try.prog 184 [AV.agg (T.encM m)] [] Post := fun m Post h => Go.Ab.ASpec.of_vc g184 Go.Proofs.Try.func184 (by kernel_rfl) (by kernel_rfl) (by kernel_rfl) (Go.Ab.kc (by kernel_rfl) h)
noncomputable def q184_3 : Nat → (AV → List AObj → Prop) → AQ := fun (n : Nat) (Post : AV → List AObj → Prop) => loopQ Try.prog 73 n c184_5 (q184_2 n Post) (Cfg.live g184)
noncomputable def q184_4 : Nat → (AV → List AObj → Prop) → AQ := fun (n : Nat) (Post : AV → List AObj → Prop) => seqQ (fun (s' : Slots) (H' : List AObj) => awp Try.prog g184 n (codeSnd (codeSnd (codeSnd (codeFst c184_5)))) s' H' (q184_3 n Post)) (q184_3 n Post)
noncomputable def q184_5 : Nat → (AV → List AObj → Prop) → AQ := fun (n : Nat) (Post : AV → List AObj → Prop) => blockQ 1 (q184_4 n Post)
noncomputable def q184_6 : Nat → (AV → List AObj → Prop) → AQ := fun (n : Nat) (Post : AV → List AObj → Prop) => blockQ 2 (q184_5 n Post)
noncomputable def c184_9 : Go.Code := codeFst (codeSnd (codeSnd (codeSnd (codeFst (codeFst (codeSnd (codeSnd (codeFst c184_5))))))))
theorem v184_5 : ∀ (b : List UInt8) (rs : List T.Rel) (n i : Int) (n_1 : Nat) (Post : AV → List AObj → Prop),
  condP (decide (i < n))
      (needP ((0 : Int) ≤ i ∧ i < (↑(List.length rs) : Int))
        (ASpec Try.prog 140
        [AV.sl 1 (Seq.map encB (0 : UInt8) b) Tip.none,
        AV.sl 1
        (Seq.raw
        [[AV.int IntKind.i64 (Prod.fst (List.getD rs (Int.toNat i) ((0 : Int), [])))], [AV.int IntKind.i64 (↑(List.length (Prod.snd (List.getD rs (Int.toNat i) ((0 : Int), [])))) : Int)]])
        Tip.full]
        [AObj.cells
        [AV.int IntKind.i64 (Prod.fst (List.getD rs (Int.toNat i) ((0 : Int), []))), AV.sl 2 (Seq.map T.encN ([], []) (Prod.snd (List.getD rs (Int.toNat i) ((0 : Int), [])))) Tip.none]]
        fun (r : AV) (H' : List AObj) =>
        ∃ (x : List UInt8),
        r = AV.sl 1 (Seq.map encB (0 : UInt8) x) (Tip.tok 1) ∧
        H' =
        [AObj.cells
        [AV.int IntKind.i64 (Prod.fst (List.getD rs (Int.toNat i) ((0 : Int), []))),
        AV.sl 2 (Seq.map T.encN ([], []) (Prod.snd (List.getD rs (Int.toNat i) ((0 : Int), [])))) Tip.none],
        AObj.tok] ∧
        AWP Try.prog 73 n_1 c184_9
        [(3, AV.sl 1 (Seq.map encB (0 : UInt8) x) (Tip.tok 1)), (22, AV.sl 2 (Seq.map T.encR ((0 : Int), []) rs) Tip.none),
        (23, AV.int IntKind.i64 n), (24, AV.int IntKind.i64 i),
        (37, AV.sl 2 (Seq.map T.encN ([], []) (Prod.snd (List.getD rs (Int.toNat i) ((0 : Int), [])))) Tip.none),
        (38, AV.int IntKind.i64 (↑(List.length (Prod.snd (List.getD rs (Int.toNat i) ((0 : Int), [])))) : Int)), (39, AV.int IntKind.i64 (0 : Int))]
        [AObj.cells
        [AV.int IntKind.i64 (Prod.fst (List.getD rs (Int.toNat i) ((0 : Int), []))),
        AV.sl 2 (Seq.map T.encN ([], []) (Prod.snd (List.getD rs (Int.toNat i) ((0 : Int), [])))) Tip.none],
        AObj.tok]
        (q184_6 n_1 Post)))
      (Post (AV.sl 1 (Seq.map encB (0 : UInt8) b) Tip.none) []) →
    AWP Try.prog 73 n_1 c184_5
      [(3, AV.sl 1 (Seq.map encB (0 : UInt8) b) Tip.none), (22, AV.sl 2 (Seq.map T.encR ((0 : Int), []) rs) Tip.none), (23, AV.int IntKind.i64 n),
        (24, AV.int IntKind.i64 i)]
      [] (q184_2 n_1 Post) := fun b rs n i n Post h => Go.Ab.AWP.loop' g184 (Cfg.live g184) c184_5 (by kernel_rfl) (by kernel_rfl) (Go.Ab.kc (by kernel_rfl) h)
noncomputable def q184_7 : Nat → (AV → List AObj → Prop) → AQ := fun (n : Nat) (Post : AV → List AObj → Prop) => loopQ Try.prog 73 n c184_9 (q184_6 n Post) (Cfg.live g184)
noncomputable def q184_8 : Nat → (AV → List AObj → Prop) → AQ := fun (n : Nat) (Post : AV → List AObj → Prop) => seqQ (fun (s' : Slots) (H' : List AObj) => awp Try.prog g184 n (codeSnd (codeSnd (codeSnd (codeFst c184_9)))) s' H' (q184_7 n Post)) (q184_7 n Post)
noncomputable def q184_9 : Nat → (AV → List AObj → Prop) → AQ := fun (n : Nat) (Post : AV → List AObj → Prop) => blockQ 3 (q184_8 n Post)
noncomputable def q184_10 : Nat → (AV → List AObj → Prop) → AQ := fun (n : Nat) (Post : AV → List AObj → Prop) => blockQ 4 (q184_9 n Post)
noncomputable def c184_13 : Go.Code := codeFst (codeSnd (codeSnd (codeSnd (codeFst (codeFst (codeSnd (codeSnd (codeFst c184_9))))))))
theorem v184_9 : ∀ (b : List UInt8) (rs : List T.Rel) (n i : Int) (ns : List T.Need) (n2 i2 : Int) (n_1 : Nat) (Post : AV → List AObj → Prop),
  condP (decide (i2 < n2))
      (needP ((0 : Int) ≤ i2 ∧ i2 < (↑(List.length ns) : Int))
        (ASpec Try.prog 141 [AV.sl 1 (Seq.map encB (0 : UInt8) b) Tip.none, AV.str { data := List.toArray (Prod.fst (List.getD ns (Int.toNat i2) ([], []))) }]
        [AObj.cells
        [AV.str { data := List.toArray (Prod.fst (List.getD ns (Int.toNat i2) ([], []))) },
        AV.sl 2 (Seq.map T.encS ((0 : Int), (0 : Int)) (Prod.snd (List.getD ns (Int.toNat i2) ([], [])))) Tip.none]]
        fun (r : AV) (H' : List AObj) =>
        ∃ (x : List UInt8),
        r = AV.sl 1 (Seq.map encB (0 : UInt8) x) (Tip.tok 1) ∧
        H' =
        [AObj.cells
        [AV.str { data := List.toArray (Prod.fst (List.getD ns (Int.toNat i2) ([], []))) },
        AV.sl 2 (Seq.map T.encS ((0 : Int), (0 : Int)) (Prod.snd (List.getD ns (Int.toNat i2) ([], [])))) Tip.none],
        AObj.tok] ∧
        (AV.int IntKind.i64 (↑(List.length (Prod.snd (List.getD ns (Int.toNat i2) ([], [])))) : Int) =
        AV.int IntKind.i64 (↑(List.length (Prod.snd (List.getD ns (Int.toNat i2) ([], [])))) : Int) ∧
        [AObj.cells
        [AV.str { data := List.toArray (Prod.fst (List.getD ns (Int.toNat i2) ([], []))) },
        AV.sl 2 (Seq.map T.encS ((0 : Int), (0 : Int)) (Prod.snd (List.getD ns (Int.toNat i2) ([], [])))) Tip.none],
        AObj.tok] =
        [AObj.cells
        [AV.str { data := List.toArray (Prod.fst (List.getD ns (Int.toNat i2) ([], []))) },
        AV.sl 2 (Seq.map T.encS ((0 : Int), (0 : Int)) (Prod.snd (List.getD ns (Int.toNat i2) ([], [])))) Tip.none],
        AObj.tok]) ∧
        (AV.sl 2 (Seq.map T.encS ((0 : Int), (0 : Int)) (Prod.snd (List.getD ns (Int.toNat i2) ([], [])))) Tip.none =
        AV.sl 2 (Seq.map T.encS ((0 : Int), (0 : Int)) (Prod.snd (List.getD ns (Int.toNat i2) ([], [])))) Tip.none ∧
        [AObj.cells
        [AV.str { data := List.toArray (Prod.fst (List.getD ns (Int.toNat i2) ([], []))) },
        AV.sl 2 (Seq.map T.encS ((0 : Int), (0 : Int)) (Prod.snd (List.getD ns (Int.toNat i2) ([], [])))) Tip.none],
        AObj.tok] =
        [AObj.cells
        [AV.str { data := List.toArray (Prod.fst (List.getD ns (Int.toNat i2) ([], []))) },
        AV.sl 2 (Seq.map T.encS ((0 : Int), (0 : Int)) (Prod.snd (List.getD ns (Int.toNat i2) ([], [])))) Tip.none],
        AObj.tok]) ∧
        ASpec Try.prog 140
        [AV.sl 1 (Seq.map encB (0 : UInt8) x) (Tip.tok 1),
        AV.sl 1 (Seq.raw [[AV.int IntKind.i64 (↑(List.length (Prod.snd (List.getD ns (Int.toNat i2) ([], [])))) : Int)]]) Tip.full]
        [AObj.cells
        [AV.str { data := List.toArray (Prod.fst (List.getD ns (Int.toNat i2) ([], []))) },
        AV.sl 2 (Seq.map T.encS ((0 : Int), (0 : Int)) (Prod.snd (List.getD ns (Int.toNat i2) ([], [])))) Tip.none],
        AObj.tok]
        fun (r : AV) (H' : List AObj) =>
        ∃ (x : List UInt8),
        r = AV.sl 1 (Seq.map encB (0 : UInt8) x) (Tip.tok 2) ∧
        H' =
        [AObj.cells
        [AV.str { data := List.toArray (Prod.fst (List.getD ns (Int.toNat i2) ([], []))) },
        AV.sl 2 (Seq.map T.encS ((0 : Int), (0 : Int)) (Prod.snd (List.getD ns (Int.toNat i2) ([], [])))) Tip.none],
        AObj.tok, AObj.tok] ∧
        AWP Try.prog 73 n_1 c184_13
        [(3, AV.sl 1 (Seq.map encB (0 : UInt8) x) (Tip.tok 2)), (22, AV.sl 2 (Seq.map T.encR ((0 : Int), []) rs) Tip.none),
        (23, AV.int IntKind.i64 n), (24, AV.int IntKind.i64 i), (37, AV.sl 2 (Seq.map T.encN ([], []) ns) Tip.none),
        (38, AV.int IntKind.i64 n2), (39, AV.int IntKind.i64 i2),
        (53, AV.sl 2 (Seq.map T.encS ((0 : Int), (0 : Int)) (Prod.snd (List.getD ns (Int.toNat i2) ([], [])))) Tip.none),
        (54, AV.int IntKind.i64 (↑(List.length (Prod.snd (List.getD ns (Int.toNat i2) ([], [])))) : Int)), (55, AV.int IntKind.i64 (0 : Int))]
        [AObj.cells
        [AV.str { data := List.toArray (Prod.fst (List.getD ns (Int.toNat i2) ([], []))) },
        AV.sl 2 (Seq.map T.encS ((0 : Int), (0 : Int)) (Prod.snd (List.getD ns (Int.toNat i2) ([], [])))) Tip.none],
        AObj.tok, AObj.tok]
        (q184_10 n_1 Post)))
      (AWP Try.prog 73 n_1 c184_5
        [(3, AV.sl 1 (Seq.map encB (0 : UInt8) b) Tip.none), (22, AV.sl 2 (Seq.map T.encR ((0 : Int), []) rs) Tip.none), (23, AV.int IntKind.i64 n),
        (24, AV.int IntKind.i64 (IntKind.wrap IntKind.i64 (i + (1 : Int))))]
        [] (q184_2 n_1 Post)) →
    AWP Try.prog 73 n_1 c184_9
      [(3, AV.sl 1 (Seq.map encB (0 : UInt8) b) Tip.none), (22, AV.sl 2 (Seq.map T.encR ((0 : Int), []) rs) Tip.none), (23, AV.int IntKind.i64 n),
        (24, AV.int IntKind.i64 i), (37, AV.sl 2 (Seq.map T.encN ([], []) ns) Tip.none), (38, AV.int IntKind.i64 n2), (39, AV.int IntKind.i64 i2)]
      [] (q184_6 n_1 Post) := fun b rs n i ns n2 i2 n Post h => Go.Ab.AWP.loop' g184 (Cfg.live g184) c184_9 (by kernel_rfl) (by kernel_rfl) (Go.Ab.kc (by kernel_rfl) h)
theorem v184_13 : ∀ (b : List UInt8) (rs : List T.Rel) (n i : Int) (ns : List T.Need) (n2 i2 : Int) (ss : List T.Span) (n3 i3 : Int) (n_1 : Nat) (Post : AV → List AObj → Prop),
  condP (decide (i3 < n3))
      (needP ((0 : Int) ≤ i3 ∧ i3 < (↑(List.length ss) : Int))
        (ASpec Try.prog 140
        [AV.sl 1 (Seq.map encB (0 : UInt8) b) Tip.none,
        AV.sl 1
        (Seq.raw
        [[AV.int IntKind.i64 (Prod.fst (List.getD ss (Int.toNat i3) ((0 : Int), (0 : Int))))],
        [AV.int IntKind.i64 (IntKind.wrap IntKind.i64 (Prod.snd (List.getD ss (Int.toNat i3) ((0 : Int), (0 : Int))) - Prod.fst (List.getD ss (Int.toNat i3) ((0 : Int), (0 : Int)))))]])
        Tip.full]
        [AObj.cells [AV.int IntKind.i64 (Prod.fst (List.getD ss (Int.toNat i3) ((0 : Int), (0 : Int)))), AV.int IntKind.i64 (Prod.snd (List.getD ss (Int.toNat i3) ((0 : Int), (0 : Int))))]]
        fun (r : AV) (H' : List AObj) =>
        ∃ (x : List UInt8),
        r = AV.sl 1 (Seq.map encB (0 : UInt8) x) (Tip.tok 1) ∧
        H' =
        [AObj.cells [AV.int IntKind.i64 (Prod.fst (List.getD ss (Int.toNat i3) ((0 : Int), (0 : Int)))), AV.int IntKind.i64 (Prod.snd (List.getD ss (Int.toNat i3) ((0 : Int), (0 : Int))))],
        AObj.tok] ∧
        AWP Try.prog 73 n_1 c184_13
        [(3, AV.sl 1 (Seq.map encB (0 : UInt8) x) (Tip.tok 1)), (22, AV.sl 2 (Seq.map T.encR ((0 : Int), []) rs) Tip.none),
        (23, AV.int IntKind.i64 n), (24, AV.int IntKind.i64 i), (37, AV.sl 2 (Seq.map T.encN ([], []) ns) Tip.none), (38, AV.int IntKind.i64 n2),
        (39, AV.int IntKind.i64 i2), (53, AV.sl 2 (Seq.map T.encS ((0 : Int), (0 : Int)) ss) Tip.none), (54, AV.int IntKind.i64 n3),
        (55, AV.int IntKind.i64 (IntKind.wrap IntKind.i64 (i3 + (1 : Int))))]
        [AObj.cells [AV.int IntKind.i64 (Prod.fst (List.getD ss (Int.toNat i3) ((0 : Int), (0 : Int)))), AV.int IntKind.i64 (Prod.snd (List.getD ss (Int.toNat i3) ((0 : Int), (0 : Int))))],
        AObj.tok]
        (q184_10 n_1 Post)))
      (AWP Try.prog 73 n_1 c184_9
        [(3, AV.sl 1 (Seq.map encB (0 : UInt8) b) Tip.none), (22, AV.sl 2 (Seq.map T.encR ((0 : Int), []) rs) Tip.none), (23, AV.int IntKind.i64 n),
        (24, AV.int IntKind.i64 i), (37, AV.sl 2 (Seq.map T.encN ([], []) ns) Tip.none), (38, AV.int IntKind.i64 n2),
        (39, AV.int IntKind.i64 (IntKind.wrap IntKind.i64 (i2 + (1 : Int))))]
        [] (q184_6 n_1 Post)) →
    AWP Try.prog 73 n_1 c184_13
      [(3, AV.sl 1 (Seq.map encB (0 : UInt8) b) Tip.none), (22, AV.sl 2 (Seq.map T.encR ((0 : Int), []) rs) Tip.none), (23, AV.int IntKind.i64 n),
        (24, AV.int IntKind.i64 i), (37, AV.sl 2 (Seq.map T.encN ([], []) ns) Tip.none), (38, AV.int IntKind.i64 n2), (39, AV.int IntKind.i64 i2),
        (53, AV.sl 2 (Seq.map T.encS ((0 : Int), (0 : Int)) ss) Tip.none), (54, AV.int IntKind.i64 n3), (55, AV.int IntKind.i64 i3)]
      [] (q184_10 n_1 Post) := fun b rs n i ns n2 i2 ss n3 i3 n Post h => Go.Ab.AWP.loop' g184 (Cfg.live g184) c184_13 (by kernel_rfl) (by kernel_rfl) (Go.Ab.kc (by kernel_rfl) h)

-- 264
noncomputable def l264 : Nat → List Nat
  | 3 => [0, 3, 4]
  | 7 => [0, 3, 4, 5]
  | _ => []
noncomputable def u264 : Nat → Bool
  | _ => false
noncomputable def m264 : Nat → Bool
  | _ => false
noncomputable def g264 : Cfg := { N := 63, live := l264, cut := u264, mu := m264, ret := rets }
noncomputable def c264 : Go.Code := Go.Ab.bodyOf Go.Proofs.Try.f264
noncomputable def q264_0 : Nat → (AV → List AObj → Prop) → AQ := fun (n : Nat) (Post : AV → List AObj → Prop) => endQ Try.prog (resultsOf Try.f264) Post
noncomputable def q264_1 : Nat → (AV → List AObj → Prop) → AQ := fun (n : Nat) (Post : AV → List AObj → Prop) => seqQ (fun (s' : Slots) (H' : List AObj) => awp Try.prog g264 n (codeSnd (codeSnd (codeSnd c264))) s' H' (q264_0 n Post)) (q264_0 n Post)
noncomputable def q264_2 : Nat → (AV → List AObj → Prop) → AQ := fun (n : Nat) (Post : AV → List AObj → Prop) => blockQ 0 (q264_1 n Post)
noncomputable def c264_3 : Go.Code := codeFst (codeSnd (codeFst (codeSnd (codeSnd c264))))
theorem s264 : ∀ (l : List T.Need) (Post : AV → List AObj → Prop),
  (ASpec Try.prog 150 [AV.int IntKind.i64 (↑(List.length l) : Int)] [] fun (r : AV) (H' : List AObj) =>
      ∃ (x : ByteArray),
        r = AV.str x ∧
        H' = [] ∧
        AWP Try.prog 63 0 c264_3 [(0, AV.sl 2 (Seq.map T.encN ([], []) l) Tip.none), (3, AV.str x), (4, AV.int IntKind.i64 (0 : Int))] []
        (q264_2 0 Post)) →
    ASpec Try.prog 264 [AV.sl 2 (Seq.map T.encN ([], []) l) Tip.none] [] Post := fun l Post h => Go.Ab.ASpec.of_vc g264 Go.Proofs.Try.func264 (by kernel_rfl) (by kernel_rfl) (by kernel_rfl) (Go.Ab.kc (by kernel_rfl) h)
noncomputable def q264_3 : Nat → (AV → List AObj → Prop) → AQ := fun (n : Nat) (Post : AV → List AObj → Prop) => loopQ Try.prog 63 n c264_3 (q264_2 n Post) (Cfg.live g264)
noncomputable def q264_4 : Nat → (AV → List AObj → Prop) → AQ := fun (n : Nat) (Post : AV → List AObj → Prop) => seqQ (fun (s' : Slots) (H' : List AObj) => awp Try.prog g264 n (codeSnd (codeSnd (codeFst c264_3))) s' H' (q264_3 n Post)) (q264_3 n Post)
noncomputable def q264_5 : Nat → (AV → List AObj → Prop) → AQ := fun (n : Nat) (Post : AV → List AObj → Prop) => blockQ 1 (q264_4 n Post)
noncomputable def q264_6 : Nat → (AV → List AObj → Prop) → AQ := fun (n : Nat) (Post : AV → List AObj → Prop) => blockQ 2 (q264_5 n Post)
noncomputable def c264_7 : Go.Code := codeFst (codeSnd (codeSnd (codeFst (codeFst (codeSnd (codeFst c264_3))))))
theorem v264_3 : ∀ (l : List T.Need) (s : ByteArray) (i : Int) (n : Nat) (Post : AV → List AObj → Prop),
  condP (decide (i < (↑(List.length l) : Int)))
      (needP ((0 : Int) ≤ i ∧ i < (↑(List.length l) : Int))
        (needP ((0 : Int) ≤ i ∧ i < (↑(List.length l) : Int))
        (ASpec Try.prog 151 [AV.str { data := List.toArray (Prod.fst (List.getD l (Int.toNat i) ([], []))) }] [] fun (r : AV) (H' : List AObj) =>
        ∃ (x : ByteArray),
        r = AV.str x ∧
        H' = [] ∧
        (AV.int IntKind.i64 (↑(List.length (Prod.snd (List.getD l (Int.toNat i) ([], [])))) : Int) =
        AV.int IntKind.i64 (↑(List.length (Prod.snd (List.getD l (Int.toNat i) ([], [])))) : Int) ∧
        ([] : List AObj) = []) ∧
        (AV.sl 2 (Seq.map T.encS ((0 : Int), (0 : Int)) (Prod.snd (List.getD l (Int.toNat i) ([], [])))) Tip.none =
        AV.sl 2 (Seq.map T.encS ((0 : Int), (0 : Int)) (Prod.snd (List.getD l (Int.toNat i) ([], [])))) Tip.none ∧
        ([] : List AObj) = []) ∧
        needP ((↑(ByteArray.size s + ByteArray.size x) : Int) ≤ (9223372036854775807 : Int))
        (ASpec Try.prog 150 [AV.int IntKind.i64 (↑(List.length (Prod.snd (List.getD l (Int.toNat i) ([], [])))) : Int)] [] fun (r : AV) (H' : List AObj) =>
        ∃ (x_1 : ByteArray),
        r = AV.str x_1 ∧
        H' = [] ∧
        needP ((↑(ByteArray.size (s ++ x) + ByteArray.size x_1) : Int) ≤ (9223372036854775807 : Int))
        (AWP Try.prog 63 n c264_7
        [(0, AV.sl 2 (Seq.map T.encN ([], []) l) Tip.none), (3, AV.str (s ++ x ++ x_1)), (4, AV.int IntKind.i64 i),
        (5, AV.int IntKind.i64 (0 : Int))]
        [] (q264_6 n Post))))))
      (Post (AV.str s) []) →
    AWP Try.prog 63 n c264_3 [(0, AV.sl 2 (Seq.map T.encN ([], []) l) Tip.none), (3, AV.str s), (4, AV.int IntKind.i64 i)] [] (q264_2 n Post) := fun l s i n Post h => Go.Ab.AWP.loop' g264 (Cfg.live g264) c264_3 (by kernel_rfl) (by kernel_rfl) (Go.Ab.kc (by kernel_rfl) h)
theorem v264_7 : ∀ (l : List T.Need) (s : ByteArray) (i k : Int) (n : Nat) (Post : AV → List AObj → Prop),
  needP ((0 : Int) ≤ i ∧ i < (↑(List.length l) : Int))
      (condP (decide (k < (↑(List.length (Prod.snd (List.getD l (Int.toNat i) ([], [])))) : Int)))
        (needP ((0 : Int) ≤ i ∧ i < (↑(List.length l) : Int))
        (needP ((0 : Int) ≤ k ∧ k < (↑(List.length (Prod.snd (List.getD l (Int.toNat i) ([], [])))) : Int))
        (ASpec Try.prog 150 [AV.int IntKind.i64 (Prod.fst (List.getD (Prod.snd (List.getD l (Int.toNat i) ([], []))) (Int.toNat k) ((0 : Int), (0 : Int))))]
        [AObj.cells
        [AV.int IntKind.i64 (Prod.fst (List.getD (Prod.snd (List.getD l (Int.toNat i) ([], []))) (Int.toNat k) ((0 : Int), (0 : Int)))),
        AV.int IntKind.i64 (Prod.snd (List.getD (Prod.snd (List.getD l (Int.toNat i) ([], []))) (Int.toNat k) ((0 : Int), (0 : Int))))]]
        fun (r : AV) (H' : List AObj) =>
        ∃ (x : ByteArray),
        r = AV.str x ∧
        H' =
        [AObj.cells
        [AV.int IntKind.i64 (Prod.fst (List.getD (Prod.snd (List.getD l (Int.toNat i) ([], []))) (Int.toNat k) ((0 : Int), (0 : Int)))),
        AV.int IntKind.i64 (Prod.snd (List.getD (Prod.snd (List.getD l (Int.toNat i) ([], []))) (Int.toNat k) ((0 : Int), (0 : Int))))]] ∧
        (AV.int IntKind.i64 (Prod.fst (List.getD (Prod.snd (List.getD l (Int.toNat i) ([], []))) (Int.toNat k) ((0 : Int), (0 : Int)))) =
        AV.int IntKind.i64 (Prod.fst (List.getD (Prod.snd (List.getD l (Int.toNat i) ([], []))) (Int.toNat k) ((0 : Int), (0 : Int)))) ∧
        [AObj.cells
        [AV.int IntKind.i64 (Prod.fst (List.getD (Prod.snd (List.getD l (Int.toNat i) ([], []))) (Int.toNat k) ((0 : Int), (0 : Int)))),
        AV.int IntKind.i64 (Prod.snd (List.getD (Prod.snd (List.getD l (Int.toNat i) ([], []))) (Int.toNat k) ((0 : Int), (0 : Int))))]] =
        [AObj.cells
        [AV.int IntKind.i64 (Prod.fst (List.getD (Prod.snd (List.getD l (Int.toNat i) ([], []))) (Int.toNat k) ((0 : Int), (0 : Int)))),
        AV.int IntKind.i64 (Prod.snd (List.getD (Prod.snd (List.getD l (Int.toNat i) ([], []))) (Int.toNat k) ((0 : Int), (0 : Int))))]]) ∧
        (AV.int IntKind.i64 (Prod.snd (List.getD (Prod.snd (List.getD l (Int.toNat i) ([], []))) (Int.toNat k) ((0 : Int), (0 : Int)))) =
        AV.int IntKind.i64 (Prod.snd (List.getD (Prod.snd (List.getD l (Int.toNat i) ([], []))) (Int.toNat k) ((0 : Int), (0 : Int)))) ∧
        [AObj.cells
        [AV.int IntKind.i64 (Prod.fst (List.getD (Prod.snd (List.getD l (Int.toNat i) ([], []))) (Int.toNat k) ((0 : Int), (0 : Int)))),
        AV.int IntKind.i64 (Prod.snd (List.getD (Prod.snd (List.getD l (Int.toNat i) ([], []))) (Int.toNat k) ((0 : Int), (0 : Int))))]] =
        [AObj.cells
        [AV.int IntKind.i64 (Prod.fst (List.getD (Prod.snd (List.getD l (Int.toNat i) ([], []))) (Int.toNat k) ((0 : Int), (0 : Int)))),
        AV.int IntKind.i64 (Prod.snd (List.getD (Prod.snd (List.getD l (Int.toNat i) ([], []))) (Int.toNat k) ((0 : Int), (0 : Int))))]]) ∧
        needP ((↑(ByteArray.size s + ByteArray.size x) : Int) ≤ (9223372036854775807 : Int))
        (ASpec Try.prog 150
        [AV.int IntKind.i64
        (IntKind.wrap IntKind.i64
        (Prod.snd (List.getD (Prod.snd (List.getD l (Int.toNat i) ([], []))) (Int.toNat k) ((0 : Int), (0 : Int))) -
        Prod.fst (List.getD (Prod.snd (List.getD l (Int.toNat i) ([], []))) (Int.toNat k) ((0 : Int), (0 : Int)))))]
        [AObj.cells
        [AV.int IntKind.i64 (Prod.fst (List.getD (Prod.snd (List.getD l (Int.toNat i) ([], []))) (Int.toNat k) ((0 : Int), (0 : Int)))),
        AV.int IntKind.i64 (Prod.snd (List.getD (Prod.snd (List.getD l (Int.toNat i) ([], []))) (Int.toNat k) ((0 : Int), (0 : Int))))]]
        fun (r : AV) (H' : List AObj) =>
        ∃ (x_1 : ByteArray),
        r = AV.str x_1 ∧
        H' =
        [AObj.cells
        [AV.int IntKind.i64 (Prod.fst (List.getD (Prod.snd (List.getD l (Int.toNat i) ([], []))) (Int.toNat k) ((0 : Int), (0 : Int)))),
        AV.int IntKind.i64 (Prod.snd (List.getD (Prod.snd (List.getD l (Int.toNat i) ([], []))) (Int.toNat k) ((0 : Int), (0 : Int))))]] ∧
        needP ((↑(ByteArray.size (s ++ x) + ByteArray.size x_1) : Int) ≤ (9223372036854775807 : Int))
        (AWP Try.prog 63 n c264_7
        [(0, AV.sl 2 (Seq.map T.encN ([], []) l) Tip.none), (3, AV.str (s ++ x ++ x_1)), (4, AV.int IntKind.i64 i),
        (5, AV.int IntKind.i64 (IntKind.wrap IntKind.i64 (k + (1 : Int))))]
        [AObj.cells
        [AV.int IntKind.i64 (Prod.fst (List.getD (Prod.snd (List.getD l (Int.toNat i) ([], []))) (Int.toNat k) ((0 : Int), (0 : Int)))),
        AV.int IntKind.i64 (Prod.snd (List.getD (Prod.snd (List.getD l (Int.toNat i) ([], []))) (Int.toNat k) ((0 : Int), (0 : Int))))]]
        (q264_6 n Post))))))
        (AWP Try.prog 63 n c264_3
        [(0, AV.sl 2 (Seq.map T.encN ([], []) l) Tip.none), (3, AV.str s), (4, AV.int IntKind.i64 (IntKind.wrap IntKind.i64 (i + (1 : Int))))] [] (q264_2 n Post))) →
    AWP Try.prog 63 n c264_7 [(0, AV.sl 2 (Seq.map T.encN ([], []) l) Tip.none), (3, AV.str s), (4, AV.int IntKind.i64 i), (5, AV.int IntKind.i64 k)] []
      (q264_6 n Post) := fun l s i k n Post h => Go.Ab.AWP.loop' g264 (Cfg.live g264) c264_7 (by kernel_rfl) (by kernel_rfl) (Go.Ab.kc (by kernel_rfl) h)

-- 172
noncomputable def l172 : Nat → List Nat
  | 5 => [1, 3, 4]
  | _ => []
noncomputable def u172 : Nat → Bool
  | _ => false
noncomputable def m172 : Nat → Bool
  | _ => false
noncomputable def g172 : Cfg := { N := 41, live := l172, cut := u172, mu := m172, ret := rets }
noncomputable def c172 : Go.Code := Go.Ab.bodyOf Go.Proofs.Try.f172
noncomputable def q172_0 : Nat → (AV → List AObj → Prop) → AQ := fun (n : Nat) (Post : AV → List AObj → Prop) => endQ Try.prog (resultsOf Try.f172) Post
noncomputable def q172_1 : Nat → (AV → List AObj → Prop) → AQ := fun (n : Nat) (Post : AV → List AObj → Prop) => seqQ (fun (s' : Slots) (H' : List AObj) => awp Try.prog g172 n (codeSnd (codeSnd (codeSnd (codeSnd c172)))) s' H' (q172_0 n Post)) (q172_0 n Post)
noncomputable def q172_2 : Nat → (AV → List AObj → Prop) → AQ := fun (n : Nat) (Post : AV → List AObj → Prop) => blockQ 0 (q172_1 n Post)
noncomputable def c172_5 : Go.Code := codeFst (codeSnd (codeFst (codeSnd (codeSnd (codeSnd c172)))))
theorem s172 : ∀ (m : T.Mani) (Post : AV → List AObj → Prop),
  (ASpec Try.prog 186 [AV.agg [AV.str { data := List.toArray (Prod.fst m) }, AV.sl 2 (Seq.map T.encR ((0 : Int), []) (Prod.snd m)) Tip.none]]
      [AObj.cells [AV.str { data := List.toArray (Prod.fst m) }, AV.sl 2 (Seq.map T.encR ((0 : Int), []) (Prod.snd m)) Tip.none]] fun (r : AV) (H' : List AObj) =>
      ∃ (x : Bool),
        r = AV.bool x ∧
        H' = [AObj.cells [AV.str { data := List.toArray (Prod.fst m) }, AV.sl 2 (Seq.map T.encR ((0 : Int), []) (Prod.snd m)) Tip.none]] ∧
        condP (!x) (Post (AV.str { data := #[] }) [AObj.cells [AV.str { data := List.toArray (Prod.fst m) }, AV.sl 2 (Seq.map T.encR ((0 : Int), []) (Prod.snd m)) Tip.none]])
        (ASpec Try.prog 151 [AV.str { data := List.toArray (Prod.fst m) }]
        [AObj.cells [AV.str { data := List.toArray (Prod.fst m) }, AV.sl 2 (Seq.map T.encR ((0 : Int), []) (Prod.snd m)) Tip.none]] fun (r : AV) (H' : List AObj) =>
        ∃ (x : ByteArray),
        r = AV.str x ∧
        H' = [AObj.cells [AV.str { data := List.toArray (Prod.fst m) }, AV.sl 2 (Seq.map T.encR ((0 : Int), []) (Prod.snd m)) Tip.none]] ∧
        (AV.int IntKind.i64 (↑(List.length (Prod.snd m)) : Int) = AV.int IntKind.i64 (↑(List.length (Prod.snd m)) : Int) ∧
        [AObj.cells [AV.str { data := List.toArray (Prod.fst m) }, AV.sl 2 (Seq.map T.encR ((0 : Int), []) (Prod.snd m)) Tip.none]] =
        [AObj.cells [AV.str { data := List.toArray (Prod.fst m) }, AV.sl 2 (Seq.map T.encR ((0 : Int), []) (Prod.snd m)) Tip.none]]) ∧
        (AV.sl 2 (Seq.map T.encR ((0 : Int), []) (Prod.snd m)) Tip.none = AV.sl 2 (Seq.map T.encR ((0 : Int), []) (Prod.snd m)) Tip.none ∧
        [AObj.cells [AV.str { data := List.toArray (Prod.fst m) }, AV.sl 2 (Seq.map T.encR ((0 : Int), []) (Prod.snd m)) Tip.none]] =
        [AObj.cells [AV.str { data := List.toArray (Prod.fst m) }, AV.sl 2 (Seq.map T.encR ((0 : Int), []) (Prod.snd m)) Tip.none]]) ∧
        ASpec Try.prog 150 [AV.int IntKind.i64 (↑(List.length (Prod.snd m)) : Int)]
        [AObj.cells [AV.str { data := List.toArray (Prod.fst m) }, AV.sl 2 (Seq.map T.encR ((0 : Int), []) (Prod.snd m)) Tip.none]] fun (r : AV) (H' : List AObj) =>
        ∃ (x_1 : ByteArray),
        r = AV.str x_1 ∧
        H' = [AObj.cells [AV.str { data := List.toArray (Prod.fst m) }, AV.sl 2 (Seq.map T.encR ((0 : Int), []) (Prod.snd m)) Tip.none]] ∧
        needP ((↑(ByteArray.size x + ByteArray.size x_1) : Int) ≤ (9223372036854775807 : Int))
        (AWP Try.prog 41 0 c172_5 [(1, AV.ptr 0 0), (3, AV.str (x ++ x_1)), (4, AV.int IntKind.i64 (0 : Int))]
        [AObj.cells [AV.str { data := List.toArray (Prod.fst m) }, AV.sl 2 (Seq.map T.encR ((0 : Int), []) (Prod.snd m)) Tip.none]] (q172_2 0 Post)))) →
    ASpec Try.prog 172 [AV.agg (T.encM m)] [] Post := fun m Post h => Go.Ab.ASpec.of_vc g172 Go.Proofs.Try.func172 (by kernel_rfl) (by kernel_rfl) (by kernel_rfl) (Go.Ab.kc (by kernel_rfl) h)
theorem v172_5 : ∀ (m : T.Mani) (s : ByteArray) (i : Int) (n : Nat) (Post : AV → List AObj → Prop),
  condP (decide (i < (↑(List.length (Prod.snd m)) : Int)))
      (needP ((0 : Int) ≤ i ∧ i < (↑(List.length (Prod.snd m)) : Int))
        (needP ((0 : Int) ≤ i ∧ i < (↑(List.length (Prod.snd m)) : Int))
        (ASpec Try.prog 150 [AV.int IntKind.i64 (Prod.fst (List.getD (Prod.snd m) (Int.toNat i) ((0 : Int), [])))]
        [AObj.cells [AV.str { data := List.toArray (Prod.fst m) }, AV.sl 2 (Seq.map T.encR ((0 : Int), []) (Prod.snd m)) Tip.none]] fun (r : AV) (H' : List AObj) =>
        ∃ (x : ByteArray),
        r = AV.str x ∧
        H' = [AObj.cells [AV.str { data := List.toArray (Prod.fst m) }, AV.sl 2 (Seq.map T.encR ((0 : Int), []) (Prod.snd m)) Tip.none]] ∧
        (AV.sl 2 (Seq.map T.encN ([], []) (Prod.snd (List.getD (Prod.snd m) (Int.toNat i) ((0 : Int), [])))) Tip.none =
        AV.sl 2 (Seq.map T.encN ([], []) (Prod.snd (List.getD (Prod.snd m) (Int.toNat i) ((0 : Int), [])))) Tip.none ∧
        [AObj.cells [AV.str { data := List.toArray (Prod.fst m) }, AV.sl 2 (Seq.map T.encR ((0 : Int), []) (Prod.snd m)) Tip.none]] =
        [AObj.cells [AV.str { data := List.toArray (Prod.fst m) }, AV.sl 2 (Seq.map T.encR ((0 : Int), []) (Prod.snd m)) Tip.none]]) ∧
        (AV.sl 2 (Seq.map T.encR ((0 : Int), []) (Prod.snd m)) Tip.none = AV.sl 2 (Seq.map T.encR ((0 : Int), []) (Prod.snd m)) Tip.none ∧
        [AObj.cells [AV.str { data := List.toArray (Prod.fst m) }, AV.sl 2 (Seq.map T.encR ((0 : Int), []) (Prod.snd m)) Tip.none]] =
        [AObj.cells [AV.str { data := List.toArray (Prod.fst m) }, AV.sl 2 (Seq.map T.encR ((0 : Int), []) (Prod.snd m)) Tip.none]]) ∧
        needP ((↑(ByteArray.size s + ByteArray.size x) : Int) ≤ (9223372036854775807 : Int))
        (ASpec Try.prog 264 [AV.sl 2 (Seq.map T.encN ([], []) (Prod.snd (List.getD (Prod.snd m) (Int.toNat i) ((0 : Int), [])))) Tip.none]
        [AObj.cells [AV.str { data := List.toArray (Prod.fst m) }, AV.sl 2 (Seq.map T.encR ((0 : Int), []) (Prod.snd m)) Tip.none]] fun (r : AV) (H' : List AObj) =>
        ∃ (x_1 : ByteArray),
        r = AV.str x_1 ∧
        H' = [AObj.cells [AV.str { data := List.toArray (Prod.fst m) }, AV.sl 2 (Seq.map T.encR ((0 : Int), []) (Prod.snd m)) Tip.none]] ∧
        needP ((↑(ByteArray.size (s ++ x) + ByteArray.size x_1) : Int) ≤ (9223372036854775807 : Int))
        (AWP Try.prog 41 n c172_5
        [(1, AV.ptr 0 0), (3, AV.str (s ++ x ++ x_1)), (4, AV.int IntKind.i64 (IntKind.wrap IntKind.i64 (i + (1 : Int))))]
        [AObj.cells [AV.str { data := List.toArray (Prod.fst m) }, AV.sl 2 (Seq.map T.encR ((0 : Int), []) (Prod.snd m)) Tip.none]] (q172_2 n Post))))))
      (Post (AV.str s) [AObj.cells [AV.str { data := List.toArray (Prod.fst m) }, AV.sl 2 (Seq.map T.encR ((0 : Int), []) (Prod.snd m)) Tip.none]]) →
    AWP Try.prog 41 n c172_5 [(1, AV.ptr 0 0), (3, AV.str s), (4, AV.int IntKind.i64 i)] [AObj.cells (T.encM m)] (q172_2 n Post) := fun m s i n Post h => Go.Ab.AWP.loop' g172 (Cfg.live g172) c172_5 (by kernel_rfl) (by kernel_rfl) (Go.Ab.kc (by kernel_rfl) h)

-- 270
noncomputable def l326 : Nat → List Nat
  | 4 => [0, 3, 4, 5]
  | 9 => [0, 3, 4, 5, 6, 7, 8]
  | _ => []
noncomputable def u326 : Nat → Bool
  | _ => false
noncomputable def m326 : Nat → Bool
  | _ => false
noncomputable def g326 : Cfg := { N := 47, live := l326, cut := u326, mu := m326, ret := rets }
noncomputable def c326 : Go.Code := Go.Ab.bodyOf Go.Proofs.Try.f326
noncomputable def q326_0 : Nat → (AV → List AObj → Prop) → AQ := fun (n : Nat) (Post : AV → List AObj → Prop) => endQ Try.prog (resultsOf Try.f326) Post
noncomputable def q326_1 : Nat → (AV → List AObj → Prop) → AQ := fun (n : Nat) (Post : AV → List AObj → Prop) => seqQ (fun (s' : Slots) (H' : List AObj) => awp Try.prog g326 n (codeSnd (codeSnd (codeSnd (codeSnd c326)))) s' H' (q326_0 n Post)) (q326_0 n Post)
noncomputable def q326_2 : Nat → (AV → List AObj → Prop) → AQ := fun (n : Nat) (Post : AV → List AObj → Prop) => blockQ 0 (q326_1 n Post)
noncomputable def c326_4 : Go.Code := codeFst (codeSnd (codeFst (codeSnd (codeSnd (codeSnd c326)))))
noncomputable def q326_3 : Nat → (AV → List AObj → Prop) → AQ := fun (n : Nat) (Post : AV → List AObj → Prop) => loopQ Try.prog 47 n c326_4 (q326_2 n Post) (Cfg.live g326)
noncomputable def q326_4 : Nat → (AV → List AObj → Prop) → AQ := fun (n : Nat) (Post : AV → List AObj → Prop) => seqQ (fun (s' : Slots) (H' : List AObj) => awp Try.prog g326 n (codeSnd (codeSnd (codeFst c326_4))) s' H' (q326_3 n Post)) (q326_3 n Post)
noncomputable def q326_5 : Nat → (AV → List AObj → Prop) → AQ := fun (n : Nat) (Post : AV → List AObj → Prop) => blockQ 1 (q326_4 n Post)
noncomputable def q326_6 : Nat → (AV → List AObj → Prop) → AQ := fun (n : Nat) (Post : AV → List AObj → Prop) => seqQ (fun (s' : Slots) (H' : List AObj) => awp Try.prog g326 n (codeSnd (codeSnd (codeSnd (codeFst (codeFst (codeSnd (codeFst c326_4))))))) s' H' (q326_5 n Post)) (q326_5 n Post)
noncomputable def q326_7 : Nat → (AV → List AObj → Prop) → AQ := fun (n : Nat) (Post : AV → List AObj → Prop) => blockQ 2 (q326_6 n Post)
noncomputable def c326_9 : Go.Code := codeFst (codeSnd (codeFst (codeSnd (codeSnd (codeFst (codeFst (codeSnd (codeFst c326_4))))))))
theorem v326_4 : ∀ (s : ByteArray) (e : Int) (acc : List T.Need) (n i : Int) (n_1 : Nat) (Post : AV → List AObj → Prop),
  condP (decide (i < n))
      (ASpec Try.prog 148 [AV.ptr 0 0, AV.int IntKind.i64 (24 : Int)] [AObj.cells [AV.str s, AV.int IntKind.i64 e], AObj.tok] fun (r : AV) (H' : List AObj) =>
        ∃ (x : ByteArray × ByteArray × Int),
        r = AV.str (Prod.fst x) ∧
        H' = [AObj.cells [AV.str (Prod.fst (Prod.snd x)), AV.int IntKind.i64 (Prod.snd (Prod.snd x))], AObj.tok] ∧
        ASpec Try.prog 147 [AV.ptr 0 0, AV.int IntKind.i64 (6 : Int)]
        [AObj.cells [AV.str (Prod.fst (Prod.snd x)), AV.int IntKind.i64 (Prod.snd (Prod.snd x))], AObj.tok, AObj.cells [AV.str (Prod.fst x), AV.sl 0 (Seq.raw []) Tip.nil]]
        fun (r : AV) (H' : List AObj) =>
        ∃ (x_1 : Int × ByteArray × Int),
        r = AV.int IntKind.i64 (Prod.fst x_1) ∧
        H' =
        [AObj.cells [AV.str (Prod.fst (Prod.snd x_1)), AV.int IntKind.i64 (Prod.snd (Prod.snd x_1))], AObj.tok,
        AObj.cells [AV.str (Prod.fst x), AV.sl 0 (Seq.raw []) Tip.nil]] ∧
        AWP Try.prog 47 n_1 c326_9
        [(0, AV.ptr 0 0), (3, AV.sl 2 (Seq.map T.encN ([], []) acc) (Tip.tok 1)), (4, AV.int IntKind.i64 n),
        (5, AV.int IntKind.i64 i), (6, AV.ptr 2 0), (7, AV.int IntKind.i64 (Prod.fst x_1)), (8, AV.int IntKind.i64 (0 : Int))]
        [AObj.cells [AV.str (Prod.fst (Prod.snd x_1)), AV.int IntKind.i64 (Prod.snd (Prod.snd x_1))], AObj.tok, AObj.cells [AV.str (Prod.fst x), AV.sl 0 (Seq.raw []) Tip.nil]]
        (q326_7 n_1 Post))
      (Post (AV.sl 2 (Seq.map T.encN ([], []) acc) (Tip.tok 1)) [AObj.cells [AV.str s, AV.int IntKind.i64 e], AObj.tok]) →
    AWP Try.prog 47 n_1 c326_4
      [(0, AV.ptr 0 0), (3, AV.sl 2 (Seq.map T.encN ([], []) acc) (Tip.tok 1)), (4, AV.int IntKind.i64 n), (5, AV.int IntKind.i64 i)]
      [AObj.cells [AV.str s, AV.int IntKind.i64 e], AObj.tok] (q326_2 n_1 Post) := fun s e acc n i n Post h => Go.Ab.AWP.loop' g326 (Cfg.live g326) c326_4 (by kernel_rfl) (by kernel_rfl) (Go.Ab.kc (by kernel_rfl) h)
theorem v326_9 : ∀ (s : ByteArray) (e : Int) (acc : List T.Need) (n i : Int) (nm : ByteArray) (sp : List T.Span) (k j : Int) (n_1 : Nat) (Post : AV → List AObj → Prop),
  condP (decide (j < k))
      (ASpec Try.prog 147 [AV.ptr 0 0, AV.int IntKind.i64 (1000000000 : Int)]
        [AObj.cells [AV.str s, AV.int IntKind.i64 e], AObj.tok, AObj.cells [AV.str nm, AV.sl 2 (Seq.map T.encS ((0 : Int), (0 : Int)) sp) (Tip.tok 3)], AObj.tok]
        fun (r : AV) (H' : List AObj) =>
        ∃ (x : Int × ByteArray × Int),
        r = AV.int IntKind.i64 (Prod.fst x) ∧
        H' =
        [AObj.cells [AV.str (Prod.fst (Prod.snd x)), AV.int IntKind.i64 (Prod.snd (Prod.snd x))], AObj.tok,
        AObj.cells [AV.str nm, AV.sl 2 (Seq.map T.encS ((0 : Int), (0 : Int)) sp) (Tip.tok 3)], AObj.tok] ∧
        ASpec Try.prog 147 [AV.ptr 0 0, AV.int IntKind.i64 (1000000000 : Int)]
        [AObj.cells [AV.str (Prod.fst (Prod.snd x)), AV.int IntKind.i64 (Prod.snd (Prod.snd x))], AObj.tok,
        AObj.cells [AV.str nm, AV.sl 2 (Seq.map T.encS ((0 : Int), (0 : Int)) sp) (Tip.tok 3)], AObj.tok]
        fun (r : AV) (H' : List AObj) =>
        ∃ (x_1 : Int × ByteArray × Int),
        r = AV.int IntKind.i64 (Prod.fst x_1) ∧
        H' =
        [AObj.cells [AV.str (Prod.fst (Prod.snd x_1)), AV.int IntKind.i64 (Prod.snd (Prod.snd x_1))], AObj.tok,
        AObj.cells [AV.str nm, AV.sl 2 (Seq.map T.encS ((0 : Int), (0 : Int)) sp) (Tip.tok 3)], AObj.tok] ∧
        needP ((List.length sp + 1) * 16 ≤ 140737488351232)
        (AWP Try.prog 47 n_1 c326_9
        [(0, AV.ptr 0 0), (3, AV.sl 2 (Seq.map T.encN ([], []) acc) (Tip.tok 1)), (4, AV.int IntKind.i64 n),
        (5, AV.int IntKind.i64 i), (6, AV.ptr 2 0), (7, AV.int IntKind.i64 k),
        (8, AV.int IntKind.i64 (IntKind.wrap IntKind.i64 (j + (1 : Int))))]
        [AObj.cells [AV.str (Prod.fst (Prod.snd x_1)), AV.int IntKind.i64 (Prod.snd (Prod.snd x_1))], AObj.tok,
        AObj.cells
        [AV.str nm,
        AV.sl 2
        (Seq.app (Seq.map T.encS ((0 : Int), (0 : Int)) sp)
        (Seq.raw [[AV.int IntKind.i64 (Prod.fst x), AV.int IntKind.i64 (IntKind.wrap IntKind.i64 (Prod.fst x + Prod.fst x_1))]]))
        (Tip.tok 4)],
        AObj.gone, AObj.tok]
        (q326_7 n_1 Post)))
      (needP ((List.length acc + 1) * 40 ≤ 140737488351232)
        (AWP Try.prog 47 n_1 c326_4
        [(0, AV.ptr 0 0),
        (3,
        AV.sl 2 (Seq.app (Seq.map T.encN ([], []) acc) (Seq.raw [[AV.str nm, AV.sl 2 (Seq.map T.encS ((0 : Int), (0 : Int)) sp) (Tip.tok 3)]])) (Tip.tok 4)),
        (4, AV.int IntKind.i64 n), (5, AV.int IntKind.i64 (IntKind.wrap IntKind.i64 (i + (1 : Int))))]
        [AObj.cells [AV.str s, AV.int IntKind.i64 e], AObj.gone, AObj.cells [AV.str nm, AV.sl 2 (Seq.map T.encS ((0 : Int), (0 : Int)) sp) (Tip.tok 3)], AObj.tok, AObj.tok]
        (q326_2 n_1 Post))) →
    AWP Try.prog 47 n_1 c326_9
      [(0, AV.ptr 0 0), (3, AV.sl 2 (Seq.map T.encN ([], []) acc) (Tip.tok 1)), (4, AV.int IntKind.i64 n), (5, AV.int IntKind.i64 i),
        (6, AV.ptr 2 0), (7, AV.int IntKind.i64 k), (8, AV.int IntKind.i64 j)]
      [AObj.cells [AV.str s, AV.int IntKind.i64 e], AObj.tok, AObj.cells [AV.str nm, AV.sl 2 (Seq.map T.encS ((0 : Int), (0 : Int)) sp) (Tip.tok 3)], AObj.tok] (q326_7 n_1 Post) := fun s e acc n i nm sp k j n Post h => Go.Ab.AWP.loop' g326 (Cfg.live g326) c326_9 (by kernel_rfl) (by kernel_rfl) (Go.Ab.kc (by kernel_rfl) h)

-- 277
end
end W
end

section
/- Entries, and what an index knows. -/

open Go Go.Ab Go.Proofs
namespace T
/-- name, body -/
abbrev Ent := List UInt8 × List UInt8
noncomputable def encEn (x : Ent) : List AV := [.str ⟨x.1.toArray⟩, .sl 1 (.map encB 0 x.2) .none]
end T
end

section
/- Names as cells. -/

open Go Go.Ab Go.Proofs
namespace T
noncomputable def encL (x : List UInt8) : List AV := [.str ⟨x.toArray⟩]
end T
end

section
/- Printed: what the code of functions 58, 38, 37, 183, 278, 279, 61, 166, 59, 64, 47, 182, 60, 65, 63, 67, 68, 69, 57, 7, 8 asks for, by the framework's own reading of it; each line is checked against the code. -/

set_option linter.unusedVariables false
set_option maxRecDepth 100000
set_option maxHeartbeats 4000000
open Go Go.Ab Go.Proofs
namespace Dp
noncomputable section

noncomputable def retD : List (Nat × Ret) := [
  (58, ⟨Bool, fun _ _ x => .bool x, fun _ H _ => H⟩),
  (38, ⟨Bool, fun _ _ x => .bool x, fun _ H _ => H⟩),
  (183, ⟨Int × Bool, fun _ _ x => .tup [.int .i64 x.1, .bool x.2], fun _ H _ => H⟩),
  (278, ⟨Int × Bool, fun _ _ x => .tup [.int .i64 x.1, .bool x.2], fun _ H _ => H⟩),
  (279, ⟨Int, fun _ _ x => .int .i64 x, fun _ H _ => H⟩),
  (280, ⟨Int, fun _ _ x => .int .i64 x, fun _ H _ => H⟩),
  (61, ⟨List UInt8, fun _ _ x => .sl 1 (.map encB 0 x) .none, fun _ H _ => H⟩),
  (166, ⟨List UInt8, fun _ _ x => .sl 1 (.map encB 0 x) .none, fun _ H _ => H⟩),
  (59, ⟨T.Mani × Bool, fun _ _ x => .tup [.agg (T.encM x.1), .bool x.2], fun _ H _ => H⟩),
  (182, ⟨T.Mani × Bool, fun _ _ x => .tup [.agg (T.encM x.1), .bool x.2], fun _ H _ => H⟩),
  (60, ⟨T.Mani × Bool, fun _ _ x => .tup [.agg (T.encM x.1), .bool x.2], fun _ H _ => H⟩),
  (64, ⟨List (List UInt8), fun _ _ x => .sl 1 (.map T.encL [] x) .none, fun _ H _ => H⟩),
  (65, ⟨List (List UInt8), fun _ _ x => .sl 1 (.map T.encL [] x) .none, fun _ H _ => H⟩),
  (63, ⟨Bool, fun _ _ x => .bool x, fun _ H _ => H⟩),
  (67, ⟨List T.Ent × Bool, fun _ _ x => .tup [.sl 2 (.map T.encEn ([], []) x.1) .none, .bool x.2], fun _ H _ => H⟩),
  (68, ⟨List T.Ent × Bool, fun _ _ x => .tup [.sl 2 (.map T.encEn ([], []) x.1) .none, .bool x.2], fun _ H _ => H⟩),
  (69, ⟨Bool, fun _ _ x => .bool x, fun _ H _ => H⟩),
  (37, ⟨Bool, fun _ _ x => .bool x, fun _ H _ => H⟩),
  (47, ⟨ByteArray, fun _ _ x => .str x, fun _ H _ => H⟩),
  (57, ⟨Unit, fun _ _ _ => .bool true, fun _ H _ => H⟩)]
noncomputable def rets : FuncId → List Ret := lookupR (retD ++ W.retW ++ C.retC ++ V.retL)

-- 58
noncomputable def l58 : Nat → List Nat
  | 3 => [0, 3, 6, 7, 8]
  | _ => []
noncomputable def u58 : Nat → Bool
  | _ => false
noncomputable def m58 : Nat → Bool
  | _ => false
noncomputable def g58 : Cfg := { N := 34, live := l58, cut := u58, mu := m58, ret := rets }
noncomputable def c58 : Go.Code := Go.Ab.bodyOf Go.Proofs.Try.f58
noncomputable def q58_0 : Nat → (AV → List AObj → Prop) → AQ := fun (n : Nat) (Post : AV → List AObj → Prop) => endQ Try.prog (resultsOf Try.f58) Post
noncomputable def q58_1 : Nat → (AV → List AObj → Prop) → AQ := fun (n : Nat) (Post : AV → List AObj → Prop) => seqQ (fun (s' : Slots) (H' : List AObj) => awp Try.prog g58 n (codeSnd (codeSnd (codeSnd c58))) s' H' (q58_0 n Post)) (q58_0 n Post)
noncomputable def q58_2 : Nat → (AV → List AObj → Prop) → AQ := fun (n : Nat) (Post : AV → List AObj → Prop) => blockQ 0 (q58_1 n Post)
noncomputable def c58_3 : Go.Code := codeFst (codeSnd (codeFst (codeSnd (codeSnd c58))))
theorem s58 : ∀ (l : List T.Ent) (Post : AV → List AObj → Prop),
  AWP Try.prog 34 0 c58_3
      [(0, AV.sl 2 (Seq.map T.encEn ([], []) l) Tip.none), (3, AV.str { data := #[] }), (6, AV.sl 2 (Seq.map T.encEn ([], []) l) Tip.none),
        (7, AV.int IntKind.i64 (↑(List.length l) : Int)), (8, AV.int IntKind.i64 (0 : Int))]
      [] (q58_2 0 Post) →
    ASpec Try.prog 58 [AV.sl 2 (Seq.map T.encEn ([], []) l) Tip.none] [] Post := fun l Post h => Go.Ab.ASpec.of_vc g58 Go.Proofs.Try.func58 (by kernel_rfl) (by kernel_rfl) (by kernel_rfl) (Go.Ab.kc (by kernel_rfl) h)
theorem v58_3 : ∀ (l : List T.Ent) (last : List UInt8) (n i : Int) (n_1 : Nat) (Post : AV → List AObj → Prop),
  condP (decide (i < n))
      (needP ((0 : Int) ≤ i ∧ i < (↑(List.length l) : Int))
        (ASpec Try.prog 154 [AV.str { data := List.toArray (Prod.fst (List.getD l (Int.toNat i) ([], []))) }]
        [AObj.cells
        [AV.str { data := List.toArray (Prod.fst (List.getD l (Int.toNat i) ([], []))) }, AV.sl 1 (Seq.map encB (0 : UInt8) (Prod.snd (List.getD l (Int.toNat i) ([], [])))) Tip.none]]
        fun (r : AV) (H' : List AObj) =>
        ∃ (x : Bool),
        r = AV.bool x ∧
        H' =
        [AObj.cells
        [AV.str { data := List.toArray (Prod.fst (List.getD l (Int.toNat i) ([], []))) },
        AV.sl 1 (Seq.map encB (0 : UInt8) (Prod.snd (List.getD l (Int.toNat i) ([], [])))) Tip.none]] ∧
        condP (!x)
        (Post (AV.bool false)
        [AObj.cells
        [AV.str { data := List.toArray (Prod.fst (List.getD l (Int.toNat i) ([], []))) },
        AV.sl 1 (Seq.map encB (0 : UInt8) (Prod.snd (List.getD l (Int.toNat i) ([], [])))) Tip.none]])
        (condP
        (Op.bytesLess (ByteArray.toList { data := List.toArray (Prod.fst (List.getD l (Int.toNat i) ([], []))) }) (ByteArray.toList { data := List.toArray last }) ||
        ByteArray.toList { data := List.toArray (Prod.fst (List.getD l (Int.toNat i) ([], []))) } == ByteArray.toList { data := List.toArray last })
        (Post (AV.bool false)
        [AObj.cells
        [AV.str { data := List.toArray (Prod.fst (List.getD l (Int.toNat i) ([], []))) },
        AV.sl 1 (Seq.map encB (0 : UInt8) (Prod.snd (List.getD l (Int.toNat i) ([], [])))) Tip.none]])
        (condP (decide ((↑(List.length (Prod.snd (List.getD l (Int.toNat i) ([], [])))) : Int) > (8192 : Int)))
        (Post (AV.bool false)
        [AObj.cells
        [AV.str { data := List.toArray (Prod.fst (List.getD l (Int.toNat i) ([], []))) },
        AV.sl 1 (Seq.map encB (0 : UInt8) (Prod.snd (List.getD l (Int.toNat i) ([], [])))) Tip.none]])
        (AWP Try.prog 34 n_1 c58_3
        [(0, AV.sl 2 (Seq.map T.encEn ([], []) l) Tip.none), (3, AV.str { data := List.toArray (Prod.fst (List.getD l (Int.toNat i) ([], []))) }),
        (6, AV.sl 2 (Seq.map T.encEn ([], []) l) Tip.none), (7, AV.int IntKind.i64 n),
        (8, AV.int IntKind.i64 (IntKind.wrap IntKind.i64 (i + (1 : Int))))]
        [AObj.cells
        [AV.str { data := List.toArray (Prod.fst (List.getD l (Int.toNat i) ([], []))) },
        AV.sl 1 (Seq.map encB (0 : UInt8) (Prod.snd (List.getD l (Int.toNat i) ([], [])))) Tip.none]]
        (q58_2 n_1 Post))))))
      (Post (AV.bool (decide ((↑(List.length l) : Int) ≤ (24 : Int)))) []) →
    AWP Try.prog 34 n_1 c58_3
      [(0, AV.sl 2 (Seq.map T.encEn ([], []) l) Tip.none), (3, AV.str { data := List.toArray last }), (6, AV.sl 2 (Seq.map T.encEn ([], []) l) Tip.none),
        (7, AV.int IntKind.i64 n), (8, AV.int IntKind.i64 i)]
      [] (q58_2 n_1 Post) := fun l last n i n Post h => Go.Ab.AWP.loop' g58 (Cfg.live g58) c58_3 (by kernel_rfl) (by kernel_rfl) (Go.Ab.kc (by kernel_rfl) h)

-- 38
noncomputable def l38 : Nat → List Nat
  | 2 => [0, 3]
  | _ => []
noncomputable def u38 : Nat → Bool
  | _ => false
noncomputable def m38 : Nat → Bool
  | _ => false
noncomputable def g38 : Cfg := { N := 47, live := l38, cut := u38, mu := m38, ret := rets }
noncomputable def c38 : Go.Code := Go.Ab.bodyOf Go.Proofs.Try.f38
noncomputable def q38_0 : Nat → (AV → List AObj → Prop) → AQ := fun (n : Nat) (Post : AV → List AObj → Prop) => endQ Try.prog (resultsOf Try.f38) Post
noncomputable def q38_1 : Nat → (AV → List AObj → Prop) → AQ := fun (n : Nat) (Post : AV → List AObj → Prop) => seqQ (fun (s' : Slots) (H' : List AObj) => awp Try.prog g38 n (codeSnd (codeSnd c38)) s' H' (q38_0 n Post)) (q38_0 n Post)
noncomputable def q38_2 : Nat → (AV → List AObj → Prop) → AQ := fun (n : Nat) (Post : AV → List AObj → Prop) => blockQ 0 (q38_1 n Post)
noncomputable def c38_2 : Go.Code := codeFst (codeSnd (codeFst (codeSnd c38)))
theorem s38 : ∀ (l : List T.Ent) (Post : AV → List AObj → Prop),
  AWP Try.prog 47 0 c38_2 [(0, AV.sl 2 (Seq.map T.encEn ([], []) l) Tip.none), (3, AV.int IntKind.i64 (0 : Int))] [] (q38_2 0 Post) →
    ASpec Try.prog 38 [AV.sl 2 (Seq.map T.encEn ([], []) l) Tip.none] [] Post := fun l Post h => Go.Ab.ASpec.of_vc g38 Go.Proofs.Try.func38 (by kernel_rfl) (by kernel_rfl) (by kernel_rfl) (Go.Ab.kc (by kernel_rfl) h)
theorem v38_2 : ∀ (l : List T.Ent) (i : Int) (n : Nat) (Post : AV → List AObj → Prop),
  condP (decide (i < (↑(List.length l) : Int)))
      (needP ((0 : Int) ≤ i ∧ i < (↑(List.length l) : Int))
        (ASpec Try.prog 39 [AV.str { data := List.toArray (Prod.fst (List.getD l (Int.toNat i) ([], []))) }] [] fun (r : AV) (H' : List AObj) =>
        ∃ (x : Bool),
        r = AV.bool x ∧
        H' = [] ∧
        condP (!x) (Post (AV.bool false) [])
        (needP ((0 : Int) ≤ i ∧ i < (↑(List.length l) : Int))
        (condP (decide ((↑(List.length (Prod.snd (List.getD l (Int.toNat i) ([], [])))) : Int) > (8192 : Int))) (Post (AV.bool false) [])
        (condP (decide (i > (0 : Int)))
        (needP ((0 : Int) ≤ i ∧ i < (↑(List.length l) : Int))
        (needP ((0 : Int) ≤ IntKind.wrap IntKind.i64 (i - (1 : Int)) ∧ IntKind.wrap IntKind.i64 (i - (1 : Int)) < (↑(List.length l) : Int))
        (condP
        (Op.bytesLess (ByteArray.toList { data := List.toArray (Prod.fst (List.getD l (Int.toNat i) ([], []))) })
        (ByteArray.toList { data := List.toArray (Prod.fst (List.getD l (Int.toNat (IntKind.wrap IntKind.i64 (i - (1 : Int)))) ([], []))) }) ||
        ByteArray.toList { data := List.toArray (Prod.fst (List.getD l (Int.toNat i) ([], []))) } ==
        ByteArray.toList { data := List.toArray (Prod.fst (List.getD l (Int.toNat (IntKind.wrap IntKind.i64 (i - (1 : Int)))) ([], []))) })
        (Post (AV.bool false) [])
        (AWP Try.prog 47 n c38_2
        [(0, AV.sl 2 (Seq.map T.encEn ([], []) l) Tip.none), (3, AV.int IntKind.i64 (IntKind.wrap IntKind.i64 (i + (1 : Int))))] [] (q38_2 n Post)))))
        (AWP Try.prog 47 n c38_2
        [(0, AV.sl 2 (Seq.map T.encEn ([], []) l) Tip.none), (3, AV.int IntKind.i64 (IntKind.wrap IntKind.i64 (i + (1 : Int))))] [] (q38_2 n Post)))))))
      (Post (AV.bool (decide ((↑(List.length l) : Int) ≤ (24 : Int)))) []) →
    AWP Try.prog 47 n c38_2 [(0, AV.sl 2 (Seq.map T.encEn ([], []) l) Tip.none), (3, AV.int IntKind.i64 i)] [] (q38_2 n Post) := fun l i n Post h => Go.Ab.AWP.loop' g38 (Cfg.live g38) c38_2 (by kernel_rfl) (by kernel_rfl) (Go.Ab.kc (by kernel_rfl) h)

-- 37
noncomputable def l37 : Nat → List Nat
  | 4 => [0, 3]
  | _ => []
noncomputable def u37 : Nat → Bool
  | _ => false
noncomputable def m37 : Nat → Bool
  | _ => false
noncomputable def g37 : Cfg := { N := 29, live := l37, cut := u37, mu := m37, ret := rets }
noncomputable def c37 : Go.Code := Go.Ab.bodyOf Go.Proofs.Try.f37
noncomputable def q37_0 : Nat → (AV → List AObj → Prop) → AQ := fun (n : Nat) (Post : AV → List AObj → Prop) => endQ Try.prog (resultsOf Try.f37) Post
noncomputable def q37_1 : Nat → (AV → List AObj → Prop) → AQ := fun (n : Nat) (Post : AV → List AObj → Prop) => seqQ (fun (s' : Slots) (H' : List AObj) => awp Try.prog g37 n (codeSnd (codeSnd (codeSnd c37))) s' H' (q37_0 n Post)) (q37_0 n Post)
noncomputable def q37_2 : Nat → (AV → List AObj → Prop) → AQ := fun (n : Nat) (Post : AV → List AObj → Prop) => blockQ 0 (q37_1 n Post)
noncomputable def c37_4 : Go.Code := codeFst (codeSnd (codeFst (codeSnd (codeSnd c37))))
theorem s37 : ∀ (l : List T.Ent) (Post : AV → List AObj → Prop),
  condP (decide ((↑(List.length l) : Int) > (30 : Int))) (Post (AV.bool true) [])
      (AWP Try.prog 29 0 c37_4 [(0, AV.sl 2 (Seq.map T.encEn ([], []) l) Tip.none), (3, AV.int IntKind.i64 (0 : Int))] [] (q37_2 0 Post)) →
    ASpec Try.prog 37 [AV.sl 2 (Seq.map T.encEn ([], []) l) Tip.none] [] Post := fun l Post h => Go.Ab.ASpec.of_vc g37 Go.Proofs.Try.func37 (by kernel_rfl) (by kernel_rfl) (by kernel_rfl) (Go.Ab.kc (by kernel_rfl) h)
theorem v37_4 : ∀ (l : List T.Ent) (i : Int) (n : Nat) (Post : AV → List AObj → Prop),
  condP (decide (i < (↑(List.length l) : Int)))
      (needP ((0 : Int) ≤ i ∧ i < (↑(List.length l) : Int))
        (condP (decide ((↑(ByteArray.size { data := List.toArray (Prod.fst (List.getD l (Int.toNat i) ([], []))) }) : Int) > (200 : Int))) (Post (AV.bool true) [])
        (needP ((0 : Int) ≤ i ∧ i < (↑(List.length l) : Int))
        (condP (decide ((↑(List.length (Prod.snd (List.getD l (Int.toNat i) ([], [])))) : Int) > (9000 : Int))) (Post (AV.bool true) [])
        (AWP Try.prog 29 n c37_4 [(0, AV.sl 2 (Seq.map T.encEn ([], []) l) Tip.none), (3, AV.int IntKind.i64 (IntKind.wrap IntKind.i64 (i + (1 : Int))))] []
        (q37_2 n Post))))))
      (Post (AV.bool false) []) →
    AWP Try.prog 29 n c37_4 [(0, AV.sl 2 (Seq.map T.encEn ([], []) l) Tip.none), (3, AV.int IntKind.i64 i)] [] (q37_2 n Post) := fun l i n Post h => Go.Ab.AWP.loop' g37 (Cfg.live g37) c37_4 (by kernel_rfl) (by kernel_rfl) (Go.Ab.kc (by kernel_rfl) h)

-- 183
noncomputable def l183 : Nat → List Nat
  | _ => []
noncomputable def u183 : Nat → Bool
  | _ => false
noncomputable def m183 : Nat → Bool
  | _ => false
noncomputable def g183 : Cfg := { N := 11, live := l183, cut := u183, mu := m183, ret := rets }
theorem s183 : ∀ (l : List T.Ent) (s : List UInt8) (Post : AV → List AObj → Prop),
  (ASpec Try.prog 278 [AV.sl 2 (Seq.map T.encEn ([], []) l) Tip.none, AV.str { data := List.toArray s }, AV.fn 279 []] [] fun (r : AV) (H' : List AObj) =>
      ∃ (x : Int × Bool), r = AV.tup [AV.int IntKind.i64 (Prod.fst x), AV.bool (Prod.snd x)] ∧ H' = [] ∧ Post (AV.tup [AV.int IntKind.i64 (Prod.fst x), AV.bool (Prod.snd x)]) []) →
    ASpec Try.prog 183 [AV.sl 2 (Seq.map T.encEn ([], []) l) Tip.none, AV.str { data := List.toArray s }] [] Post := fun l s Post h => Go.Ab.ASpec.of_vc g183 Go.Proofs.Try.func183 (by kernel_rfl) (by kernel_rfl) (by kernel_rfl) (Go.Ab.kc (by kernel_rfl) h)

-- 278
noncomputable def l278 : Nat → List Nat
  | 3 => [0, 1, 2, 8, 9, 10]
  | _ => []
noncomputable def u278 : Nat → Bool
  | _ => false
noncomputable def m278 : Nat → Bool
  | _ => false
noncomputable def g278 : Cfg := { N := 49, live := l278, cut := u278, mu := m278, ret := rets }
noncomputable def c278 : Go.Code := Go.Ab.bodyOf Go.Proofs.Try.f278
noncomputable def q278_0 : Nat → (AV → List AObj → Prop) → AQ := fun (n : Nat) (Post : AV → List AObj → Prop) => endQ Try.prog (resultsOf Try.f278) Post
noncomputable def q278_1 : Nat → (AV → List AObj → Prop) → AQ := fun (n : Nat) (Post : AV → List AObj → Prop) => seqQ (fun (s' : Slots) (H' : List AObj) => awp Try.prog g278 n (codeSnd (codeSnd (codeSnd (codeSnd c278)))) s' H' (q278_0 n Post)) (q278_0 n Post)
noncomputable def q278_2 : Nat → (AV → List AObj → Prop) → AQ := fun (n : Nat) (Post : AV → List AObj → Prop) => blockQ 0 (q278_1 n Post)
noncomputable def c278_3 : Go.Code := codeFst (codeFst (codeSnd (codeSnd (codeSnd c278))))
theorem s278 : ∀ (l : List T.Ent) (s : List UInt8) (Post : AV → List AObj → Prop),
  AWP Try.prog 49 0 c278_3
      [(0, AV.sl 2 (Seq.map T.encEn ([], []) l) Tip.none), (1, AV.str { data := List.toArray s }), (2, AV.fn (279 : FuncId) []),
        (8, AV.int IntKind.i64 (↑(List.length l) : Int)), (9, AV.int IntKind.i64 (0 : Int)), (10, AV.int IntKind.i64 (↑(List.length l) : Int))]
      [] (q278_2 0 Post) →
    ASpec Try.prog 278 [AV.sl 2 (Seq.map T.encEn ([], []) l) Tip.none, AV.str { data := List.toArray s }, AV.fn (279 : FuncId) []] [] Post := fun l s Post h => Go.Ab.ASpec.of_vc g278 Go.Proofs.Try.func278 (by kernel_rfl) (by kernel_rfl) (by kernel_rfl) (Go.Ab.kc (by kernel_rfl) h)
theorem v278_3 : ∀ (l : List T.Ent) (s : List UInt8) (n i j : Int) (n_1 : Nat) (Post : AV → List AObj → Prop),
  condP (decide (i < j))
      (needP ((0 : Int) ≤ (1 : Int))
        (needP
        ((0 : Int) ≤ IntKind.wrap IntKind.i64 (Int.fdiv (IntKind.wrap IntKind.u64 (IntKind.wrap IntKind.i64 (i + j))) (2 : Int)) ∧
        IntKind.wrap IntKind.i64 (Int.fdiv (IntKind.wrap IntKind.u64 (IntKind.wrap IntKind.i64 (i + j))) (2 : Int)) < (↑(List.length l) : Int))
        (ASpec Try.prog 279
        [AV.agg
        [AV.str
        {
        data :=
        List.toArray (Prod.fst (List.getD l (Int.toNat (IntKind.wrap IntKind.i64 (Int.fdiv (IntKind.wrap IntKind.u64 (IntKind.wrap IntKind.i64 (i + j))) (2 : Int)))) ([], []))) },
        AV.sl 1
        (Seq.map encB (0 : UInt8)
        (Prod.snd (List.getD l (Int.toNat (IntKind.wrap IntKind.i64 (Int.fdiv (IntKind.wrap IntKind.u64 (IntKind.wrap IntKind.i64 (i + j))) (2 : Int)))) ([], []))))
        Tip.none],
        AV.str { data := List.toArray s }]
        [] fun (r : AV) (H' : List AObj) =>
        ∃ (x : Int),
        r = AV.int IntKind.i64 x ∧
        H' = [] ∧
        condP (decide (x < (0 : Int)))
        (AWP Try.prog 49 n_1 c278_3
        [(0, AV.sl 2 (Seq.map T.encEn ([], []) l) Tip.none), (1, AV.str { data := List.toArray s }), (2, AV.fn (279 : FuncId) []),
        (8, AV.int IntKind.i64 n),
        (9,
        AV.int IntKind.i64 (IntKind.wrap IntKind.i64 (IntKind.wrap IntKind.i64 (Int.fdiv (IntKind.wrap IntKind.u64 (IntKind.wrap IntKind.i64 (i + j))) (2 : Int)) + (1 : Int)))),
        (10, AV.int IntKind.i64 j)]
        [] (q278_2 n_1 Post))
        (AWP Try.prog 49 n_1 c278_3
        [(0, AV.sl 2 (Seq.map T.encEn ([], []) l) Tip.none), (1, AV.str { data := List.toArray s }), (2, AV.fn (279 : FuncId) []),
        (8, AV.int IntKind.i64 n), (9, AV.int IntKind.i64 i),
        (10, AV.int IntKind.i64 (IntKind.wrap IntKind.i64 (Int.fdiv (IntKind.wrap IntKind.u64 (IntKind.wrap IntKind.i64 (i + j))) (2 : Int))))]
        [] (q278_2 n_1 Post)))))
      (condP (decide (i < n))
        (needP ((0 : Int) ≤ i ∧ i < (↑(List.length l) : Int))
        (ASpec Try.prog 279
        [AV.agg
        [AV.str { data := List.toArray (Prod.fst (List.getD l (Int.toNat i) ([], []))) }, AV.sl 1 (Seq.map encB (0 : UInt8) (Prod.snd (List.getD l (Int.toNat i) ([], [])))) Tip.none],
        AV.str { data := List.toArray s }]
        [] fun (r : AV) (H' : List AObj) => ∃ (x : Int), r = AV.int IntKind.i64 x ∧ H' = [] ∧ Post (AV.tup [AV.int IntKind.i64 i, AV.bool (x == (0 : Int))]) []))
        (Post (AV.tup [AV.int IntKind.i64 i, AV.bool false]) [])) →
    AWP Try.prog 49 n_1 c278_3
      [(0, AV.sl 2 (Seq.map T.encEn ([], []) l) Tip.none), (1, AV.str { data := List.toArray s }), (2, AV.fn (279 : FuncId) []), (8, AV.int IntKind.i64 n),
        (9, AV.int IntKind.i64 i), (10, AV.int IntKind.i64 j)]
      [] (q278_2 n_1 Post) := fun l s n i j n Post h => Go.Ab.AWP.loop' g278 (Cfg.live g278) c278_3 (by kernel_rfl) (by kernel_rfl) (Go.Ab.kc (by kernel_rfl) h)

-- 279
noncomputable def l279 : Nat → List Nat
  | _ => []
noncomputable def u279 : Nat → Bool
  | _ => false
noncomputable def m279 : Nat → Bool
  | _ => false
noncomputable def g279 : Cfg := { N := 9, live := l279, cut := u279, mu := m279, ret := rets }
theorem s279 : ∀ (x : T.Ent) (s : List UInt8) (Post : AV → List AObj → Prop),
  (ASpec Try.prog 280 [AV.str { data := List.toArray (Prod.fst x) }, AV.str { data := List.toArray s }]
      [AObj.cells [AV.str { data := List.toArray (Prod.fst x) }, AV.sl 1 (Seq.map encB (0 : UInt8) (Prod.snd x)) Tip.none]] fun (r : AV) (H' : List AObj) =>
      ∃ (x_1 : Int),
        r = AV.int IntKind.i64 x_1 ∧
        H' = [AObj.cells [AV.str { data := List.toArray (Prod.fst x) }, AV.sl 1 (Seq.map encB (0 : UInt8) (Prod.snd x)) Tip.none]] ∧
        Post (AV.int IntKind.i64 x_1) [AObj.cells [AV.str { data := List.toArray (Prod.fst x) }, AV.sl 1 (Seq.map encB (0 : UInt8) (Prod.snd x)) Tip.none]]) →
    ASpec Try.prog 279 [AV.agg (T.encEn x), AV.str { data := List.toArray s }] [] Post := fun x s Post h => Go.Ab.ASpec.of_vc g279 Go.Proofs.Try.func279 (by kernel_rfl) (by kernel_rfl) (by kernel_rfl) (Go.Ab.kc (by kernel_rfl) h)

-- 61
noncomputable def l61 : Nat → List Nat
  | _ => []
noncomputable def u61 : Nat → Bool
  | _ => false
noncomputable def m61 : Nat → Bool
  | _ => false
noncomputable def g61 : Cfg := { N := 23, live := l61, cut := u61, mu := m61, ret := rets }
theorem s61 : ∀ (l : List T.Ent) (s : List UInt8) (Post : AV → List AObj → Prop),
  (ASpec Try.prog 183 [AV.sl 2 (Seq.map T.encEn ([], []) l) Tip.none, AV.str { data := List.toArray s }] [] fun (r : AV) (H' : List AObj) =>
      ∃ (x : Int × Bool),
        r = AV.tup [AV.int IntKind.i64 (Prod.fst x), AV.bool (Prod.snd x)] ∧
        H' = [] ∧
        condP (Prod.snd x)
        (needP ((0 : Int) ≤ Prod.fst x ∧ Prod.fst x < (↑(List.length l) : Int))
        (ASpec Try.prog 166 [AV.sl 1 (Seq.map encB (0 : UInt8) (Prod.snd (List.getD l (Int.toNat (Prod.fst x)) ([], [])))) Tip.none] [] fun (r : AV) (H' : List AObj) =>
        ∃ (x : List UInt8), r = AV.sl 1 (Seq.map encB (0 : UInt8) x) Tip.none ∧ H' = [] ∧ Post (AV.sl 1 (Seq.map encB (0 : UInt8) x) Tip.none) []))
        (ASpec Try.prog 184 [AV.agg [AV.str { data := List.toArray s }, AV.sl 0 (Seq.raw []) Tip.nil]] [] fun (r : AV) (H' : List AObj) =>
        ∃ (x : List UInt8), r = AV.sl 1 (Seq.map encB (0 : UInt8) x) Tip.none ∧ H' = [] ∧ Post (AV.sl 1 (Seq.map encB (0 : UInt8) x) Tip.none) [])) →
    ASpec Try.prog 61 [AV.sl 2 (Seq.map T.encEn ([], []) l) Tip.none, AV.str { data := List.toArray s }] [] Post := fun l s Post h => Go.Ab.ASpec.of_vc g61 Go.Proofs.Try.func61 (by kernel_rfl) (by kernel_rfl) (by kernel_rfl) (Go.Ab.kc (by kernel_rfl) h)

-- 166
noncomputable def l166 : Nat → List Nat
  | _ => []
noncomputable def u166 : Nat → Bool
  | _ => false
noncomputable def m166 : Nat → Bool
  | _ => false
noncomputable def g166 : Cfg := { N := 8, live := l166, cut := u166, mu := m166, ret := rets }
theorem s166 : ∀ (b : List UInt8) (Post : AV → List AObj → Prop),
  (∀ (b_1 : Bool),
      (b_1 = true → Seq.toList (Seq.map encB (0 : UInt8) b) = []) →
        condP b_1 (Post (AV.sl 0 (Seq.raw []) Tip.nil) [])
        (needP (∀ (x : UInt8), List.all (encB x) oneAV = true)
        (needP ((0 + List.length b) * 1 ≤ 140737488351232) (Post (AV.sl 1 (Seq.app (Seq.raw []) (Seq.map encB (0 : UInt8) b)) (Tip.tok 0)) [AObj.tok])))) →
    ASpec Try.prog 166 [AV.sl 1 (Seq.map encB (0 : UInt8) b) Tip.none] [] Post := fun b Post h => Go.Ab.ASpec.of_vc g166 Go.Proofs.Try.func166 (by kernel_rfl) (by kernel_rfl) (by kernel_rfl) (Go.Ab.kc (by kernel_rfl) h)

-- 59
noncomputable def u64 : Nat → Bool
  | _ => false
noncomputable def m64 : Nat → Bool
  | _ => false
noncomputable def l47 : Nat → List Nat
  | 2 => [0, 1, 5]
  | _ => []
noncomputable def u47 : Nat → Bool
  | _ => false
noncomputable def m47 : Nat → Bool
  | _ => false
noncomputable def g47 : Cfg := { N := 28, live := l47, cut := u47, mu := m47, ret := rets }
noncomputable def c47 : Go.Code := Go.Ab.bodyOf Go.Proofs.Try.f47
noncomputable def q47_0 : Nat → (AV → List AObj → Prop) → AQ := fun (n : Nat) (Post : AV → List AObj → Prop) => endQ Try.prog (resultsOf Try.f47) Post
noncomputable def q47_1 : Nat → (AV → List AObj → Prop) → AQ := fun (n : Nat) (Post : AV → List AObj → Prop) => seqQ (fun (s' : Slots) (H' : List AObj) => awp Try.prog g47 n (codeSnd (codeSnd c47)) s' H' (q47_0 n Post)) (q47_0 n Post)
noncomputable def q47_2 : Nat → (AV → List AObj → Prop) → AQ := fun (n : Nat) (Post : AV → List AObj → Prop) => blockQ 0 (q47_1 n Post)
noncomputable def c47_2 : Go.Code := codeFst (codeSnd (codeFst (codeSnd c47)))
theorem s47 : ∀ (l : List T.Ent) (s : List UInt8) (Post : AV → List AObj → Prop),
  AWP Try.prog 28 0 c47_2
      [(0, AV.sl 2 (Seq.map T.encEn ([], []) l) Tip.none), (1, AV.str { data := List.toArray s }), (5, AV.int IntKind.i64 (0 : Int))] [] (q47_2 0 Post) →
    ASpec Try.prog 47 [AV.sl 2 (Seq.map T.encEn ([], []) l) Tip.none, AV.str { data := List.toArray s }] [] Post := fun l s Post h => Go.Ab.ASpec.of_vc g47 Go.Proofs.Try.func47 (by kernel_rfl) (by kernel_rfl) (by kernel_rfl) (Go.Ab.kc (by kernel_rfl) h)
theorem v47_2 : ∀ (l : List T.Ent) (s : List UInt8) (i : Int) (n : Nat) (Post : AV → List AObj → Prop),
  condP (decide (i < (↑(List.length l) : Int)))
      (needP ((0 : Int) ≤ i ∧ i < (↑(List.length l) : Int))
        (condP (ByteArray.toList { data := List.toArray (Prod.fst (List.getD l (Int.toNat i) ([], []))) } == ByteArray.toList { data := List.toArray s })
        (needP ((0 : Int) ≤ i ∧ i < (↑(List.length l) : Int))
        (needP (allBytes (Seq.map encB (0 : UInt8) (Prod.snd (List.getD l (Int.toNat i) ([], [])))))
        (Post (AV.str (bytesOf (Seq.map encB (0 : UInt8) (Prod.snd (List.getD l (Int.toNat i) ([], [])))))) [])))
        (AWP Try.prog 28 n c47_2
        [(0, AV.sl 2 (Seq.map T.encEn ([], []) l) Tip.none), (1, AV.str { data := List.toArray s }),
        (5, AV.int IntKind.i64 (IntKind.wrap IntKind.i64 (i + (1 : Int))))]
        [] (q47_2 n Post))))
      (ASpec Try.prog 172 [AV.agg [AV.str { data := List.toArray s }, AV.sl 0 (Seq.raw []) Tip.nil]] [] fun (r : AV) (H' : List AObj) =>
        ∃ (x : ByteArray), r = AV.str x ∧ H' = [] ∧ Post (AV.str x) []) →
    AWP Try.prog 28 n c47_2 [(0, AV.sl 2 (Seq.map T.encEn ([], []) l) Tip.none), (1, AV.str { data := List.toArray s }), (5, AV.int IntKind.i64 i)] []
      (q47_2 n Post) := fun l s i n Post h => Go.Ab.AWP.loop' g47 (Cfg.live g47) c47_2 (by kernel_rfl) (by kernel_rfl) (Go.Ab.kc (by kernel_rfl) h)

-- 182
noncomputable def l7 : Nat → List Nat
  | _ => []
noncomputable def u7 : Nat → Bool
  | _ => false
noncomputable def m7 : Nat → Bool
  | _ => false
noncomputable def g7 : Cfg := { N := 71, live := l7, cut := u7, mu := m7, ret := rets }
noncomputable def c7 : Go.Code := Go.Ab.bodyOf Go.Proofs.Try.f7
noncomputable def u8 : Nat → Bool
  | 8 => true
  | 14 => true
  | _ => false
noncomputable def m8 : Nat → Bool
  | _ => false
noncomputable def c8 : Go.Code := Go.Ab.bodyOf Go.Proofs.Try.f8
end
end Dp
end

section
/- Events as cells. -/

open Go Go.Ab Go.Proofs
namespace T
/-- kind, needs, ticks, ticket, body -/
abbrev Ev := Int × List Need × Int × Int × List UInt8
noncomputable def encE (x : Ev) : List AV := [.int .i64 x.1, .sl 2 (.map encN ([], []) x.2.1) .none, .int .i64 x.2.2.1, .int .i64 x.2.2.2.1, .sl 1 (.map encB 0 x.2.2.2.2) .none]
abbrev noEv : Ev := (0, [], 0, 0, [])
end T
end

section
/- A stand's parts as cells. -/

open Go Go.Ab Go.Proofs
namespace T
/-- ticket, name -/
abbrev Item := Int × List UInt8
noncomputable def encIt (x : Item) : List AV := [.int .i64 x.1, .str ⟨x.2.toArray⟩]
/-- an event that lies in an interface -/
noncomputable def encSn (x : Ev) : List AV := [.iface 68 (.agg (encE x))]
/-- kind, ticket, name of something that is done -/
abbrev Ac := Int × Int × List UInt8
noncomputable def encA (x : Ac) : List AV := [.int .i64 x.1, .int .i64 x.2.1, .str ⟨x.2.2.toArray⟩, .int .i64 0, .int .i64 0, .sl 0 (.raw []) .nil, .sl 0 (.raw []) .nil]
noncomputable def stO (D : List Ent) (W : List Item) (S : List Ev) (a b : Nat) : AObj := .cells [.sl 2 (.map encEn ([], []) D) .none, .sl 2 (.map encIt (0, []) W) (.tok a), .sl 1 (.map encSn noEv S) (.tok b)]
noncomputable def HS (D : List Ent) (W : List Item) (S : List Ev) : List AObj := [stO D W S 1 2, .tok, .tok]
noncomputable def HS2 (D : List Ent) (W : List Item) (S : List Ev) : List AObj := [stO D W S 3 2, .gone, .tok, .tok]
end T
end

section
/- Printed: what the code of functions 373, 324, 393, 372, 323, 263, 170, 253, 165, 154, 322, 261, 164, 39, 262, 325, 45 asks for, by the framework's own reading of it; each line is checked against the code. -/

set_option linter.unusedVariables false
set_option maxRecDepth 100000
set_option maxHeartbeats 4000000
open Go Go.Ab Go.Proofs
namespace S
noncomputable section

noncomputable def retS : List (Nat × Ret) := [
  (9032, ⟨Unit, fun _ _ _ => .bool true, fun _ H _ => H⟩),
  (9033, ⟨ByteArray × List UInt8 × Int, fun _ _ x => .tup [.str x.1, .sl 1 (.map encB 0 x.2.1) .none, .int .i64 x.2.2], fun _ H _ => H⟩),
  (45, ⟨ByteArray × ByteArray × Int, fun _ _ x => .tup [.str x.1, .str x.2.1, .int .i64 x.2.2], fun _ H _ => H⟩),
  (262, ⟨List UInt8, fun _ _ x => .sl 1 (.map encB 0 x) .none, fun _ H _ => H⟩),
  (325, ⟨ByteArray, fun _ _ x => .str x, fun _ H _ => H⟩),
  (39, ⟨Bool, fun _ _ x => .bool x, fun _ H _ => H⟩),
  (9090, ⟨List UInt8 × Bool, fun _ _ x => .tup [.sl 1 (.map encB 0 x.1) .none, .bool x.2], fun _ H _ => H⟩),
  (154, ⟨Bool, fun _ _ x => .bool x, fun _ H _ => H⟩),
  (170, ⟨ByteArray × Bool, fun _ _ x => .tup [.str x.1, .bool x.2], fun _ H _ => H⟩),
  (323, ⟨List UInt8, fun _ _ x => .sl 1 (.map encB 0 x) .none, fun _ H _ => H⟩),
  (263, ⟨ByteArray, fun _ _ x => .str x, fun _ H _ => H⟩),
  (164, ⟨List Int, fun _ _ x => .sl 1 (.map encI 0 x) .none, fun _ H _ => H⟩),
  (165, ⟨Int, fun _ _ x => .int .i64 x, fun _ H _ => H⟩),
  (372, ⟨Int, fun _ _ x => .int .u32 x, fun _ H _ => H⟩),
  (253, ⟨Int, fun _ _ x => .int .i64 x, fun _ H _ => H⟩),
  (324, ⟨Int, fun _ _ x => .int .i64 x, fun _ H _ => H⟩),
  (261, ⟨Int × Int, fun _ _ x => .tup [.int .i64 x.1, .int .i64 x.2], fun _ H _ => H⟩),
  (393, ⟨Int, fun _ _ x => .int .u32 x, fun _ H _ => H⟩),
  (373, ⟨Int, fun _ _ x => .int .i64 x, fun _ H _ => H⟩),
  (322, ⟨Int, fun _ _ x => .int .i64 x, fun _ H _ => H⟩)]
noncomputable def rets : FuncId → List Ret := lookupR (retS ++ V.retL)

-- 373
noncomputable def l373 : Nat → List Nat
  | 3 => [0, 1, 5, 6]
  | 6 => [0, 1, 5, 6]
  | _ => []
noncomputable def u373 : Nat → Bool
  | 6 => true
  | _ => false
noncomputable def m373 : Nat → Bool
  | _ => false
noncomputable def g373 : Cfg := { N := 24, live := l373, cut := u373, mu := m373, ret := rets }
noncomputable def c373 : Go.Code := Go.Ab.bodyOf Go.Proofs.Try.f373
noncomputable def q373_0 : Nat → (AV → List AObj → Prop) → AQ := fun (n : Nat) (Post : AV → List AObj → Prop) => endQ Try.prog (resultsOf Try.f373) Post
noncomputable def q373_1 : Nat → (AV → List AObj → Prop) → AQ := fun (n : Nat) (Post : AV → List AObj → Prop) => seqQ (fun (s' : Slots) (H' : List AObj) => awp Try.prog g373 n (codeSnd (codeSnd (codeSnd (codeSnd c373)))) s' H' (q373_0 n Post)) (q373_0 n Post)
noncomputable def q373_2 : Nat → (AV → List AObj → Prop) → AQ := fun (n : Nat) (Post : AV → List AObj → Prop) => blockQ 0 (q373_1 n Post)
noncomputable def c373_3 : Go.Code := codeFst (codeFst (codeSnd (codeSnd (codeSnd c373))))
theorem s373 : ∀ (a b : Int) (Post : AV → List AObj → Prop),
  AWP Try.prog 24 0 c373_3 [(0, AV.int IntKind.i64 a), (1, AV.int IntKind.i64 b), (5, AV.int IntKind.i64 (0 : Int)), (6, AV.int IntKind.i64 (1 : Int))]
      [] (q373_2 0 Post) →
    ASpec Try.prog 373 [AV.int IntKind.i64 a, AV.int IntKind.i64 b] [] Post := fun a b Post h => Go.Ab.ASpec.of_vc g373 Go.Proofs.Try.func373 (by kernel_rfl) (by kernel_rfl) (by kernel_rfl) (Go.Ab.kc (by kernel_rfl) h)
noncomputable def q373_3 : Nat → (AV → List AObj → Prop) → AQ := fun (n : Nat) (Post : AV → List AObj → Prop) => loopQ Try.prog 24 n c373_3 (q373_2 n Post) (Cfg.live g373)
noncomputable def q373_4 : Nat → (AV → List AObj → Prop) → AQ := fun (n : Nat) (Post : AV → List AObj → Prop) => blockQ 1 (q373_3 n Post)
noncomputable def c373_6 : Go.Code := codeSnd (codeFst (codeSnd (codeFst c373_3)))
theorem v373_3 : ∀ (a b n w : Int) (n_1 : Nat) (Post : AV → List AObj → Prop),
  condP (decide (w < (256 : Int)))
      (needP ((2 : Int) ≠ (0 : Int))
        (needP ((2 : Int) ≠ (0 : Int))
        (condP (Int.tmod a (2 : Int) != Int.tmod b (2 : Int))
        (AWP Try.prog 24 n_1 c373_6
        [(0, AV.int IntKind.i64 a), (1, AV.int IntKind.i64 b), (5, AV.int IntKind.i64 (IntKind.wrap IntKind.i64 (n + w))), (6, AV.int IntKind.i64 w)] []
        (q373_4 n_1 Post))
        (AWP Try.prog 24 n_1 c373_6 [(0, AV.int IntKind.i64 a), (1, AV.int IntKind.i64 b), (5, AV.int IntKind.i64 n), (6, AV.int IntKind.i64 w)] []
        (q373_4 n_1 Post)))))
      (Post (AV.int IntKind.i64 n) []) →
    AWP Try.prog 24 n_1 c373_3 [(0, AV.int IntKind.i64 a), (1, AV.int IntKind.i64 b), (5, AV.int IntKind.i64 n), (6, AV.int IntKind.i64 w)] [] (q373_2 n_1 Post) := fun a b n w n Post h => Go.Ab.AWP.loop' g373 (Cfg.live g373) c373_3 (by kernel_rfl) (by kernel_rfl) (Go.Ab.kc (by kernel_rfl) h)
theorem v373_6 : ∀ (a b n w : Int) (n_1 : Nat) (Post : AV → List AObj → Prop),
  needP ((2 : Int) ≠ (0 : Int))
      (needP ((2 : Int) ≠ (0 : Int))
        (AWP Try.prog 24 n_1 c373_3
        [(0, AV.int IntKind.i64 (IntKind.wrap IntKind.i64 (Int.tdiv a (2 : Int)))), (1, AV.int IntKind.i64 (IntKind.wrap IntKind.i64 (Int.tdiv b (2 : Int)))),
        (5, AV.int IntKind.i64 n), (6, AV.int IntKind.i64 (IntKind.wrap IntKind.i64 (w * (2 : Int))))]
        [] (q373_2 n_1 Post))) →
    AWP Try.prog 24 n_1 c373_6 [(0, AV.int IntKind.i64 a), (1, AV.int IntKind.i64 b), (5, AV.int IntKind.i64 n), (6, AV.int IntKind.i64 w)] [] (q373_4 n_1 Post) := fun a b n w n Post h => Go.Ab.awp_sound g373 n _ _ _ _ (Go.Ab.kc (by kernel_rfl) h)

-- 324
noncomputable def l324 : Nat → List Nat
  | 3 => [0, 3, 4]
  | _ => []
noncomputable def u324 : Nat → Bool
  | _ => false
noncomputable def m324 : Nat → Bool
  | _ => false
noncomputable def g324 : Cfg := { N := 28, live := l324, cut := u324, mu := m324, ret := rets }
noncomputable def c324 : Go.Code := Go.Ab.bodyOf Go.Proofs.Try.f324
noncomputable def q324_0 : Nat → (AV → List AObj → Prop) → AQ := fun (n : Nat) (Post : AV → List AObj → Prop) => endQ Try.prog (resultsOf Try.f324) Post
noncomputable def q324_1 : Nat → (AV → List AObj → Prop) → AQ := fun (n : Nat) (Post : AV → List AObj → Prop) => seqQ (fun (s' : Slots) (H' : List AObj) => awp Try.prog g324 n (codeSnd (codeSnd (codeSnd c324))) s' H' (q324_0 n Post)) (q324_0 n Post)
noncomputable def q324_2 : Nat → (AV → List AObj → Prop) → AQ := fun (n : Nat) (Post : AV → List AObj → Prop) => blockQ 0 (q324_1 n Post)
noncomputable def c324_3 : Go.Code := codeFst (codeSnd (codeFst (codeSnd (codeSnd c324))))
theorem s324 : ∀ (s : ByteArray) (Post : AV → List AObj → Prop),
  AWP Try.prog 28 0 c324_3 [(0, AV.str s), (3, AV.int IntKind.i64 (2166136261 : Int)), (4, AV.int IntKind.i64 (0 : Int))] [] (q324_2 0 Post) →
    ASpec Try.prog 324 [AV.str s] [] Post := fun s Post h => Go.Ab.ASpec.of_vc g324 Go.Proofs.Try.func324 (by kernel_rfl) (by kernel_rfl) (by kernel_rfl) (Go.Ab.kc (by kernel_rfl) h)
theorem v324_3 : ∀ (s : ByteArray) (n i : Int) (n_1 : Nat) (Post : AV → List AObj → Prop),
  condP (decide (i < (↑(ByteArray.size s) : Int)))
      (needP ((256 : Int) ≠ (0 : Int))
        (needP ((0 : Int) ≤ i ∧ i < (↑(ByteArray.size s) : Int))
        (ASpec Try.prog 373
        [AV.int IntKind.i64 (Int.tmod n (256 : Int)), AV.int IntKind.i64 (IntKind.wrap IntKind.i64 (↑(UInt8.toNat (List.getD (Array.toList (ByteArray.data s)) (Int.toNat i) (0 : UInt8))) : Int))]
        [] fun (r : AV) (H' : List AObj) =>
        ∃ (x : Int),
        r = AV.int IntKind.i64 x ∧
        H' = [] ∧
        needP ((4294967296 : Int) ≠ (0 : Int))
        (AWP Try.prog 28 n_1 c324_3
        [(0, AV.str s),
        (3,
        AV.int IntKind.i64
        (Int.tmod (IntKind.wrap IntKind.i64 (IntKind.wrap IntKind.i64 (IntKind.wrap IntKind.i64 (n - Int.tmod n (256 : Int)) + x) * (16777619 : Int))) (4294967296 : Int))),
        (4, AV.int IntKind.i64 (IntKind.wrap IntKind.i64 (i + (1 : Int))))]
        [] (q324_2 n_1 Post)))))
      (Post (AV.int IntKind.i64 n) []) →
    AWP Try.prog 28 n_1 c324_3 [(0, AV.str s), (3, AV.int IntKind.i64 n), (4, AV.int IntKind.i64 i)] [] (q324_2 n_1 Post) := fun s n i n Post h => Go.Ab.AWP.loop' g324 (Cfg.live g324) c324_3 (by kernel_rfl) (by kernel_rfl) (Go.Ab.kc (by kernel_rfl) h)

-- 393
noncomputable def l393 : Nat → List Nat
  | 2 => [0, 7, 8, 9]
  | _ => []
noncomputable def u393 : Nat → Bool
  | _ => false
noncomputable def m393 : Nat → Bool
  | _ => false
noncomputable def g393 : Cfg := { N := 20, live := l393, cut := u393, mu := m393, ret := rets }
noncomputable def c393 : Go.Code := Go.Ab.bodyOf Go.Proofs.Try.f393
noncomputable def q393_0 : Nat → (AV → List AObj → Prop) → AQ := fun (n : Nat) (Post : AV → List AObj → Prop) => endQ Try.prog (resultsOf Try.f393) Post
noncomputable def q393_1 : Nat → (AV → List AObj → Prop) → AQ := fun (n : Nat) (Post : AV → List AObj → Prop) => seqQ (fun (s' : Slots) (H' : List AObj) => awp Try.prog g393 n (codeSnd (codeSnd c393)) s' H' (q393_0 n Post)) (q393_0 n Post)
noncomputable def q393_2 : Nat → (AV → List AObj → Prop) → AQ := fun (n : Nat) (Post : AV → List AObj → Prop) => blockQ 0 (q393_1 n Post)
noncomputable def c393_2 : Go.Code := codeFst (codeSnd (codeFst (codeSnd c393)))
theorem s393 : ∀ (x : Int) (bs : List UInt8) (Post : AV → List AObj → Prop),
  AWP Try.prog 20 0 c393_2
      [(0, AV.int IntKind.u32 x), (7, AV.sl 1 (Seq.map encB (0 : UInt8) bs) Tip.none), (8, AV.int IntKind.i64 (↑(List.length bs) : Int)),
        (9, AV.int IntKind.i64 (0 : Int))]
      [] (q393_2 0 Post) →
    ASpec Try.prog 393 [AV.int IntKind.u32 x, AV.sl 1 (Seq.map encB (0 : UInt8) bs) Tip.none] [] Post := fun x bs Post h => Go.Ab.ASpec.of_vc g393 Go.Proofs.Try.func393 (by kernel_rfl) (by kernel_rfl) (by kernel_rfl) (Go.Ab.kc (by kernel_rfl) h)
theorem v393_2 : ∀ (x : Int) (bs : List UInt8) (n i : Int) (n_1 : Nat) (Post : AV → List AObj → Prop),
  condP (decide (i < n))
      (needP ((0 : Int) ≤ i ∧ i < (↑(List.length bs) : Int))
        (AWP Try.prog 20 n_1 c393_2
        [(0,
        AV.int IntKind.u32
        (IntKind.wrap IntKind.u32
        (IntKind.wrap IntKind.u32
        (↑(BitVec.toNat (BitVec.ofInt 32 x ^^^ BitVec.ofInt 32 (IntKind.wrap IntKind.u32 (↑(UInt8.toNat (List.getD bs (Int.toNat i) (0 : UInt8))) : Int)))) : Int) *
        (16777619 : Int)))),
        (7, AV.sl 1 (Seq.map encB (0 : UInt8) bs) Tip.none), (8, AV.int IntKind.i64 n), (9, AV.int IntKind.i64 (IntKind.wrap IntKind.i64 (i + (1 : Int))))]
        [] (q393_2 n_1 Post)))
      (Post (AV.int IntKind.u32 x) []) →
    AWP Try.prog 20 n_1 c393_2
      [(0, AV.int IntKind.u32 x), (7, AV.sl 1 (Seq.map encB (0 : UInt8) bs) Tip.none), (8, AV.int IntKind.i64 n), (9, AV.int IntKind.i64 i)] []
      (q393_2 n_1 Post) := fun x bs n i n Post h => Go.Ab.AWP.loop' g393 (Cfg.live g393) c393_2 (by kernel_rfl) (by kernel_rfl) (Go.Ab.kc (by kernel_rfl) h)

-- 372
noncomputable def l372 : Nat → List Nat
  | _ => []
noncomputable def u372 : Nat → Bool
  | _ => false
noncomputable def m372 : Nat → Bool
  | _ => false
noncomputable def g372 : Cfg := { N := 5, live := l372, cut := u372, mu := m372, ret := rets }
theorem s372 : ∀ (bs : List UInt8) (Post : AV → List AObj → Prop),
  (ASpec Try.prog 393 [AV.int IntKind.u32 (2166136261 : Int), AV.sl 1 (Seq.map encB (0 : UInt8) bs) Tip.none] [] fun (r : AV) (H' : List AObj) =>
      ∃ (x : Int), r = AV.int IntKind.u32 x ∧ H' = [] ∧ Post (AV.int IntKind.u32 x) []) →
    ASpec Try.prog 372 [AV.sl 1 (Seq.map encB (0 : UInt8) bs) Tip.none] [] Post := fun bs Post h => Go.Ab.ASpec.of_vc g372 Go.Proofs.Try.func372 (by kernel_rfl) (by kernel_rfl) (by kernel_rfl) (Go.Ab.kc (by kernel_rfl) h)

-- 323
noncomputable def l323 : Nat → List Nat
  | _ => []
noncomputable def u323 : Nat → Bool
  | _ => false
noncomputable def m323 : Nat → Bool
  | _ => false
noncomputable def g323 : Cfg := { N := 28, live := l323, cut := u323, mu := m323, ret := rets }
theorem s323 : ∀ (bs : List UInt8) (Post : AV → List AObj → Prop),
  (ASpec Try.prog 372 [AV.sl 1 (Seq.map encB (0 : UInt8) bs) Tip.none] [] fun (r : AV) (H' : List AObj) =>
      ∃ (x : Int),
        r = AV.int IntKind.u32 x ∧
        H' = [] ∧
        needP
        ((0 : Int) ≤ (0 : Int) ∧
        (0 : Int) ≤ IntKind.wrap IntKind.i64 ((↑(List.length bs) : Int) + (4 : Int)) ∧
        IntKind.wrap IntKind.i64 ((↑(List.length bs) : Int) + (4 : Int)) ≤ (9223372036854775807 : Int) ∧
        (1 : Int) * IntKind.wrap IntKind.i64 ((↑(List.length bs) : Int) + (4 : Int)) ≤ (281474976710656 : Int))
        (needP (∀ (x : UInt8), List.all (encB x) oneAV = true)
        (needP ((0 + List.length bs) * 1 ≤ 140737488351232)
        (needP ((0 : Int) ≤ (24 : Int))
        (needP ((0 : Int) ≤ (16 : Int))
        (needP ((0 : Int) ≤ (8 : Int))
        (needP ((0 + List.length bs + 4) * 1 ≤ 140737488351232)
        (Post
        (AV.sl 1
        (Seq.app (Seq.app (Seq.raw []) (Seq.map encB (0 : UInt8) bs))
        (Seq.raw
        [[AV.int IntKind.u8 (IntKind.wrap IntKind.u8 (Int.fdiv x (16777216 : Int)))], [AV.int IntKind.u8 (IntKind.wrap IntKind.u8 (Int.fdiv x (65536 : Int)))],
        [AV.int IntKind.u8 (IntKind.wrap IntKind.u8 (Int.fdiv x (256 : Int)))], [AV.int IntKind.u8 (IntKind.wrap IntKind.u8 x)]]))
        (Tip.tok 2))
        [AObj.gone, AObj.gone, AObj.tok])))))))) →
    ASpec Try.prog 323 [AV.sl 1 (Seq.map encB (0 : UInt8) bs) Tip.none] [] Post := fun bs Post h => Go.Ab.ASpec.of_vc g323 Go.Proofs.Try.func323 (by kernel_rfl) (by kernel_rfl) (by kernel_rfl) (Go.Ab.kc (by kernel_rfl) h)

-- 263
noncomputable def l263 : Nat → List Nat
  | _ => []
noncomputable def u263 : Nat → Bool
  | _ => false
noncomputable def m263 : Nat → Bool
  | _ => false
noncomputable def g263 : Cfg := { N := 24, live := l263, cut := u263, mu := m263, ret := rets }
theorem s263 : ∀ (s : ByteArray) (Post : AV → List AObj → Prop),
  (ASpec Try.prog 324 [AV.str s] [] fun (r : AV) (H' : List AObj) =>
      ∃ (x : Int),
        r = AV.int IntKind.i64 x ∧
        H' = [] ∧
        needP ((16777216 : Int) ≠ (0 : Int))
        (needP ((65536 : Int) ≠ (0 : Int))
        (needP ((256 : Int) ≠ (0 : Int))
        (needP ((256 : Int) ≠ (0 : Int))
        (needP ((256 : Int) ≠ (0 : Int))
        (needP ((256 : Int) ≠ (0 : Int))
        (needP
        (allBytes
        (Seq.raw
        [[AV.int IntKind.u8 (IntKind.wrap IntKind.u8 (IntKind.wrap IntKind.i64 (Int.tdiv x (16777216 : Int))))],
        [AV.int IntKind.u8 (IntKind.wrap IntKind.u8 (Int.tmod (IntKind.wrap IntKind.i64 (Int.tdiv x (65536 : Int))) (256 : Int)))],
        [AV.int IntKind.u8 (IntKind.wrap IntKind.u8 (Int.tmod (IntKind.wrap IntKind.i64 (Int.tdiv x (256 : Int))) (256 : Int)))],
        [AV.int IntKind.u8 (IntKind.wrap IntKind.u8 (Int.tmod x (256 : Int)))]]))
        (needP
        ((↑(ByteArray.size s +
        ByteArray.size
        (bytesOf
        (Seq.raw
        [[AV.int IntKind.u8 (IntKind.wrap IntKind.u8 (IntKind.wrap IntKind.i64 (Int.tdiv x (16777216 : Int))))],
        [AV.int IntKind.u8 (IntKind.wrap IntKind.u8 (Int.tmod (IntKind.wrap IntKind.i64 (Int.tdiv x (65536 : Int))) (256 : Int)))],
        [AV.int IntKind.u8 (IntKind.wrap IntKind.u8 (Int.tmod (IntKind.wrap IntKind.i64 (Int.tdiv x (256 : Int))) (256 : Int)))],
        [AV.int IntKind.u8 (IntKind.wrap IntKind.u8 (Int.tmod x (256 : Int)))]]))) :
        Int) ≤
        (9223372036854775807 : Int))
        (Post
        (AV.str
        (s ++
        bytesOf
        (Seq.raw
        [[AV.int IntKind.u8 (IntKind.wrap IntKind.u8 (IntKind.wrap IntKind.i64 (Int.tdiv x (16777216 : Int))))],
        [AV.int IntKind.u8 (IntKind.wrap IntKind.u8 (Int.tmod (IntKind.wrap IntKind.i64 (Int.tdiv x (65536 : Int))) (256 : Int)))],
        [AV.int IntKind.u8 (IntKind.wrap IntKind.u8 (Int.tmod (IntKind.wrap IntKind.i64 (Int.tdiv x (256 : Int))) (256 : Int)))],
        [AV.int IntKind.u8 (IntKind.wrap IntKind.u8 (Int.tmod x (256 : Int)))]])))
        []))))))))) →
    ASpec Try.prog 263 [AV.str s] [] Post := fun s Post h => Go.Ab.ASpec.of_vc g263 Go.Proofs.Try.func263 (by kernel_rfl) (by kernel_rfl) (by kernel_rfl) (Go.Ab.kc (by kernel_rfl) h)

-- 170
noncomputable def l170 : Nat → List Nat
  | _ => []
noncomputable def u170 : Nat → Bool
  | _ => false
noncomputable def m170 : Nat → Bool
  | _ => false
noncomputable def g170 : Cfg := { N := 21, live := l170, cut := u170, mu := m170, ret := rets }
theorem s170 : ∀ (s : ByteArray) (Post : AV → List AObj → Prop),
  condP (decide (IntKind.wrap IntKind.i64 ((↑(ByteArray.size s) : Int) - (4 : Int)) < (0 : Int))) (Post (AV.tup [AV.str { data := #[] }, AV.bool false]) [])
      (needP ((0 : Int) ≤ IntKind.wrap IntKind.i64 ((↑(ByteArray.size s) : Int) - (4 : Int)) ∧ IntKind.wrap IntKind.i64 ((↑(ByteArray.size s) : Int) - (4 : Int)) ≤ (↑(ByteArray.size s) : Int))
        (ASpec Try.prog 263 [AV.str (ByteArray.extract s 0 (Int.toNat (IntKind.wrap IntKind.i64 ((↑(ByteArray.size s) : Int) - (4 : Int)))))] [] fun (r : AV) (H' : List AObj) =>
        ∃ (x : ByteArray),
        r = AV.str x ∧
        H' = [] ∧
        condP (!ByteArray.toList x == ByteArray.toList s) (Post (AV.tup [AV.str { data := #[] }, AV.bool false]) [])
        (needP
        ((0 : Int) ≤ IntKind.wrap IntKind.i64 ((↑(ByteArray.size s) : Int) - (4 : Int)) ∧ IntKind.wrap IntKind.i64 ((↑(ByteArray.size s) : Int) - (4 : Int)) ≤ (↑(ByteArray.size s) : Int))
        (Post (AV.tup [AV.str (ByteArray.extract s 0 (Int.toNat (IntKind.wrap IntKind.i64 ((↑(ByteArray.size s) : Int) - (4 : Int))))), AV.bool true]) [])))) →
    ASpec Try.prog 170 [AV.str s] [] Post := fun s Post h => Go.Ab.ASpec.of_vc g170 Go.Proofs.Try.func170 (by kernel_rfl) (by kernel_rfl) (by kernel_rfl) (Go.Ab.kc (by kernel_rfl) h)

-- 253
noncomputable def l253 : Nat → List Nat
  | _ => []
noncomputable def u253 : Nat → Bool
  | _ => false
noncomputable def m253 : Nat → Bool
  | _ => false
noncomputable def g253 : Cfg := { N := 27, live := l253, cut := u253, mu := m253, ret := rets }
theorem s253 : ∀ (c : Int) (Post : AV → List AObj → Prop),
  condP (decide (c ≥ (97 : Int)))
      (condP (decide (c ≤ (122 : Int))) (Post (AV.int IntKind.i64 (0 : Int)) [])
        (condP (decide (c ≥ (945 : Int)))
        (condP (decide (c ≤ (969 : Int))) (Post (AV.int IntKind.i64 (1 : Int)) [])
        (condP (decide (c ≥ (48 : Int)))
        (condP (decide (c ≤ (57 : Int))) (Post (AV.int IntKind.i64 (2 : Int)) []) (condP (c == (45 : Int)) (Post (AV.int IntKind.i64 (3 : Int)) []) (Post (AV.int IntKind.i64 (4 : Int)) [])))
        (condP (c == (45 : Int)) (Post (AV.int IntKind.i64 (3 : Int)) []) (Post (AV.int IntKind.i64 (4 : Int)) []))))
        (condP (decide (c ≥ (48 : Int)))
        (condP (decide (c ≤ (57 : Int))) (Post (AV.int IntKind.i64 (2 : Int)) []) (condP (c == (45 : Int)) (Post (AV.int IntKind.i64 (3 : Int)) []) (Post (AV.int IntKind.i64 (4 : Int)) [])))
        (condP (c == (45 : Int)) (Post (AV.int IntKind.i64 (3 : Int)) []) (Post (AV.int IntKind.i64 (4 : Int)) [])))))
      (condP (decide (c ≥ (945 : Int)))
        (condP (decide (c ≤ (969 : Int))) (Post (AV.int IntKind.i64 (1 : Int)) [])
        (condP (decide (c ≥ (48 : Int)))
        (condP (decide (c ≤ (57 : Int))) (Post (AV.int IntKind.i64 (2 : Int)) []) (condP (c == (45 : Int)) (Post (AV.int IntKind.i64 (3 : Int)) []) (Post (AV.int IntKind.i64 (4 : Int)) [])))
        (condP (c == (45 : Int)) (Post (AV.int IntKind.i64 (3 : Int)) []) (Post (AV.int IntKind.i64 (4 : Int)) []))))
        (condP (decide (c ≥ (48 : Int)))
        (condP (decide (c ≤ (57 : Int))) (Post (AV.int IntKind.i64 (2 : Int)) []) (condP (c == (45 : Int)) (Post (AV.int IntKind.i64 (3 : Int)) []) (Post (AV.int IntKind.i64 (4 : Int)) [])))
        (condP (c == (45 : Int)) (Post (AV.int IntKind.i64 (3 : Int)) []) (Post (AV.int IntKind.i64 (4 : Int)) [])))) →
    ASpec Try.prog 253 [AV.int IntKind.i32 c] [] Post := fun c Post h => Go.Ab.ASpec.of_vc g253 Go.Proofs.Try.func253 (by kernel_rfl) (by kernel_rfl) (by kernel_rfl) (Go.Ab.kc (by kernel_rfl) h)

-- 165
noncomputable def l165 : Nat → List Nat
  | _ => []
noncomputable def u165 : Nat → Bool
  | _ => false
noncomputable def m165 : Nat → Bool
  | _ => false
noncomputable def g165 : Cfg := { N := 23, live := l165, cut := u165, mu := m165, ret := rets }
theorem s165 : ∀ (c : Int) (Post : AV → List AObj → Prop),
  condP (decide (c ≥ (97 : Int)))
      (condP (decide (c ≤ (122 : Int))) (Post (AV.int IntKind.i64 (0 : Int)) [])
        (condP (decide (c ≥ (945 : Int)))
        (condP (decide (c ≤ (969 : Int))) (Post (AV.int IntKind.i64 (1 : Int)) [])
        (condP (decide (c ≥ (48 : Int)))
        (condP (decide (c ≤ (57 : Int))) (Post (AV.int IntKind.i64 (2 : Int)) []) (condP (c == (45 : Int)) (Post (AV.int IntKind.i64 (3 : Int)) []) (Post (AV.int IntKind.i64 (4 : Int)) [])))
        (condP (c == (45 : Int)) (Post (AV.int IntKind.i64 (3 : Int)) []) (Post (AV.int IntKind.i64 (4 : Int)) []))))
        (condP (decide (c ≥ (48 : Int)))
        (condP (decide (c ≤ (57 : Int))) (Post (AV.int IntKind.i64 (2 : Int)) []) (condP (c == (45 : Int)) (Post (AV.int IntKind.i64 (3 : Int)) []) (Post (AV.int IntKind.i64 (4 : Int)) [])))
        (condP (c == (45 : Int)) (Post (AV.int IntKind.i64 (3 : Int)) []) (Post (AV.int IntKind.i64 (4 : Int)) [])))))
      (condP (decide (c ≥ (945 : Int)))
        (condP (decide (c ≤ (969 : Int))) (Post (AV.int IntKind.i64 (1 : Int)) [])
        (condP (decide (c ≥ (48 : Int)))
        (condP (decide (c ≤ (57 : Int))) (Post (AV.int IntKind.i64 (2 : Int)) []) (condP (c == (45 : Int)) (Post (AV.int IntKind.i64 (3 : Int)) []) (Post (AV.int IntKind.i64 (4 : Int)) [])))
        (condP (c == (45 : Int)) (Post (AV.int IntKind.i64 (3 : Int)) []) (Post (AV.int IntKind.i64 (4 : Int)) []))))
        (condP (decide (c ≥ (48 : Int)))
        (condP (decide (c ≤ (57 : Int))) (Post (AV.int IntKind.i64 (2 : Int)) []) (condP (c == (45 : Int)) (Post (AV.int IntKind.i64 (3 : Int)) []) (Post (AV.int IntKind.i64 (4 : Int)) [])))
        (condP (c == (45 : Int)) (Post (AV.int IntKind.i64 (3 : Int)) []) (Post (AV.int IntKind.i64 (4 : Int)) [])))) →
    ASpec Try.prog 165 [AV.int IntKind.i64 c] [] Post := fun c Post h => Go.Ab.ASpec.of_vc g165 Go.Proofs.Try.func165 (by kernel_rfl) (by kernel_rfl) (by kernel_rfl) (Go.Ab.kc (by kernel_rfl) h)

-- 154
noncomputable def l154 : Nat → List Nat
  | 3 => [3, 8]
  | _ => []
noncomputable def u154 : Nat → Bool
  | _ => false
noncomputable def m154 : Nat → Bool
  | _ => false
noncomputable def g154 : Cfg := { N := 32, live := l154, cut := u154, mu := m154, ret := rets }
noncomputable def c154 : Go.Code := Go.Ab.bodyOf Go.Proofs.Try.f154
noncomputable def q154_0 : Nat → (AV → List AObj → Prop) → AQ := fun (n : Nat) (Post : AV → List AObj → Prop) => endQ Try.prog (resultsOf Try.f154) Post
noncomputable def q154_1 : Nat → (AV → List AObj → Prop) → AQ := fun (n : Nat) (Post : AV → List AObj → Prop) => seqQ (fun (s' : Slots) (H' : List AObj) => awp Try.prog g154 n (codeSnd (codeSnd (codeSnd c154))) s' H' (q154_0 n Post)) (q154_0 n Post)
noncomputable def q154_2 : Nat → (AV → List AObj → Prop) → AQ := fun (n : Nat) (Post : AV → List AObj → Prop) => blockQ 0 (q154_1 n Post)
noncomputable def c154_3 : Go.Code := codeFst (codeSnd (codeFst (codeSnd (codeSnd c154))))
theorem s154 : ∀ (s : ByteArray) (Post : AV → List AObj → Prop),
  AWP Try.prog 32 0 c154_3 [(3, AV.int IntKind.i64 (0 : Int)), (8, AV.ptr 0 0)] [AObj.siter s 0] (q154_2 0 Post) →
    ASpec Try.prog 154 [AV.str s] [] Post := fun s Post h => Go.Ab.ASpec.of_vc g154 Go.Proofs.Try.func154 (by kernel_rfl) (by kernel_rfl) (by kernel_rfl) (Go.Ab.kc (by kernel_rfl) h)
theorem v154_3 : ∀ (s : ByteArray) (pos : Nat) (n : Int) (n_1 : Nat) (Post : AV → List AObj → Prop),
  condP (decide (pos < ByteArray.size s))
      (ASpec Try.prog 253 [AV.int IntKind.i32 (↑(Prod.fst (Utf8.decode s pos)) : Int)] [AObj.siter s (pos + Prod.snd (Utf8.decode s pos))] fun (r : AV) (H' : List AObj) =>
        ∃ (x : Int),
        r = AV.int IntKind.i64 x ∧
        H' = [AObj.siter s (pos + Prod.snd (Utf8.decode s pos))] ∧
        condP (decide (x > (3 : Int))) (Post (AV.bool false) [AObj.siter s (pos + Prod.snd (Utf8.decode s pos))])
        (condP (n == (0 : Int))
        (condP (decide (x > (1 : Int))) (Post (AV.bool false) [AObj.siter s (pos + Prod.snd (Utf8.decode s pos))])
        (condP (n == (12 : Int)) (Post (AV.bool false) [AObj.siter s (pos + Prod.snd (Utf8.decode s pos))])
        (AWP Try.prog 32 n_1 c154_3 [(3, AV.int IntKind.i64 (IntKind.wrap IntKind.i64 (n + (1 : Int)))), (8, AV.ptr 0 0)]
        [AObj.siter s (pos + Prod.snd (Utf8.decode s pos))] (q154_2 n_1 Post))))
        (condP (n == (12 : Int)) (Post (AV.bool false) [AObj.siter s (pos + Prod.snd (Utf8.decode s pos))])
        (AWP Try.prog 32 n_1 c154_3 [(3, AV.int IntKind.i64 (IntKind.wrap IntKind.i64 (n + (1 : Int)))), (8, AV.ptr 0 0)]
        [AObj.siter s (pos + Prod.snd (Utf8.decode s pos))] (q154_2 n_1 Post)))))
      (Post (AV.bool (decide (n > (0 : Int)))) [AObj.siter s pos]) →
    AWP Try.prog 32 n_1 c154_3 [(3, AV.int IntKind.i64 n), (8, AV.ptr 0 0)] [AObj.siter s pos] (q154_2 n_1 Post) := fun s pos n n Post h => Go.Ab.AWP.loop' g154 (Cfg.live g154) c154_3 (by kernel_rfl) (by kernel_rfl) (Go.Ab.kc (by kernel_rfl) h)

-- 322
noncomputable def l322 : Nat → List Nat
  | 5 => [0, 1, 5, 6]
  | 7 => [0, 1, 5, 6]
  | 9 => [0, 1, 5, 6]
  | 11 => [0, 1, 5, 6]
  | 12 => [0, 1, 5, 6, 7]
  | 16 => [0, 1, 5, 6]
  | _ => []
noncomputable def u322 : Nat → Bool
  | 5 => true
  | 7 => true
  | 9 => true
  | 11 => true
  | 16 => true
  | _ => false
noncomputable def m322 : Nat → Bool
  | _ => false
noncomputable def g322 : Cfg := { N := 96, live := l322, cut := u322, mu := m322, ret := rets }
noncomputable def c322 : Go.Code := Go.Ab.bodyOf Go.Proofs.Try.f322
noncomputable def q322_0 : Nat → (AV → List AObj → Prop) → AQ := fun (n : Nat) (Post : AV → List AObj → Prop) => endQ Try.prog (resultsOf Try.f322) Post
noncomputable def c322_5 : Go.Code := codeSnd (codeSnd (codeSnd (codeSnd c322)))
theorem s322 : ∀ (s : ByteArray) (p : Int) (Post : AV → List AObj → Prop),
  needP ((0 : Int) ≤ p ∧ p < (↑(ByteArray.size s) : Int))
      (condP (decide (IntKind.wrap IntKind.i64 (↑(UInt8.toNat (List.getD (Array.toList (ByteArray.data s)) (Int.toNat p) (0 : UInt8))) : Int) ≥ (194 : Int)))
        (condP (decide (IntKind.wrap IntKind.i64 (↑(UInt8.toNat (List.getD (Array.toList (ByteArray.data s)) (Int.toNat p) (0 : UInt8))) : Int) ≤ (223 : Int)))
        (AWP Try.prog 96 0 c322_5
        [(0, AV.str s), (1, AV.int IntKind.i64 p), (5, AV.int IntKind.i64 (2 : Int)),
        (6, AV.int IntKind.i64 (IntKind.wrap IntKind.i64 (↑(UInt8.toNat (List.getD (Array.toList (ByteArray.data s)) (Int.toNat p) (0 : UInt8))) : Int)))]
        [] (q322_0 0 Post))
        (AWP Try.prog 96 0 c322_5
        [(0, AV.str s), (1, AV.int IntKind.i64 p), (5, AV.int IntKind.i64 (0 : Int)),
        (6, AV.int IntKind.i64 (IntKind.wrap IntKind.i64 (↑(UInt8.toNat (List.getD (Array.toList (ByteArray.data s)) (Int.toNat p) (0 : UInt8))) : Int)))]
        [] (q322_0 0 Post)))
        (AWP Try.prog 96 0 c322_5
        [(0, AV.str s), (1, AV.int IntKind.i64 p), (5, AV.int IntKind.i64 (0 : Int)),
        (6, AV.int IntKind.i64 (IntKind.wrap IntKind.i64 (↑(UInt8.toNat (List.getD (Array.toList (ByteArray.data s)) (Int.toNat p) (0 : UInt8))) : Int)))]
        [] (q322_0 0 Post))) →
    ASpec Try.prog 322 [AV.str s, AV.int IntKind.i64 p] [] Post := fun s p Post h => Go.Ab.ASpec.of_vc g322 Go.Proofs.Try.func322 (by kernel_rfl) (by kernel_rfl) (by kernel_rfl) (Go.Ab.kc (by kernel_rfl) h)
noncomputable def c322_7 : Go.Code := codeSnd c322_5
theorem v322_5 : ∀ (s : ByteArray) (p n c : Int) (n_1 : Nat) (Post : AV → List AObj → Prop),
  condP (decide (c ≥ (224 : Int)))
      (condP (decide (c ≤ (239 : Int)))
        (AWP Try.prog 96 n_1 c322_7 [(0, AV.str s), (1, AV.int IntKind.i64 p), (5, AV.int IntKind.i64 (3 : Int)), (6, AV.int IntKind.i64 c)] []
        (q322_0 n_1 Post))
        (AWP Try.prog 96 n_1 c322_7 [(0, AV.str s), (1, AV.int IntKind.i64 p), (5, AV.int IntKind.i64 n), (6, AV.int IntKind.i64 c)] [] (q322_0 n_1 Post)))
      (AWP Try.prog 96 n_1 c322_7 [(0, AV.str s), (1, AV.int IntKind.i64 p), (5, AV.int IntKind.i64 n), (6, AV.int IntKind.i64 c)] [] (q322_0 n_1 Post)) →
    AWP Try.prog 96 n_1 c322_5 [(0, AV.str s), (1, AV.int IntKind.i64 p), (5, AV.int IntKind.i64 n), (6, AV.int IntKind.i64 c)] [] (q322_0 n_1 Post) := fun s p n c n Post h => Go.Ab.awp_sound g322 n _ _ _ _ (Go.Ab.kc (by kernel_rfl) h)
noncomputable def c322_9 : Go.Code := codeSnd c322_7
theorem v322_7 : ∀ (s : ByteArray) (p n c : Int) (n_1 : Nat) (Post : AV → List AObj → Prop),
  condP (decide (c ≥ (240 : Int)))
      (condP (decide (c ≤ (244 : Int)))
        (AWP Try.prog 96 n_1 c322_9 [(0, AV.str s), (1, AV.int IntKind.i64 p), (5, AV.int IntKind.i64 (4 : Int)), (6, AV.int IntKind.i64 c)] []
        (q322_0 n_1 Post))
        (AWP Try.prog 96 n_1 c322_9 [(0, AV.str s), (1, AV.int IntKind.i64 p), (5, AV.int IntKind.i64 n), (6, AV.int IntKind.i64 c)] [] (q322_0 n_1 Post)))
      (AWP Try.prog 96 n_1 c322_9 [(0, AV.str s), (1, AV.int IntKind.i64 p), (5, AV.int IntKind.i64 n), (6, AV.int IntKind.i64 c)] [] (q322_0 n_1 Post)) →
    AWP Try.prog 96 n_1 c322_7 [(0, AV.str s), (1, AV.int IntKind.i64 p), (5, AV.int IntKind.i64 n), (6, AV.int IntKind.i64 c)] [] (q322_0 n_1 Post) := fun s p n c n Post h => Go.Ab.awp_sound g322 n _ _ _ _ (Go.Ab.kc (by kernel_rfl) h)
noncomputable def c322_11 : Go.Code := codeSnd c322_9
theorem v322_9 : ∀ (s : ByteArray) (p n c : Int) (n_1 : Nat) (Post : AV → List AObj → Prop),
  condP (n == (0 : Int)) (Post (AV.int IntKind.i64 (0 : Int)) [])
      (condP (decide (IntKind.wrap IntKind.i64 ((↑(ByteArray.size s) : Int) - p) < n)) (Post (AV.int IntKind.i64 (0 : Int)) [])
        (AWP Try.prog 96 n_1 c322_11 [(0, AV.str s), (1, AV.int IntKind.i64 p), (5, AV.int IntKind.i64 n), (6, AV.int IntKind.i64 c)] [] (q322_0 n_1 Post))) →
    AWP Try.prog 96 n_1 c322_9 [(0, AV.str s), (1, AV.int IntKind.i64 p), (5, AV.int IntKind.i64 n), (6, AV.int IntKind.i64 c)] [] (q322_0 n_1 Post) := fun s p n c n Post h => Go.Ab.awp_sound g322 n _ _ _ _ (Go.Ab.kc (by kernel_rfl) h)
noncomputable def c322_16 : Go.Code := codeSnd c322_11
noncomputable def q322_1 : Nat → (AV → List AObj → Prop) → AQ := fun (n : Nat) (Post : AV → List AObj → Prop) => seqQ (fun (s' : Slots) (H' : List AObj) => AWP Try.prog (Cfg.N g322) n c322_16 (restrict s' (Cfg.live g322 16)) H' (q322_0 n Post)) (q322_0 n Post)
noncomputable def q322_2 : Nat → (AV → List AObj → Prop) → AQ := fun (n : Nat) (Post : AV → List AObj → Prop) => blockQ 0 (q322_1 n Post)
noncomputable def c322_12 : Go.Code := codeFst (codeSnd (codeFst c322_11))
theorem v322_11 : ∀ (s : ByteArray) (p n c : Int) (n_1 : Nat) (Post : AV → List AObj → Prop),
  AWP Try.prog 96 n_1 c322_12
      [(0, AV.str s), (1, AV.int IntKind.i64 p), (5, AV.int IntKind.i64 n), (6, AV.int IntKind.i64 c), (7, AV.int IntKind.i64 (1 : Int))] [] (q322_2 n_1 Post) →
    AWP Try.prog 96 n_1 c322_11 [(0, AV.str s), (1, AV.int IntKind.i64 p), (5, AV.int IntKind.i64 n), (6, AV.int IntKind.i64 c)] [] (q322_0 n_1 Post) := fun s p n c n Post h => Go.Ab.awp_sound g322 n _ _ _ _ (Go.Ab.kc (by kernel_rfl) h)
theorem v322_16 : ∀ (s : ByteArray) (p n c : Int) (n_1 : Nat) (Post : AV → List AObj → Prop),
  needP ((0 : Int) ≤ IntKind.wrap IntKind.i64 (p + (1 : Int)) ∧ IntKind.wrap IntKind.i64 (p + (1 : Int)) < (↑(ByteArray.size s) : Int))
      (condP (c == (224 : Int))
        (condP (decide (IntKind.wrap IntKind.i64 (↑(UInt8.toNat (List.getD (Array.toList (ByteArray.data s)) (Int.toNat (IntKind.wrap IntKind.i64 (p + (1 : Int)))) (0 : UInt8))) : Int) < (160 : Int)))
        (Post (AV.int IntKind.i64 (0 : Int)) [])
        (condP (c == (237 : Int))
        (condP
        (decide (IntKind.wrap IntKind.i64 (↑(UInt8.toNat (List.getD (Array.toList (ByteArray.data s)) (Int.toNat (IntKind.wrap IntKind.i64 (p + (1 : Int)))) (0 : UInt8))) : Int) > (159 : Int)))
        (Post (AV.int IntKind.i64 (0 : Int)) [])
        (condP (c == (240 : Int))
        (condP
        (decide
        (IntKind.wrap IntKind.i64 (↑(UInt8.toNat (List.getD (Array.toList (ByteArray.data s)) (Int.toNat (IntKind.wrap IntKind.i64 (p + (1 : Int)))) (0 : UInt8))) : Int) < (144 : Int)))
        (Post (AV.int IntKind.i64 (0 : Int)) [])
        (condP (c == (244 : Int))
        (condP
        (decide
        (IntKind.wrap IntKind.i64 (↑(UInt8.toNat (List.getD (Array.toList (ByteArray.data s)) (Int.toNat (IntKind.wrap IntKind.i64 (p + (1 : Int)))) (0 : UInt8))) : Int) >
        (143 : Int)))
        (Post (AV.int IntKind.i64 (0 : Int)) []) (Post (AV.int IntKind.i64 n) []))
        (Post (AV.int IntKind.i64 n) [])))
        (condP (c == (244 : Int))
        (condP
        (decide
        (IntKind.wrap IntKind.i64 (↑(UInt8.toNat (List.getD (Array.toList (ByteArray.data s)) (Int.toNat (IntKind.wrap IntKind.i64 (p + (1 : Int)))) (0 : UInt8))) : Int) > (143 : Int)))
        (Post (AV.int IntKind.i64 (0 : Int)) []) (Post (AV.int IntKind.i64 n) []))
        (Post (AV.int IntKind.i64 n) []))))
        (condP (c == (240 : Int))
        (condP
        (decide
        (IntKind.wrap IntKind.i64 (↑(UInt8.toNat (List.getD (Array.toList (ByteArray.data s)) (Int.toNat (IntKind.wrap IntKind.i64 (p + (1 : Int)))) (0 : UInt8))) : Int) < (144 : Int)))
        (Post (AV.int IntKind.i64 (0 : Int)) [])
        (condP (c == (244 : Int))
        (condP
        (decide
        (IntKind.wrap IntKind.i64 (↑(UInt8.toNat (List.getD (Array.toList (ByteArray.data s)) (Int.toNat (IntKind.wrap IntKind.i64 (p + (1 : Int)))) (0 : UInt8))) : Int) > (143 : Int)))
        (Post (AV.int IntKind.i64 (0 : Int)) []) (Post (AV.int IntKind.i64 n) []))
        (Post (AV.int IntKind.i64 n) [])))
        (condP (c == (244 : Int))
        (condP
        (decide
        (IntKind.wrap IntKind.i64 (↑(UInt8.toNat (List.getD (Array.toList (ByteArray.data s)) (Int.toNat (IntKind.wrap IntKind.i64 (p + (1 : Int)))) (0 : UInt8))) : Int) > (143 : Int)))
        (Post (AV.int IntKind.i64 (0 : Int)) []) (Post (AV.int IntKind.i64 n) []))
        (Post (AV.int IntKind.i64 n) [])))))
        (condP (c == (237 : Int))
        (condP
        (decide (IntKind.wrap IntKind.i64 (↑(UInt8.toNat (List.getD (Array.toList (ByteArray.data s)) (Int.toNat (IntKind.wrap IntKind.i64 (p + (1 : Int)))) (0 : UInt8))) : Int) > (159 : Int)))
        (Post (AV.int IntKind.i64 (0 : Int)) [])
        (condP (c == (240 : Int))
        (condP
        (decide
        (IntKind.wrap IntKind.i64 (↑(UInt8.toNat (List.getD (Array.toList (ByteArray.data s)) (Int.toNat (IntKind.wrap IntKind.i64 (p + (1 : Int)))) (0 : UInt8))) : Int) < (144 : Int)))
        (Post (AV.int IntKind.i64 (0 : Int)) [])
        (condP (c == (244 : Int))
        (condP
        (decide
        (IntKind.wrap IntKind.i64 (↑(UInt8.toNat (List.getD (Array.toList (ByteArray.data s)) (Int.toNat (IntKind.wrap IntKind.i64 (p + (1 : Int)))) (0 : UInt8))) : Int) > (143 : Int)))
        (Post (AV.int IntKind.i64 (0 : Int)) []) (Post (AV.int IntKind.i64 n) []))
        (Post (AV.int IntKind.i64 n) [])))
        (condP (c == (244 : Int))
        (condP
        (decide
        (IntKind.wrap IntKind.i64 (↑(UInt8.toNat (List.getD (Array.toList (ByteArray.data s)) (Int.toNat (IntKind.wrap IntKind.i64 (p + (1 : Int)))) (0 : UInt8))) : Int) > (143 : Int)))
        (Post (AV.int IntKind.i64 (0 : Int)) []) (Post (AV.int IntKind.i64 n) []))
        (Post (AV.int IntKind.i64 n) []))))
        (condP (c == (240 : Int))
        (condP
        (decide (IntKind.wrap IntKind.i64 (↑(UInt8.toNat (List.getD (Array.toList (ByteArray.data s)) (Int.toNat (IntKind.wrap IntKind.i64 (p + (1 : Int)))) (0 : UInt8))) : Int) < (144 : Int)))
        (Post (AV.int IntKind.i64 (0 : Int)) [])
        (condP (c == (244 : Int))
        (condP
        (decide
        (IntKind.wrap IntKind.i64 (↑(UInt8.toNat (List.getD (Array.toList (ByteArray.data s)) (Int.toNat (IntKind.wrap IntKind.i64 (p + (1 : Int)))) (0 : UInt8))) : Int) > (143 : Int)))
        (Post (AV.int IntKind.i64 (0 : Int)) []) (Post (AV.int IntKind.i64 n) []))
        (Post (AV.int IntKind.i64 n) [])))
        (condP (c == (244 : Int))
        (condP
        (decide
        (IntKind.wrap IntKind.i64 (↑(UInt8.toNat (List.getD (Array.toList (ByteArray.data s)) (Int.toNat (IntKind.wrap IntKind.i64 (p + (1 : Int)))) (0 : UInt8))) : Int) > (143 : Int)))
        (Post (AV.int IntKind.i64 (0 : Int)) []) (Post (AV.int IntKind.i64 n) []))
        (Post (AV.int IntKind.i64 n) []))))) →
    AWP Try.prog 96 n_1 c322_16 [(0, AV.str s), (1, AV.int IntKind.i64 p), (5, AV.int IntKind.i64 n), (6, AV.int IntKind.i64 c)] [] (q322_0 n_1 Post) := fun s p n c n Post h => Go.Ab.awp_sound g322 n _ _ _ _ (Go.Ab.kc (by kernel_rfl) h)
theorem v322_12 : ∀ (s : ByteArray) (p n c i : Int) (n_1 : Nat) (Post : AV → List AObj → Prop),
  condP (decide (i < n))
      (needP ((0 : Int) ≤ IntKind.wrap IntKind.i64 (p + i) ∧ IntKind.wrap IntKind.i64 (p + i) < (↑(ByteArray.size s) : Int))
        (condP (decide ((↑(UInt8.toNat (List.getD (Array.toList (ByteArray.data s)) (Int.toNat (IntKind.wrap IntKind.i64 (p + i))) (0 : UInt8))) : Int) < (128 : Int)))
        (Post (AV.int IntKind.i64 (0 : Int)) [])
        (needP ((0 : Int) ≤ IntKind.wrap IntKind.i64 (p + i) ∧ IntKind.wrap IntKind.i64 (p + i) < (↑(ByteArray.size s) : Int))
        (condP (decide ((↑(UInt8.toNat (List.getD (Array.toList (ByteArray.data s)) (Int.toNat (IntKind.wrap IntKind.i64 (p + i))) (0 : UInt8))) : Int) > (191 : Int)))
        (Post (AV.int IntKind.i64 (0 : Int)) [])
        (AWP Try.prog 96 n_1 c322_12
        [(0, AV.str s), (1, AV.int IntKind.i64 p), (5, AV.int IntKind.i64 n), (6, AV.int IntKind.i64 c),
        (7, AV.int IntKind.i64 (IntKind.wrap IntKind.i64 (i + (1 : Int))))]
        [] (q322_2 n_1 Post))))))
      (AWP Try.prog 96 n_1 c322_16 [(0, AV.str s), (1, AV.int IntKind.i64 p), (5, AV.int IntKind.i64 n), (6, AV.int IntKind.i64 c)] [] (q322_0 n_1 Post)) →
    AWP Try.prog 96 n_1 c322_12
      [(0, AV.str s), (1, AV.int IntKind.i64 p), (5, AV.int IntKind.i64 n), (6, AV.int IntKind.i64 c), (7, AV.int IntKind.i64 i)] [] (q322_2 n_1 Post) := fun s p n c i n Post h => Go.Ab.AWP.loop' g322 (Cfg.live g322) c322_12 (by kernel_rfl) (by kernel_rfl) (Go.Ab.kc (by kernel_rfl) h)

-- 261
noncomputable def l261 : Nat → List Nat
  | 9 => [0, 1, 6, 7]
  | 11 => [0, 1, 6, 7]
  | 12 => [0, 1, 6, 7, 8]
  | _ => []
noncomputable def u261 : Nat → Bool
  | 9 => true
  | 11 => true
  | _ => false
noncomputable def m261 : Nat → Bool
  | _ => false
noncomputable def g261 : Cfg := { N := 58, live := l261, cut := u261, mu := m261, ret := rets }
noncomputable def c261 : Go.Code := Go.Ab.bodyOf Go.Proofs.Try.f261
noncomputable def q261_0 : Nat → (AV → List AObj → Prop) → AQ := fun (n : Nat) (Post : AV → List AObj → Prop) => endQ Try.prog (resultsOf Try.f261) Post
noncomputable def c261_9 : Go.Code := codeSnd (codeSnd (codeSnd (codeSnd (codeSnd (codeSnd c261)))))
theorem s261 : ∀ (s : ByteArray) (p : Int) (Post : AV → List AObj → Prop),
  needP ((0 : Int) ≤ p ∧ p < (↑(ByteArray.size s) : Int))
      (condP (decide ((↑(UInt8.toNat (List.getD (Array.toList (ByteArray.data s)) (Int.toNat p) (0 : UInt8))) : Int) < (128 : Int)))
        (needP ((0 : Int) ≤ p ∧ p < (↑(ByteArray.size s) : Int))
        (Post (AV.tup [AV.int IntKind.i64 (IntKind.wrap IntKind.i64 (↑(UInt8.toNat (List.getD (Array.toList (ByteArray.data s)) (Int.toNat p) (0 : UInt8))) : Int)), AV.int IntKind.i64 (1 : Int)])
        []))
        (ASpec Try.prog 322 [AV.str s, AV.int IntKind.i64 p] [] fun (r : AV) (H' : List AObj) =>
        ∃ (x : Int),
        r = AV.int IntKind.i64 x ∧
        H' = [] ∧
        condP (x == (0 : Int)) (Post (AV.tup [AV.int IntKind.i64 (65533 : Int), AV.int IntKind.i64 (1 : Int)]) [])
        (needP ((0 : Int) ≤ p ∧ p < (↑(ByteArray.size s) : Int))
        (needP ((32 : Int) ≠ (0 : Int))
        (condP (x == (3 : Int))
        (needP ((0 : Int) ≤ p ∧ p < (↑(ByteArray.size s) : Int))
        (needP ((16 : Int) ≠ (0 : Int))
        (AWP Try.prog 58 0 c261_9
        [(0, AV.str s), (1, AV.int IntKind.i64 p), (6, AV.int IntKind.i64 x),
        (7,
        AV.int IntKind.i64 (Int.tmod (IntKind.wrap IntKind.i64 (↑(UInt8.toNat (List.getD (Array.toList (ByteArray.data s)) (Int.toNat p) (0 : UInt8))) : Int)) (16 : Int)))]
        [] (q261_0 0 Post))))
        (AWP Try.prog 58 0 c261_9
        [(0, AV.str s), (1, AV.int IntKind.i64 p), (6, AV.int IntKind.i64 x),
        (7,
        AV.int IntKind.i64 (Int.tmod (IntKind.wrap IntKind.i64 (↑(UInt8.toNat (List.getD (Array.toList (ByteArray.data s)) (Int.toNat p) (0 : UInt8))) : Int)) (32 : Int)))]
        [] (q261_0 0 Post))))))) →
    ASpec Try.prog 261 [AV.str s, AV.int IntKind.i64 p] [] Post := fun s p Post h => Go.Ab.ASpec.of_vc g261 Go.Proofs.Try.func261 (by kernel_rfl) (by kernel_rfl) (by kernel_rfl) (Go.Ab.kc (by kernel_rfl) h)
noncomputable def c261_11 : Go.Code := codeSnd c261_9
theorem v261_9 : ∀ (s : ByteArray) (p n x : Int) (n_1 : Nat) (Post : AV → List AObj → Prop),
  condP (n == (4 : Int))
      (needP ((0 : Int) ≤ p ∧ p < (↑(ByteArray.size s) : Int))
        (needP ((8 : Int) ≠ (0 : Int))
        (AWP Try.prog 58 n_1 c261_11
        [(0, AV.str s), (1, AV.int IntKind.i64 p), (6, AV.int IntKind.i64 n),
        (7, AV.int IntKind.i64 (Int.tmod (IntKind.wrap IntKind.i64 (↑(UInt8.toNat (List.getD (Array.toList (ByteArray.data s)) (Int.toNat p) (0 : UInt8))) : Int)) (8 : Int)))]
        [] (q261_0 n_1 Post))))
      (AWP Try.prog 58 n_1 c261_11 [(0, AV.str s), (1, AV.int IntKind.i64 p), (6, AV.int IntKind.i64 n), (7, AV.int IntKind.i64 x)] [] (q261_0 n_1 Post)) →
    AWP Try.prog 58 n_1 c261_9 [(0, AV.str s), (1, AV.int IntKind.i64 p), (6, AV.int IntKind.i64 n), (7, AV.int IntKind.i64 x)] [] (q261_0 n_1 Post) := fun s p n x n Post h => Go.Ab.awp_sound g261 n _ _ _ _ (Go.Ab.kc (by kernel_rfl) h)
noncomputable def q261_1 : Nat → (AV → List AObj → Prop) → AQ := fun (n : Nat) (Post : AV → List AObj → Prop) => seqQ (fun (s' : Slots) (H' : List AObj) => awp Try.prog g261 n (codeSnd c261_11) s' H' (q261_0 n Post)) (q261_0 n Post)
noncomputable def q261_2 : Nat → (AV → List AObj → Prop) → AQ := fun (n : Nat) (Post : AV → List AObj → Prop) => blockQ 0 (q261_1 n Post)
noncomputable def c261_12 : Go.Code := codeFst (codeSnd (codeFst c261_11))
theorem v261_11 : ∀ (s : ByteArray) (p n x : Int) (n_1 : Nat) (Post : AV → List AObj → Prop),
  AWP Try.prog 58 n_1 c261_12
      [(0, AV.str s), (1, AV.int IntKind.i64 p), (6, AV.int IntKind.i64 n), (7, AV.int IntKind.i64 x), (8, AV.int IntKind.i64 (1 : Int))] [] (q261_2 n_1 Post) →
    AWP Try.prog 58 n_1 c261_11 [(0, AV.str s), (1, AV.int IntKind.i64 p), (6, AV.int IntKind.i64 n), (7, AV.int IntKind.i64 x)] [] (q261_0 n_1 Post) := fun s p n x n Post h => Go.Ab.awp_sound g261 n _ _ _ _ (Go.Ab.kc (by kernel_rfl) h)
theorem v261_12 : ∀ (s : ByteArray) (p n x i : Int) (n_1 : Nat) (Post : AV → List AObj → Prop),
  condP (decide (i < n))
      (needP ((0 : Int) ≤ IntKind.wrap IntKind.i64 (p + i) ∧ IntKind.wrap IntKind.i64 (p + i) < (↑(ByteArray.size s) : Int))
        (needP ((64 : Int) ≠ (0 : Int))
        (AWP Try.prog 58 n_1 c261_12
        [(0, AV.str s), (1, AV.int IntKind.i64 p), (6, AV.int IntKind.i64 n),
        (7,
        AV.int IntKind.i64
        (IntKind.wrap IntKind.i64
        (IntKind.wrap IntKind.i64 (x * (64 : Int)) +
        Int.tmod (IntKind.wrap IntKind.i64 (↑(UInt8.toNat (List.getD (Array.toList (ByteArray.data s)) (Int.toNat (IntKind.wrap IntKind.i64 (p + i))) (0 : UInt8))) : Int)) (64 : Int)))),
        (8, AV.int IntKind.i64 (IntKind.wrap IntKind.i64 (i + (1 : Int))))]
        [] (q261_2 n_1 Post))))
      (Post (AV.tup [AV.int IntKind.i64 x, AV.int IntKind.i64 n]) []) →
    AWP Try.prog 58 n_1 c261_12
      [(0, AV.str s), (1, AV.int IntKind.i64 p), (6, AV.int IntKind.i64 n), (7, AV.int IntKind.i64 x), (8, AV.int IntKind.i64 i)] [] (q261_2 n_1 Post) := fun s p n x i n Post h => Go.Ab.AWP.loop' g261 (Cfg.live g261) c261_12 (by kernel_rfl) (by kernel_rfl) (Go.Ab.kc (by kernel_rfl) h)

-- 164
noncomputable def l164 : Nat → List Nat
  | 3 => [0, 3, 4]
  | _ => []
noncomputable def u164 : Nat → Bool
  | _ => false
noncomputable def m164 : Nat → Bool
  | _ => false
noncomputable def g164 : Cfg := { N := 25, live := l164, cut := u164, mu := m164, ret := rets }
noncomputable def c164 : Go.Code := Go.Ab.bodyOf Go.Proofs.Try.f164
noncomputable def q164_0 : Nat → (AV → List AObj → Prop) → AQ := fun (n : Nat) (Post : AV → List AObj → Prop) => endQ Try.prog (resultsOf Try.f164) Post
noncomputable def q164_1 : Nat → (AV → List AObj → Prop) → AQ := fun (n : Nat) (Post : AV → List AObj → Prop) => seqQ (fun (s' : Slots) (H' : List AObj) => awp Try.prog g164 n (codeSnd (codeSnd (codeSnd (codeSnd c164)))) s' H' (q164_0 n Post)) (q164_0 n Post)
noncomputable def q164_2 : Nat → (AV → List AObj → Prop) → AQ := fun (n : Nat) (Post : AV → List AObj → Prop) => blockQ 0 (q164_1 n Post)
noncomputable def c164_3 : Go.Code := codeFst (codeFst (codeSnd (codeSnd (codeSnd c164))))
theorem s164 : ∀ (s : ByteArray) (Post : AV → List AObj → Prop),
  AWP Try.prog 25 0 c164_3 [(0, AV.str s), (3, AV.sl 0 (Seq.raw []) Tip.nil), (4, AV.int IntKind.i64 (0 : Int))] [] (q164_2 0 Post) →
    ASpec Try.prog 164 [AV.str s] [] Post := fun s Post h => Go.Ab.ASpec.of_vc g164 Go.Proofs.Try.func164 (by kernel_rfl) (by kernel_rfl) (by kernel_rfl) (Go.Ab.kc (by kernel_rfl) h)
theorem v164_3 : ∀ (s : ByteArray) (l : List Int) (p : Int) (n : Nat) (Post : AV → List AObj → Prop),
  condP (decide (p < (↑(ByteArray.size s) : Int)))
      (ASpec Try.prog 261 [AV.str s, AV.int IntKind.i64 p] [AObj.tok] fun (r : AV) (H' : List AObj) =>
        ∃ (x : Int × Int),
        r = AV.tup [AV.int IntKind.i64 (Prod.fst x), AV.int IntKind.i64 (Prod.snd x)] ∧
        H' = [AObj.tok] ∧
        needP ((List.length l + 1) * 8 ≤ 140737488351232)
        (AWP Try.prog 25 n c164_3
        [(0, AV.str s), (3, AV.sl 1 (Seq.app (Seq.map encI (0 : Int) l) (Seq.raw [[AV.int IntKind.i64 (Prod.fst x)]])) (Tip.tok 1)),
        (4, AV.int IntKind.i64 (IntKind.wrap IntKind.i64 (p + Prod.snd x)))]
        [AObj.gone, AObj.tok] (q164_2 n Post)))
      (Post (AV.sl 1 (Seq.map encI (0 : Int) l) (Tip.tok 0)) [AObj.tok]) →
    AWP Try.prog 25 n c164_3 [(0, AV.str s), (3, AV.sl 1 (Seq.map encI (0 : Int) l) (Tip.tok 0)), (4, AV.int IntKind.i64 p)] [AObj.tok] (q164_2 n Post) := fun s l p n Post h => Go.Ab.AWP.loop' g164 (Cfg.live g164) c164_3 (by kernel_rfl) (by kernel_rfl) (Go.Ab.kc (by kernel_rfl) h)

-- 39
noncomputable def l39 : Nat → List Nat
  | 5 => [3, 4]
  | _ => []
noncomputable def u39 : Nat → Bool
  | _ => false
noncomputable def m39 : Nat → Bool
  | _ => false
noncomputable def g39 : Cfg := { N := 42, live := l39, cut := u39, mu := m39, ret := rets }
noncomputable def c39 : Go.Code := Go.Ab.bodyOf Go.Proofs.Try.f39
noncomputable def q39_0 : Nat → (AV → List AObj → Prop) → AQ := fun (n : Nat) (Post : AV → List AObj → Prop) => endQ Try.prog (resultsOf Try.f39) Post
noncomputable def q39_1 : Nat → (AV → List AObj → Prop) → AQ := fun (n : Nat) (Post : AV → List AObj → Prop) => seqQ (fun (s' : Slots) (H' : List AObj) => awp Try.prog g39 n (codeSnd (codeSnd (codeSnd (codeSnd c39)))) s' H' (q39_0 n Post)) (q39_0 n Post)
noncomputable def q39_2 : Nat → (AV → List AObj → Prop) → AQ := fun (n : Nat) (Post : AV → List AObj → Prop) => blockQ 0 (q39_1 n Post)
noncomputable def c39_5 : Go.Code := codeFst (codeSnd (codeFst (codeSnd (codeSnd (codeSnd c39)))))
theorem s39 : ∀ (s : ByteArray) (Post : AV → List AObj → Prop),
  condP (decide ((↑(ByteArray.size s) : Int) > (100 : Int))) (Post (AV.bool false) [])
      (ASpec Try.prog 164 [AV.str s] [] fun (r : AV) (H' : List AObj) =>
        ∃ (x : List Int),
        r = AV.sl 1 (Seq.map encI (0 : Int) x) Tip.none ∧
        H' = [] ∧ AWP Try.prog 42 0 c39_5 [(3, AV.sl 1 (Seq.map encI (0 : Int) x) Tip.none), (4, AV.int IntKind.i64 (0 : Int))] [] (q39_2 0 Post)) →
    ASpec Try.prog 39 [AV.str s] [] Post := fun s Post h => Go.Ab.ASpec.of_vc g39 Go.Proofs.Try.func39 (by kernel_rfl) (by kernel_rfl) (by kernel_rfl) (Go.Ab.kc (by kernel_rfl) h)
theorem v39_5 : ∀ (l : List Int) (i : Int) (n : Nat) (Post : AV → List AObj → Prop),
  condP (decide (i < (↑(List.length l) : Int)))
      (needP ((0 : Int) ≤ i ∧ i < (↑(List.length l) : Int))
        (ASpec Try.prog 165 [AV.int IntKind.i64 (List.getD l (Int.toNat i) (0 : Int))] [] fun (r : AV) (H' : List AObj) =>
        ∃ (x : Int),
        r = AV.int IntKind.i64 x ∧
        H' = [] ∧
        condP (x == (4 : Int)) (Post (AV.bool false) [])
        (condP (i == (0 : Int))
        (needP ((0 : Int) ≤ i ∧ i < (↑(List.length l) : Int))
        (ASpec Try.prog 165 [AV.int IntKind.i64 (List.getD l (Int.toNat i) (0 : Int))] [] fun (r : AV) (H' : List AObj) =>
        ∃ (x : Int),
        r = AV.int IntKind.i64 x ∧
        H' = [] ∧
        condP (decide (x > (1 : Int))) (Post (AV.bool false) [])
        (AWP Try.prog 42 n c39_5
        [(3, AV.sl 1 (Seq.map encI (0 : Int) l) Tip.none), (4, AV.int IntKind.i64 (IntKind.wrap IntKind.i64 (i + (1 : Int))))] [] (q39_2 n Post))))
        (AWP Try.prog 42 n c39_5 [(3, AV.sl 1 (Seq.map encI (0 : Int) l) Tip.none), (4, AV.int IntKind.i64 (IntKind.wrap IntKind.i64 (i + (1 : Int))))] []
        (q39_2 n Post)))))
      (condP (decide ((↑(List.length l) : Int) ≥ (1 : Int))) (Post (AV.bool (decide ((↑(List.length l) : Int) ≤ (12 : Int)))) []) (Post (AV.bool false) [])) →
    AWP Try.prog 42 n c39_5 [(3, AV.sl 1 (Seq.map encI (0 : Int) l) Tip.none), (4, AV.int IntKind.i64 i)] [] (q39_2 n Post) := fun l i n Post h => Go.Ab.AWP.loop' g39 (Cfg.live g39) c39_5 (by kernel_rfl) (by kernel_rfl) (Go.Ab.kc (by kernel_rfl) h)

-- 262
noncomputable def l262 : Nat → List Nat
  | _ => []
noncomputable def u262 : Nat → Bool
  | _ => false
noncomputable def m262 : Nat → Bool
  | _ => false
noncomputable def g262 : Cfg := { N := 19, live := l262, cut := u262, mu := m262, ret := rets }
theorem s262 : ∀ (s : ByteArray) (bs : List UInt8) (Post : AV → List AObj → Prop),
  (ASpec Try.prog 154 [AV.str s] [] fun (r : AV) (H' : List AObj) =>
      ∃ (x : Bool),
        r = AV.bool x ∧
        H' = [] ∧
        condP (!x) (Post (AV.sl 0 (Seq.raw []) Tip.nil) [])
        (condP (decide ((↑(List.length bs) : Int) > (8192 : Int))) (Post (AV.sl 0 (Seq.raw []) Tip.nil) [])
        (needP (allBytes (Seq.map encB (0 : UInt8) bs))
        (ASpec Try.prog 141 [AV.sl 0 (Seq.raw []) Tip.nil, AV.str s] [] fun (r : AV) (H' : List AObj) =>
        ∃ (x : List UInt8),
        r = AV.sl 1 (Seq.map encB (0 : UInt8) x) (Tip.tok 0) ∧
        H' = [AObj.tok] ∧
        ASpec Try.prog 141 [AV.sl 1 (Seq.map encB (0 : UInt8) x) (Tip.tok 0), AV.str (bytesOf (Seq.map encB (0 : UInt8) bs))] [AObj.tok]
        fun (r : AV) (H' : List AObj) =>
        ∃ (x : List UInt8),
        r = AV.sl 1 (Seq.map encB (0 : UInt8) x) (Tip.tok 1) ∧
        H' = [AObj.tok, AObj.tok] ∧
        ASpec Try.prog 323 [AV.sl 1 (Seq.map encB (0 : UInt8) x) (Tip.tok 1)] [AObj.tok, AObj.tok] fun (r : AV) (H' : List AObj) =>
        ∃ (x : List UInt8),
        r = AV.sl 1 (Seq.map encB (0 : UInt8) x) Tip.none ∧
        H' = [AObj.tok, AObj.tok] ∧ Post (AV.sl 1 (Seq.map encB (0 : UInt8) x) Tip.none) [AObj.tok, AObj.tok])))) →
    ASpec Try.prog 262 [AV.str s, AV.sl 1 (Seq.map encB (0 : UInt8) bs) Tip.none] [] Post := fun s bs Post h => Go.Ab.ASpec.of_vc g262 Go.Proofs.Try.func262 (by kernel_rfl) (by kernel_rfl) (by kernel_rfl) (Go.Ab.kc (by kernel_rfl) h)

-- 325
noncomputable def l325 : Nat → List Nat
  | _ => []
noncomputable def u325 : Nat → Bool
  | _ => false
noncomputable def m325 : Nat → Bool
  | _ => false
noncomputable def g325 : Cfg := { N := 19, live := l325, cut := u325, mu := m325, ret := rets }
theorem s325 : ∀ (s t : ByteArray) (Post : AV → List AObj → Prop),
  (ASpec Try.prog 39 [AV.str s] [] fun (r : AV) (H' : List AObj) =>
      ∃ (x : Bool),
        r = AV.bool x ∧
        H' = [] ∧
        condP (!x) (Post (AV.str { data := #[] }) [])
        (condP (decide ((↑(ByteArray.size t) : Int) > (8192 : Int))) (Post (AV.str { data := #[] }) [])
        (ASpec Try.prog 151 [AV.str s] [] fun (r : AV) (H' : List AObj) =>
        ∃ (x : ByteArray),
        r = AV.str x ∧
        H' = [] ∧
        ASpec Try.prog 151 [AV.str t] [] fun (r : AV) (H' : List AObj) =>
        ∃ (x_1 : ByteArray),
        r = AV.str x_1 ∧
        H' = [] ∧
        needP ((↑(ByteArray.size x + ByteArray.size x_1) : Int) ≤ (9223372036854775807 : Int))
        (ASpec Try.prog 263 [AV.str (x ++ x_1)] [] fun (r : AV) (H' : List AObj) => ∃ (x : ByteArray), r = AV.str x ∧ H' = [] ∧ Post (AV.str x) [])))) →
    ASpec Try.prog 325 [AV.str s, AV.str t] [] Post := fun s t Post h => Go.Ab.ASpec.of_vc g325 Go.Proofs.Try.func325 (by kernel_rfl) (by kernel_rfl) (by kernel_rfl) (Go.Ab.kc (by kernel_rfl) h)

-- 45
noncomputable def l45 : Nat → List Nat
  | 10 => [8, 9, 10]
  | _ => []
noncomputable def u45 : Nat → Bool
  | 10 => true
  | _ => false
noncomputable def m45 : Nat → Bool
  | _ => false
noncomputable def g45 : Cfg := { N := 39, live := l45, cut := u45, mu := m45, ret := rets }
noncomputable def c45 : Go.Code := Go.Ab.bodyOf Go.Proofs.Try.f45
noncomputable def q45_0 : Nat → (AV → List AObj → Prop) → AQ := fun (n : Nat) (Post : AV → List AObj → Prop) => endQ Try.prog (resultsOf Try.f45) Post
noncomputable def c45_10 : Go.Code := codeSnd (codeSnd (codeSnd (codeSnd (codeSnd (codeSnd (codeSnd (codeSnd c45)))))))
theorem s45 : ∀ (s : ByteArray) (Post : AV → List AObj → Prop),
  (ASpec Try.prog 170 [AV.str s] [] fun (r : AV) (H' : List AObj) =>
      ∃ (x : ByteArray × Bool),
        r = AV.tup [AV.str (Prod.fst x), AV.bool (Prod.snd x)] ∧
        H' = [] ∧
        condP (!Prod.snd x) (Post (AV.tup [AV.str { data := #[] }, AV.str { data := #[] }, AV.int IntKind.i64 (8 : Int)]) [])
        (ASpec Try.prog 148 [AV.ptr 0 0, AV.int IntKind.i64 (24 : Int)] [AObj.cells [AV.str (Prod.fst x), AV.int IntKind.i64 (0 : Int)]] fun (r : AV) (H' : List AObj) =>
        ∃ (x : ByteArray × ByteArray × Int),
        r = AV.str (Prod.fst x) ∧
        H' = [AObj.cells [AV.str (Prod.fst (Prod.snd x)), AV.int IntKind.i64 (Prod.snd (Prod.snd x))]] ∧
        ASpec Try.prog 148 [AV.ptr 0 0, AV.int IntKind.i64 (8192 : Int)] [AObj.cells [AV.str (Prod.fst (Prod.snd x)), AV.int IntKind.i64 (Prod.snd (Prod.snd x))]]
        fun (r : AV) (H' : List AObj) =>
        ∃ (x_1 : ByteArray × ByteArray × Int),
        r = AV.str (Prod.fst x_1) ∧
        H' = [AObj.cells [AV.str (Prod.fst (Prod.snd x_1)), AV.int IntKind.i64 (Prod.snd (Prod.snd x_1))]] ∧
        ASpec Try.prog 149 [AV.ptr 0 0] [AObj.cells [AV.str (Prod.fst (Prod.snd x_1)), AV.int IntKind.i64 (Prod.snd (Prod.snd x_1))]]
        fun (r : AV) (H' : List AObj) =>
        ∃ (x_2 : Int),
        r = AV.int IntKind.i64 x_2 ∧
        H' = [AObj.cells [AV.str (Prod.fst (Prod.snd x_1)), AV.int IntKind.i64 (Prod.snd (Prod.snd x_1))]] ∧
        condP (x_2 == (0 : Int))
        (ASpec Try.prog 39 [AV.str (Prod.fst x)] [AObj.cells [AV.str (Prod.fst (Prod.snd x_1)), AV.int IntKind.i64 (Prod.snd (Prod.snd x_1))]]
        fun (r : AV) (H' : List AObj) =>
        ∃ (x_3 : Bool),
        r = AV.bool x_3 ∧
        H' = [AObj.cells [AV.str (Prod.fst (Prod.snd x_1)), AV.int IntKind.i64 (Prod.snd (Prod.snd x_1))]] ∧
        condP (!x_3)
        (AWP Try.prog 39 0 c45_10
        [(8, AV.str (Prod.fst x)), (9, AV.str (Prod.fst x_1)), (10, AV.int IntKind.i64 (3 : Int))]
        [AObj.cells [AV.str (Prod.fst (Prod.snd x_1)), AV.int IntKind.i64 (Prod.snd (Prod.snd x_1))]] (q45_0 0 Post))
        (AWP Try.prog 39 0 c45_10 [(8, AV.str (Prod.fst x)), (9, AV.str (Prod.fst x_1)), (10, AV.int IntKind.i64 x_2)]
        [AObj.cells [AV.str (Prod.fst (Prod.snd x_1)), AV.int IntKind.i64 (Prod.snd (Prod.snd x_1))]] (q45_0 0 Post)))
        (AWP Try.prog 39 0 c45_10 [(8, AV.str (Prod.fst x)), (9, AV.str (Prod.fst x_1)), (10, AV.int IntKind.i64 x_2)]
        [AObj.cells [AV.str (Prod.fst (Prod.snd x_1)), AV.int IntKind.i64 (Prod.snd (Prod.snd x_1))]] (q45_0 0 Post)))) →
    ASpec Try.prog 45 [AV.str s] [] Post := fun s Post h => Go.Ab.ASpec.of_vc g45 Go.Proofs.Try.func45 (by kernel_rfl) (by kernel_rfl) (by kernel_rfl) (Go.Ab.kc (by kernel_rfl) h)
theorem v45_10 : ∀ (x y : ByteArray) (e : Int) (n : Nat) (Post : AV → List AObj → Prop),
  condP (e != (0 : Int)) (Post (AV.tup [AV.str { data := #[] }, AV.str { data := #[] }, AV.int IntKind.i64 e]) []) (Post (AV.tup [AV.str x, AV.str y, AV.int IntKind.i64 (0 : Int)]) []) →
    AWP Try.prog 39 n c45_10 [(8, AV.str x), (9, AV.str y), (10, AV.int IntKind.i64 e)] [] (q45_0 n Post) := fun x y e n Post h => Go.Ab.awp_sound g45 n _ _ _ _ (Go.Ab.kc (by kernel_rfl) h)

end
end S
end

section
/- Printed: what the code of functions 41, 42, 49, 167, 266, 265, 174, 171, 168, 169, 43, 46, 48, 40, 5 asks for, by the framework's own reading of it; each line is checked against the code. -/

set_option linter.unusedVariables false
set_option maxRecDepth 100000
set_option maxHeartbeats 4000000
open Go Go.Ab Go.Proofs
namespace Sd
noncomputable section

noncomputable def updW (args : List AV) (H : List AObj) (W : List T.Item) : List AObj := match args with
  | .ptr p _ :: _ => match H[p]? with
    | some (.cells [l, .sl _ _ (.tok a), s]) => ((H.set a .gone).set p (.cells [l, .sl 2 (.map T.encIt (0, []) W) (.tok H.length), s])) ++ [.tok]
    | _ => H
  | _ => H
noncomputable def updS (args : List AV) (H : List AObj) (W : List T.Item) (S : List T.Ev) : List AObj := match args with
  | .ptr p _ :: _ => match H[p]? with
    | some (.cells [l, .sl _ _ (.tok a), .sl _ _ (.tok b)]) => (((H.set a .gone).set b .gone).set p (.cells [l, .sl 2 (.map T.encIt (0, []) W) (.tok H.length), .sl 1 (.map T.encSn T.noEv S) (.tok (H.length + 1))])) ++ [.tok, .tok]
    | _ => H
  | _ => H
noncomputable def cutRow (args : List AV) (H : List AObj) : List AObj := match args with
  | .msl _ id _ _ :: _ => H.set id .gone ++ [.tok]
  | _ => H
noncomputable def retT : List (Nat × Ret) := [
  (40, ⟨Unit, fun _ _ _ => .bool true, fun _ H _ => H⟩),
  (41, ⟨List T.Ent, fun _ H _ => .ptr H.length 0, fun _ H x => H ++ [T.stO x [] [] (H.length + 1) (H.length + 2), .tok, .tok]⟩),
  (41, ⟨Unit, fun _ _ _ => .nilp, fun _ H _ => H⟩),
  (42, ⟨Int × List T.Item, fun _ _ x => .int .i64 x.1, fun a H x => updW a H x.2⟩),
  (43, ⟨T.Ev × Bool × List T.Item × List T.Ev, fun _ _ x => .tup [.agg (T.encE x.1), .bool x.2.1], fun a H x => updS a H x.2.2.1 x.2.2.2⟩), (43, ⟨T.Ev × Bool, fun _ _ x => .tup [.agg (T.encE x.1), .bool x.2], fun _ H _ => H⟩), (44, ⟨T.Ev × Bool × List T.Item × List T.Ev, fun _ _ x => .tup [.agg (T.encE x.1), .bool x.2.1], fun a H x => updS a H x.2.2.1 x.2.2.2⟩), (44, ⟨T.Ev × Bool, fun _ _ x => .tup [.agg (T.encE x.1), .bool x.2], fun _ H _ => H⟩), (46, ⟨T.Ev × Bool, fun _ _ x => .tup [.agg (T.encE x.1), .bool x.2], fun _ H _ => H⟩), (168, ⟨T.Ev × Bool × List T.Item × List T.Ev, fun _ _ x => .tup [.agg (T.encE x.1), .bool x.2.1], fun a H x => updS a H x.2.2.1 x.2.2.2⟩),
  (48, ⟨Bool, fun _ _ x => .bool x, fun _ H _ => H⟩), (49, ⟨Int, fun _ _ x => .int .i64 x, fun _ H _ => H⟩), (167, ⟨Bool, fun _ _ x => .bool x, fun _ H _ => H⟩), (169, ⟨List UInt8, fun _ _ x => .sl 1 (.map encB 0 x) .none, fun _ H _ => H⟩), (166, ⟨List UInt8, fun _ _ x => .sl 1 (.map encB 0 x) .none, fun _ H _ => H⟩),
  (171, ⟨T.Ev, fun _ _ x => .agg (T.encE x), fun _ H _ => H⟩),
  (174, ⟨T.Item × List T.Item, fun _ _ x => .agg (T.encIt x.1), fun a H x => updW a H x.2⟩),
  (265, ⟨List T.Item, fun _ H x => .sl 2 (.map T.encIt (0, []) x) (.tok H.length), fun a H _ => cutRow a H⟩),
  (266, ⟨List T.Item, fun _ H x => .msl 2 H.length 0 x.length, fun _ H x => H ++ [.arr 2 (.map T.encIt (0, []) x)]⟩)]
noncomputable def rets : FuncId → List Ret := lookupR (retT ++ Dp.retD ++ S.retS ++ W.retW ++ C.retC ++ V.retL)

-- 41
noncomputable def l41 : Nat → List Nat
  | 5 => [3, 11, 12, 13]
  | _ => []
noncomputable def u41 : Nat → Bool
  | _ => false
noncomputable def m41 : Nat → Bool
  | _ => false
noncomputable def g41 : Cfg := { N := 34, live := l41, cut := u41, mu := m41, ret := rets }
noncomputable def c41 : Go.Code := Go.Ab.bodyOf Go.Proofs.Try.f41
noncomputable def q41_0 : Nat → (AV → List AObj → Prop) → AQ := fun (n : Nat) (Post : AV → List AObj → Prop) => endQ Try.prog (resultsOf Try.f41) Post
noncomputable def q41_1 : Nat → (AV → List AObj → Prop) → AQ := fun (n : Nat) (Post : AV → List AObj → Prop) => seqQ (fun (s' : Slots) (H' : List AObj) => awp Try.prog g41 n (codeSnd (codeSnd (codeSnd (codeSnd c41)))) s' H' (q41_0 n Post)) (q41_0 n Post)
noncomputable def q41_2 : Nat → (AV → List AObj → Prop) → AQ := fun (n : Nat) (Post : AV → List AObj → Prop) => blockQ 0 (q41_1 n Post)
noncomputable def c41_5 : Go.Code := codeFst (codeSnd (codeFst (codeSnd (codeSnd (codeSnd c41)))))
theorem s41 : ∀ (l : List T.Ent) (Post : AV → List AObj → Prop),
  (ASpec Try.prog 58 [AV.sl 2 (Seq.map T.encEn ([], []) l) Tip.none] [] fun (r : AV) (H' : List AObj) =>
      ∃ (x : Bool),
        r = AV.bool x ∧
        H' = [] ∧
        condP (!x) (Post AV.nilp [])
        (AWP Try.prog 34 0 c41_5
        [(3, AV.ptr 0 0), (11, AV.sl 2 (Seq.map T.encEn ([], []) l) Tip.none), (12, AV.int IntKind.i64 (↑(List.length l) : Int)),
        (13, AV.int IntKind.i64 (0 : Int))]
        [AObj.cells [AV.sl 0 (Seq.raw []) Tip.nil, AV.sl 0 (Seq.raw []) Tip.nil, AV.sl 0 (Seq.raw []) Tip.nil]] (q41_2 0 Post))) →
    ASpec Try.prog 41 [AV.sl 2 (Seq.map T.encEn ([], []) l) Tip.none] [] Post := fun l Post h => Go.Ab.ASpec.of_vc g41 Go.Proofs.Try.func41 (by kernel_rfl) (by kernel_rfl) (by kernel_rfl) (Go.Ab.kc (by kernel_rfl) h)
theorem v41_5 : ∀ (l acc : List T.Ent) (n i : Int) (n_1 : Nat) (Post : AV → List AObj → Prop),
  condP (decide (i < n))
      (needP ((0 : Int) ≤ i ∧ i < (↑(List.length l) : Int))
        (ASpec Try.prog 166 [AV.sl 1 (Seq.map encB (0 : UInt8) (Prod.snd (List.getD l (Int.toNat i) ([], [])))) Tip.none]
        [AObj.cells [AV.sl 2 (Seq.map T.encEn ([], []) acc) (Tip.tok 1), AV.sl 0 (Seq.raw []) Tip.nil, AV.sl 0 (Seq.raw []) Tip.nil], AObj.tok,
        AObj.cells
        [AV.str { data := List.toArray (Prod.fst (List.getD l (Int.toNat i) ([], []))) }, AV.sl 1 (Seq.map encB (0 : UInt8) (Prod.snd (List.getD l (Int.toNat i) ([], [])))) Tip.none]]
        fun (r : AV) (H' : List AObj) =>
        ∃ (x : List UInt8),
        r = AV.sl 1 (Seq.map encB (0 : UInt8) x) Tip.none ∧
        H' =
        [AObj.cells [AV.sl 2 (Seq.map T.encEn ([], []) acc) (Tip.tok 1), AV.sl 0 (Seq.raw []) Tip.nil, AV.sl 0 (Seq.raw []) Tip.nil], AObj.tok,
        AObj.cells
        [AV.str { data := List.toArray (Prod.fst (List.getD l (Int.toNat i) ([], []))) },
        AV.sl 1 (Seq.map encB (0 : UInt8) (Prod.snd (List.getD l (Int.toNat i) ([], [])))) Tip.none]] ∧
        (AV.str { data := List.toArray (Prod.fst (List.getD l (Int.toNat i) ([], []))) } = AV.str { data := List.toArray (Prod.fst (List.getD l (Int.toNat i) ([], []))) } ∧
        [AObj.cells [AV.sl 2 (Seq.map T.encEn ([], []) acc) (Tip.tok 1), AV.sl 0 (Seq.raw []) Tip.nil, AV.sl 0 (Seq.raw []) Tip.nil], AObj.tok,
        AObj.cells
        [AV.str { data := List.toArray (Prod.fst (List.getD l (Int.toNat i) ([], []))) },
        AV.sl 1 (Seq.map encB (0 : UInt8) (Prod.snd (List.getD l (Int.toNat i) ([], [])))) Tip.none]] =
        [AObj.cells [AV.sl 2 (Seq.map T.encEn ([], []) acc) (Tip.tok 1), AV.sl 0 (Seq.raw []) Tip.nil, AV.sl 0 (Seq.raw []) Tip.nil], AObj.tok,
        AObj.cells
        [AV.str { data := List.toArray (Prod.fst (List.getD l (Int.toNat i) ([], []))) },
        AV.sl 1 (Seq.map encB (0 : UInt8) (Prod.snd (List.getD l (Int.toNat i) ([], [])))) Tip.none]]) ∧
        (AV.sl 2 (Seq.map T.encEn ([], []) acc) (Tip.tok 1) = AV.sl 2 (Seq.map T.encEn ([], []) acc) (Tip.tok 1) ∧
        [AObj.cells [AV.sl 2 (Seq.map T.encEn ([], []) acc) (Tip.tok 1), AV.sl 0 (Seq.raw []) Tip.nil, AV.sl 0 (Seq.raw []) Tip.nil], AObj.tok,
        AObj.cells
        [AV.str { data := List.toArray (Prod.fst (List.getD l (Int.toNat i) ([], []))) },
        AV.sl 1 (Seq.map encB (0 : UInt8) (Prod.snd (List.getD l (Int.toNat i) ([], [])))) Tip.none]] =
        [AObj.cells [AV.sl 2 (Seq.map T.encEn ([], []) acc) (Tip.tok 1), AV.sl 0 (Seq.raw []) Tip.nil, AV.sl 0 (Seq.raw []) Tip.nil], AObj.tok,
        AObj.cells
        [AV.str { data := List.toArray (Prod.fst (List.getD l (Int.toNat i) ([], []))) },
        AV.sl 1 (Seq.map encB (0 : UInt8) (Prod.snd (List.getD l (Int.toNat i) ([], [])))) Tip.none]]) ∧
        needP ((List.length acc + 1) * 40 ≤ 140737488351232)
        (AWP Try.prog 34 n_1 c41_5
        [(3, AV.ptr 0 0), (11, AV.sl 2 (Seq.map T.encEn ([], []) l) Tip.none), (12, AV.int IntKind.i64 n),
        (13, AV.int IntKind.i64 (IntKind.wrap IntKind.i64 (i + (1 : Int))))]
        [AObj.cells
        [AV.sl 2
        (Seq.app (Seq.map T.encEn ([], []) acc)
        (Seq.raw [[AV.str { data := List.toArray (Prod.fst (List.getD l (Int.toNat i) ([], []))) }, AV.sl 1 (Seq.map encB (0 : UInt8) x) Tip.none]]))
        (Tip.tok 3),
        AV.sl 0 (Seq.raw []) Tip.nil, AV.sl 0 (Seq.raw []) Tip.nil],
        AObj.gone,
        AObj.cells
        [AV.str { data := List.toArray (Prod.fst (List.getD l (Int.toNat i) ([], []))) },
        AV.sl 1 (Seq.map encB (0 : UInt8) (Prod.snd (List.getD l (Int.toNat i) ([], [])))) Tip.none],
        AObj.tok]
        (q41_2 n_1 Post))))
      (Post (AV.ptr 0 0)
        [AObj.cells [AV.sl 2 (Seq.map T.encEn ([], []) acc) (Tip.tok 1), AV.sl 0 (Seq.raw []) Tip.nil, AV.sl 0 (Seq.raw []) Tip.nil], AObj.tok]) →
    AWP Try.prog 34 n_1 c41_5
      [(3, AV.ptr 0 0), (11, AV.sl 2 (Seq.map T.encEn ([], []) l) Tip.none), (12, AV.int IntKind.i64 n), (13, AV.int IntKind.i64 i)]
      [AObj.cells [AV.sl 2 (Seq.map T.encEn ([], []) acc) (Tip.tok 1), AV.sl 0 (Seq.raw []) Tip.nil, AV.sl 0 (Seq.raw []) Tip.nil], AObj.tok] (q41_2 n_1 Post) := fun l acc n i n Post h => Go.Ab.AWP.loop' g41 (Cfg.live g41) c41_5 (by kernel_rfl) (by kernel_rfl) (Go.Ab.kc (by kernel_rfl) h)

-- 42
noncomputable def l42 : Nat → List Nat
  | 3 => [0, 5, 8, 9, 10]
  | _ => []
noncomputable def u42 : Nat → Bool
  | _ => false
noncomputable def m42 : Nat → Bool
  | _ => false
noncomputable def g42 : Cfg := { N := 39, live := l42, cut := u42, mu := m42, ret := rets }
noncomputable def c42 : Go.Code := Go.Ab.bodyOf Go.Proofs.Try.f42
noncomputable def q42_0 : Nat → (AV → List AObj → Prop) → AQ := fun (n : Nat) (Post : AV → List AObj → Prop) => endQ Try.prog (resultsOf Try.f42) Post
noncomputable def q42_1 : Nat → (AV → List AObj → Prop) → AQ := fun (n : Nat) (Post : AV → List AObj → Prop) => seqQ (fun (s' : Slots) (H' : List AObj) => awp Try.prog g42 n (codeSnd (codeSnd (codeSnd c42))) s' H' (q42_0 n Post)) (q42_0 n Post)
noncomputable def q42_2 : Nat → (AV → List AObj → Prop) → AQ := fun (n : Nat) (Post : AV → List AObj → Prop) => blockQ 0 (q42_1 n Post)
noncomputable def c42_3 : Go.Code := codeFst (codeSnd (codeFst (codeSnd (codeSnd c42))))
theorem s42 : ∀ (D : List T.Ent) (W : List T.Item) (S : List T.Ev) (l : List T.Ac) (Post : AV → List AObj → Prop),
  AWP Try.prog 39 3 c42_3
      [(0, AV.ptr 0 0), (5, AV.int IntKind.i64 (0 : Int)), (8, AV.sl 7 (Seq.map T.encA ((0 : Int), (0 : Int), []) l) Tip.none),
        (9, AV.int IntKind.i64 (↑(List.length l) : Int)), (10, AV.int IntKind.i64 (0 : Int))]
      [AObj.cells
        [AV.sl 2 (Seq.map T.encEn ([], []) D) Tip.none, AV.sl 2 (Seq.map T.encIt ((0 : Int), []) W) (Tip.tok 1),
        AV.sl 1 (Seq.map T.encSn T.noEv S) (Tip.tok 2)],
        AObj.tok, AObj.tok]
      (q42_2 3 Post) →
    ASpec Try.prog 42 [AV.ptr 0 0, AV.sl 7 (Seq.map T.encA ((0 : Int), (0 : Int), []) l) Tip.none] (T.HS D W S) Post := fun D W S l Post h => Go.Ab.ASpec.of_vc g42 Go.Proofs.Try.func42 (by kernel_rfl) (by kernel_rfl) (by kernel_rfl) (Go.Ab.kc (by kernel_rfl) h)
theorem v42_3 : ∀ (D : List T.Ent) (W : List T.Item) (S : List T.Ev) (l : List T.Ac) (m n i : Int) (n_1 : Nat) (Post : AV → List AObj → Prop),
  condP (decide (i < n))
      (needP ((0 : Int) ≤ i ∧ i < (↑(List.length l) : Int))
        (condP (Prod.fst (List.getD l (Int.toNat i) ((0 : Int), (0 : Int), [])) == (1 : Int))
        (needP ((List.length W + 1) * 24 ≤ 140737488351232)
        (AWP Try.prog 39 n_1 c42_3
        [(0, AV.ptr 0 0), (5, AV.int IntKind.i64 (IntKind.wrap IntKind.i64 (m + (1 : Int)))),
        (8, AV.sl 7 (Seq.map T.encA ((0 : Int), (0 : Int), []) l) Tip.none), (9, AV.int IntKind.i64 n),
        (10, AV.int IntKind.i64 (IntKind.wrap IntKind.i64 (i + (1 : Int))))]
        [AObj.cells
        [AV.sl 2 (Seq.map T.encEn ([], []) D) Tip.none,
        AV.sl 2
        (Seq.app (Seq.map T.encIt ((0 : Int), []) W)
        (Seq.raw
        [[AV.int IntKind.i64 (Prod.fst (Prod.snd (List.getD l (Int.toNat i) ((0 : Int), (0 : Int), [])))),
        AV.str { data := List.toArray (Prod.snd (Prod.snd (List.getD l (Int.toNat i) ((0 : Int), (0 : Int), [])))) }]]))
        (Tip.tok 4),
        AV.sl 1 (Seq.map T.encSn T.noEv S) (Tip.tok 2)],
        AObj.gone, AObj.tok,
        AObj.cells
        [AV.int IntKind.i64 (Prod.fst (List.getD l (Int.toNat i) ((0 : Int), (0 : Int), []))),
        AV.int IntKind.i64 (Prod.fst (Prod.snd (List.getD l (Int.toNat i) ((0 : Int), (0 : Int), [])))),
        AV.str { data := List.toArray (Prod.snd (Prod.snd (List.getD l (Int.toNat i) ((0 : Int), (0 : Int), [])))) }, AV.int IntKind.i64 (0 : Int), AV.int IntKind.i64 (0 : Int),
        AV.sl 0 (Seq.raw []) Tip.nil, AV.sl 0 (Seq.raw []) Tip.nil],
        AObj.tok]
        (q42_2 n_1 Post)))
        (AWP Try.prog 39 n_1 c42_3
        [(0, AV.ptr 0 0), (5, AV.int IntKind.i64 m), (8, AV.sl 7 (Seq.map T.encA ((0 : Int), (0 : Int), []) l) Tip.none),
        (9, AV.int IntKind.i64 n), (10, AV.int IntKind.i64 (IntKind.wrap IntKind.i64 (i + (1 : Int))))]
        [AObj.cells
        [AV.sl 2 (Seq.map T.encEn ([], []) D) Tip.none, AV.sl 2 (Seq.map T.encIt ((0 : Int), []) W) (Tip.tok 1),
        AV.sl 1 (Seq.map T.encSn T.noEv S) (Tip.tok 2)],
        AObj.tok, AObj.tok,
        AObj.cells
        [AV.int IntKind.i64 (Prod.fst (List.getD l (Int.toNat i) ((0 : Int), (0 : Int), []))), AV.int IntKind.i64 (Prod.fst (Prod.snd (List.getD l (Int.toNat i) ((0 : Int), (0 : Int), [])))),
        AV.str { data := List.toArray (Prod.snd (Prod.snd (List.getD l (Int.toNat i) ((0 : Int), (0 : Int), [])))) }, AV.int IntKind.i64 (0 : Int), AV.int IntKind.i64 (0 : Int),
        AV.sl 0 (Seq.raw []) Tip.nil, AV.sl 0 (Seq.raw []) Tip.nil]]
        (q42_2 n_1 Post))))
      (Post (AV.int IntKind.i64 m)
        [AObj.cells
        [AV.sl 2 (Seq.map T.encEn ([], []) D) Tip.none, AV.sl 2 (Seq.map T.encIt ((0 : Int), []) W) (Tip.tok 1),
        AV.sl 1 (Seq.map T.encSn T.noEv S) (Tip.tok 2)],
        AObj.tok, AObj.tok]) →
    AWP Try.prog 39 n_1 c42_3
      [(0, AV.ptr 0 0), (5, AV.int IntKind.i64 m), (8, AV.sl 7 (Seq.map T.encA ((0 : Int), (0 : Int), []) l) Tip.none),
        (9, AV.int IntKind.i64 n), (10, AV.int IntKind.i64 i)]
      (T.HS D W S) (q42_2 n_1 Post) := fun D W S l m n i n Post h => Go.Ab.AWP.loop' g42 (Cfg.live g42) c42_3 (by kernel_rfl) (by kernel_rfl) (Go.Ab.kc (by kernel_rfl) h)

-- 49
noncomputable def l49 : Nat → List Nat
  | _ => []
noncomputable def u49 : Nat → Bool
  | _ => false
noncomputable def m49 : Nat → Bool
  | _ => false
noncomputable def g49 : Cfg := { N := 10, live := l49, cut := u49, mu := m49, ret := rets }
theorem s49 : ∀ (D : List T.Ent) (W : List T.Item) (S : List T.Ev) (Post : AV → List AObj → Prop),
  Post (AV.int IntKind.i64 (↑(List.length W) : Int))
      [AObj.cells
        [AV.sl 2 (Seq.map T.encEn ([], []) D) Tip.none, AV.sl 2 (Seq.map T.encIt ((0 : Int), []) W) (Tip.tok 1),
        AV.sl 1 (Seq.map T.encSn T.noEv S) (Tip.tok 2)],
        AObj.tok, AObj.tok] →
    ASpec Try.prog 49 [AV.ptr 0 0] (T.HS D W S) Post := fun D W S Post h => Go.Ab.ASpec.of_vc g49 Go.Proofs.Try.func49 (by kernel_rfl) (by kernel_rfl) (by kernel_rfl) (Go.Ab.kc (by kernel_rfl) h)

-- 167
noncomputable def l167 : Nat → List Nat
  | _ => []
noncomputable def u167 : Nat → Bool
  | _ => false
noncomputable def m167 : Nat → Bool
  | _ => false
noncomputable def g167 : Cfg := { N := 13, live := l167, cut := u167, mu := m167, ret := rets }
theorem s167 : ∀ (D : List T.Ent) (W : List T.Item) (S : List T.Ev) (k : Int) (Post : AV → List AObj → Prop),
  condP (decide (k ≥ (0 : Int)))
      (ASpec Try.prog 49 [AV.ptr 0 0]
        [AObj.cells
        [AV.sl 2 (Seq.map T.encEn ([], []) D) Tip.none, AV.sl 2 (Seq.map T.encIt ((0 : Int), []) W) (Tip.tok 1),
        AV.sl 1 (Seq.map T.encSn T.noEv S) (Tip.tok 2)],
        AObj.tok, AObj.tok]
        fun (r : AV) (H' : List AObj) =>
        ∃ (x : Int),
        r = AV.int IntKind.i64 x ∧
        H' =
        [AObj.cells
        [AV.sl 2 (Seq.map T.encEn ([], []) D) Tip.none, AV.sl 2 (Seq.map T.encIt ((0 : Int), []) W) (Tip.tok 1),
        AV.sl 1 (Seq.map T.encSn T.noEv S) (Tip.tok 2)],
        AObj.tok, AObj.tok] ∧
        Post (AV.bool (decide (k < x)))
        [AObj.cells
        [AV.sl 2 (Seq.map T.encEn ([], []) D) Tip.none, AV.sl 2 (Seq.map T.encIt ((0 : Int), []) W) (Tip.tok 1),
        AV.sl 1 (Seq.map T.encSn T.noEv S) (Tip.tok 2)],
        AObj.tok, AObj.tok])
      (Post (AV.bool false)
        [AObj.cells
        [AV.sl 2 (Seq.map T.encEn ([], []) D) Tip.none, AV.sl 2 (Seq.map T.encIt ((0 : Int), []) W) (Tip.tok 1),
        AV.sl 1 (Seq.map T.encSn T.noEv S) (Tip.tok 2)],
        AObj.tok, AObj.tok]) →
    ASpec Try.prog 167 [AV.ptr 0 0, AV.int IntKind.i64 k] (T.HS D W S) Post := fun D W S k Post h => Go.Ab.ASpec.of_vc g167 Go.Proofs.Try.func167 (by kernel_rfl) (by kernel_rfl) (by kernel_rfl) (Go.Ab.kc (by kernel_rfl) h)

-- 266
noncomputable def l266 : Nat → List Nat
  | _ => []
noncomputable def u266 : Nat → Bool
  | _ => false
noncomputable def m266 : Nat → Bool
  | 7 => true
  | _ => false
noncomputable def g266 : Cfg := { N := 8, live := l266, cut := u266, mu := m266, ret := rets }
theorem s266 : ∀ (l : List T.Item) (Post : AV → List AObj → Prop),
  (∀ (b : Bool),
      (b = true → Seq.toList (Seq.map T.encIt ((0 : Int), []) l) = []) →
        condP b (Post (AV.sl 0 (Seq.raw []) Tip.nil) [])
        (needP (∀ (x : T.Item), List.all (T.encIt x) oneAV = true)
        (needP ((0 + List.length l) * 24 ≤ 140737488351232)
        (needP (1 ≤ List.length l) (Post (AV.msl 2 0 0 (List.length l)) [AObj.arr 2 (Seq.map T.encIt ((0 : Int), []) l)]))))) →
    ASpec Try.prog 266 [AV.sl 2 (Seq.map T.encIt ((0 : Int), []) l) Tip.none] [] Post := fun l Post h => Go.Ab.ASpec.of_vc g266 Go.Proofs.Try.func266 (by kernel_rfl) (by kernel_rfl) (by kernel_rfl) (Go.Ab.kc (by kernel_rfl) h)

-- 265
noncomputable def l265 : Nat → List Nat
  | 7 => [0]
  | _ => []
noncomputable def u265 : Nat → Bool
  | 7 => true
  | _ => false
noncomputable def m265 : Nat → Bool
  | 25 => true
  | 31 => true
  | _ => false
noncomputable def g265 : Cfg := { N := 33, live := l265, cut := u265, mu := m265, ret := rets }
noncomputable def c265 : Go.Code := Go.Ab.bodyOf Go.Proofs.Try.f265
noncomputable def q265_0 : Nat → (AV → List AObj → Prop) → AQ := fun (n : Nat) (Post : AV → List AObj → Prop) => endQ Try.prog (resultsOf Try.f265) Post
noncomputable def c265_7 : Go.Code := codeSnd (codeSnd (codeSnd (codeSnd (codeSnd (codeSnd c265)))))
theorem s265 : ∀ (l : List T.Item) (k : Nat) (i j : Int) (Post : AV → List AObj → Prop),
  needP ((0 : Int) ≤ i ∧ i ≤ j ∧ j ≤ (↑k : Int) ∧ (↑k : Int) ≤ (↑k : Int))
      (condP (i == j) (Post (AV.msl 2 0 0 k) [AObj.arr 2 (Seq.map T.encIt ((0 : Int), []) l)])
        (needP ((0 : Int) ≤ i ∧ i ≤ (↑k : Int))
        (needP ((0 : Int) ≤ j ∧ j ≤ (↑k : Int))
        (condP (decide (j < (↑k : Int)))
        (needP (0 + Int.toNat j + (k - Int.toNat j) ≤ List.length l)
        (needP (∀ (x : T.Item), List.all (T.encIt x) oneAV = true)
        (needP (0 + Int.toNat i + List.length (List.drop (0 + Int.toNat j) (List.take (0 + Int.toNat j + (k - Int.toNat j)) l)) ≤ List.length l)
        (needP
        ((0 : Int) ≤ (↑(Int.toNat i + List.length (List.drop (0 + Int.toNat j) (List.take (0 + Int.toNat j + (k - Int.toNat j)) l))) : Int) ∧
        (↑(Int.toNat i + List.length (List.drop (0 + Int.toNat j) (List.take (0 + Int.toNat j + (k - Int.toNat j)) l))) : Int) < (↑k : Int) ∧
        (0 : Int) + (↑k : Int) ≤
        (↑(rowLen
        [AObj.arr 2
        (copied (Seq.map T.encIt ((0 : Int), []) l) (0 + Int.toNat i)
        (Seq.map T.encIt ((0 : Int), []) (List.drop (0 + Int.toNat j) (List.take (0 + Int.toNat j + (k - Int.toNat j)) l))))]
        0) :
        Int))
        (needP
        (0 + (Int.toNat i + List.length (List.drop (0 + Int.toNat j) (List.take (0 + Int.toNat j + (k - Int.toNat j)) l))) +
        (k - (Int.toNat i + List.length (List.drop (0 + Int.toNat j) (List.take (0 + Int.toNat j + (k - Int.toNat j)) l)))) ≤
        Seq.len
        (copied (Seq.map T.encIt ((0 : Int), []) l) (0 + Int.toNat i)
        (Seq.map T.encIt ((0 : Int), []) (List.drop (0 + Int.toNat j) (List.take (0 + Int.toNat j + (k - Int.toNat j)) l)))))
        (AWP Try.prog 33 1 c265_7
        [(0,
        AV.msl 2 0 0 (Int.toNat i + List.length (List.drop (0 + Int.toNat j) (List.take (0 + Int.toNat j + (k - Int.toNat j)) l))))]
        [AObj.arr 2
        (copied
        (copied (Seq.map T.encIt ((0 : Int), []) l) (0 + Int.toNat i)
        (Seq.map T.encIt ((0 : Int), []) (List.drop (0 + Int.toNat j) (List.take (0 + Int.toNat j + (k - Int.toNat j)) l))))
        (0 + (Int.toNat i + List.length (List.drop (0 + Int.toNat j) (List.take (0 + Int.toNat j + (k - Int.toNat j)) l))))
        (Seq.raw
        (List.replicate (k - (Int.toNat i + List.length (List.drop (0 + Int.toNat j) (List.take (0 + Int.toNat j + (k - Int.toNat j)) l))))
        (List.map ofCell (Array.toList (Value.cells (Value.agg #[Value.int IntKind.i64 (0 : Int), Value.string { data := #[] }])))))))]
        (q265_0 1 Post)))))))
        (needP (0 + Int.toNat i + 0 ≤ List.length l)
        (needP
        ((0 : Int) ≤ (↑(Int.toNat i + 0) : Int) ∧
        (↑(Int.toNat i + 0) : Int) < (↑k : Int) ∧
        (0 : Int) + (↑k : Int) ≤ (↑(rowLen [AObj.arr 2 (copied (Seq.map T.encIt ((0 : Int), []) l) (0 + Int.toNat i) (Seq.raw []))] 0) : Int))
        (needP (0 + (Int.toNat i + 0) + (k - (Int.toNat i + 0)) ≤ Seq.len (copied (Seq.map T.encIt ((0 : Int), []) l) (0 + Int.toNat i) (Seq.raw [])))
        (AWP Try.prog 33 1 c265_7 [(0, AV.msl 2 0 0 (Int.toNat i + 0))]
        [AObj.arr 2
        (copied (copied (Seq.map T.encIt ((0 : Int), []) l) (0 + Int.toNat i) (Seq.raw [])) (0 + (Int.toNat i + 0))
        (Seq.raw
        (List.replicate (k - (Int.toNat i + 0))
        (List.map ofCell (Array.toList (Value.cells (Value.agg #[Value.int IntKind.i64 (0 : Int), Value.string { data := #[] }])))))))]
        (q265_0 1 Post))))))))) →
    ASpec Try.prog 265 [AV.msl 2 0 0 k, AV.int IntKind.i64 i, AV.int IntKind.i64 j] [AObj.arr 2 (Seq.map T.encIt ((0 : Int), []) l)] Post := fun l k i j Post h => Go.Ab.ASpec.of_vc g265 Go.Proofs.Try.func265 (by kernel_rfl) (by kernel_rfl) (by kernel_rfl) (Go.Ab.kc (by kernel_rfl) h)
theorem v265_7 : ∀ (l : List T.Item) (n : Nat) (Post : AV → List AObj → Prop),
  Post (AV.sl 2 (Seq.map T.encIt ((0 : Int), []) l) (Tip.tok 1)) [AObj.gone, AObj.tok] →
    AWP Try.prog 33 n c265_7 [(0, AV.sl 2 (Seq.map T.encIt ((0 : Int), []) l) (Tip.tok 1))] [AObj.gone, AObj.tok] (q265_0 n Post) := fun l n Post h => Go.Ab.awp_sound g265 n _ _ _ _ (Go.Ab.kc (by kernel_rfl) h)

-- 174
noncomputable def l174 : Nat → List Nat
  | _ => []
noncomputable def u174 : Nat → Bool
  | _ => false
noncomputable def m174 : Nat → Bool
  | _ => false
noncomputable def g174 : Cfg := { N := 26, live := l174, cut := u174, mu := m174, ret := rets }
theorem s174 : ∀ (D : List T.Ent) (W : List T.Item) (S : List T.Ev) (k : Int) (Post : AV → List AObj → Prop),
  needP ((0 : Int) ≤ k ∧ k < (↑(List.length W) : Int))
      (ASpec Try.prog 266 [AV.sl 2 (Seq.map T.encIt ((0 : Int), []) W) (Tip.tok 1)]
        [AObj.cells
        [AV.sl 2 (Seq.map T.encEn ([], []) D) Tip.none, AV.sl 2 (Seq.map T.encIt ((0 : Int), []) W) (Tip.tok 1),
        AV.sl 1 (Seq.map T.encSn T.noEv S) (Tip.tok 2)],
        AObj.tok, AObj.tok, AObj.cells [AV.int IntKind.i64 (0 : Int), AV.str { data := #[] }],
        AObj.cells [AV.int IntKind.i64 (Prod.fst (List.getD W (Int.toNat k) ((0 : Int), []))), AV.str { data := List.toArray (Prod.snd (List.getD W (Int.toNat k) ((0 : Int), []))) }]]
        fun (r : AV) (H' : List AObj) =>
        ∃ (x : List T.Item),
        r = AV.msl 2 5 0 (List.length x) ∧
        H' =
        [AObj.cells
        [AV.sl 2 (Seq.map T.encEn ([], []) D) Tip.none, AV.sl 2 (Seq.map T.encIt ((0 : Int), []) W) (Tip.tok 1),
        AV.sl 1 (Seq.map T.encSn T.noEv S) (Tip.tok 2)],
        AObj.tok, AObj.tok, AObj.cells [AV.int IntKind.i64 (0 : Int), AV.str { data := #[] }],
        AObj.cells [AV.int IntKind.i64 (Prod.fst (List.getD W (Int.toNat k) ((0 : Int), []))), AV.str { data := List.toArray (Prod.snd (List.getD W (Int.toNat k) ((0 : Int), []))) }],
        AObj.arr 2 (Seq.map T.encIt ((0 : Int), []) x)] ∧
        ASpec Try.prog 265 [AV.msl 2 5 0 (List.length x), AV.int IntKind.i64 k, AV.int IntKind.i64 (IntKind.wrap IntKind.i64 (k + (1 : Int)))]
        [AObj.cells
        [AV.sl 2 (Seq.map T.encEn ([], []) D) Tip.none, AV.sl 2 (Seq.map T.encIt ((0 : Int), []) W) (Tip.tok 1),
        AV.sl 1 (Seq.map T.encSn T.noEv S) (Tip.tok 2)],
        AObj.tok, AObj.tok, AObj.cells [AV.int IntKind.i64 (0 : Int), AV.str { data := #[] }],
        AObj.cells [AV.int IntKind.i64 (Prod.fst (List.getD W (Int.toNat k) ((0 : Int), []))), AV.str { data := List.toArray (Prod.snd (List.getD W (Int.toNat k) ((0 : Int), []))) }],
        AObj.arr 2 (Seq.map T.encIt ((0 : Int), []) x)]
        fun (r : AV) (H' : List AObj) =>
        ∃ (x : List T.Item),
        r = AV.sl 2 (Seq.map T.encIt ((0 : Int), []) x) (Tip.tok 6) ∧
        H' =
        [AObj.cells
        [AV.sl 2 (Seq.map T.encEn ([], []) D) Tip.none, AV.sl 2 (Seq.map T.encIt ((0 : Int), []) W) (Tip.tok 1),
        AV.sl 1 (Seq.map T.encSn T.noEv S) (Tip.tok 2)],
        AObj.tok, AObj.tok, AObj.cells [AV.int IntKind.i64 (0 : Int), AV.str { data := #[] }],
        AObj.cells
        [AV.int IntKind.i64 (Prod.fst (List.getD W (Int.toNat k) ((0 : Int), []))), AV.str { data := List.toArray (Prod.snd (List.getD W (Int.toNat k) ((0 : Int), []))) }],
        AObj.gone, AObj.tok] ∧
        Post (AV.agg [AV.int IntKind.i64 (Prod.fst (List.getD W (Int.toNat k) ((0 : Int), []))), AV.str { data := List.toArray (Prod.snd (List.getD W (Int.toNat k) ((0 : Int), []))) }])
        [AObj.cells
        [AV.sl 2 (Seq.map T.encEn ([], []) D) Tip.none, AV.sl 2 (Seq.map T.encIt ((0 : Int), []) x) (Tip.tok 6),
        AV.sl 1 (Seq.map T.encSn T.noEv S) (Tip.tok 2)],
        AObj.tok, AObj.tok,
        AObj.cells
        [AV.int IntKind.i64 (Prod.fst (List.getD W (Int.toNat k) ((0 : Int), []))), AV.str { data := List.toArray (Prod.snd (List.getD W (Int.toNat k) ((0 : Int), []))) }],
        AObj.cells
        [AV.int IntKind.i64 (Prod.fst (List.getD W (Int.toNat k) ((0 : Int), []))), AV.str { data := List.toArray (Prod.snd (List.getD W (Int.toNat k) ((0 : Int), []))) }],
        AObj.gone, AObj.tok]) →
    ASpec Try.prog 174 [AV.ptr 0 0, AV.int IntKind.i64 k] (T.HS D W S) Post := fun D W S k Post h => Go.Ab.ASpec.of_vc g174 Go.Proofs.Try.func174 (by kernel_rfl) (by kernel_rfl) (by kernel_rfl) (Go.Ab.kc (by kernel_rfl) h)

-- 171
noncomputable def l171 : Nat → List Nat
  | _ => []
noncomputable def u171 : Nat → Bool
  | _ => false
noncomputable def m171 : Nat → Bool
  | _ => false
noncomputable def g171 : Cfg := { N := 8, live := l171, cut := u171, mu := m171, ret := rets }
theorem s171 : ∀ (e : T.Ev) (Post : AV → List AObj → Prop),
  (ASpec Try.prog 166 [AV.sl 1 (Seq.map encB (0 : UInt8) (Prod.snd (Prod.snd (Prod.snd (Prod.snd e))))) Tip.none]
      [AObj.cells
        [AV.int IntKind.i64 (Prod.fst e), AV.sl 2 (Seq.map T.encN ([], []) (Prod.fst (Prod.snd e))) Tip.none, AV.int IntKind.i64 (Prod.fst (Prod.snd (Prod.snd e))),
        AV.int IntKind.i64 (Prod.fst (Prod.snd (Prod.snd (Prod.snd e)))), AV.sl 1 (Seq.map encB (0 : UInt8) (Prod.snd (Prod.snd (Prod.snd (Prod.snd e))))) Tip.none],
        AObj.cells [AV.int IntKind.i64 (0 : Int), AV.sl 0 (Seq.raw []) Tip.nil, AV.int IntKind.i64 (0 : Int), AV.int IntKind.i64 (0 : Int), AV.sl 0 (Seq.raw []) Tip.nil]]
      fun (r : AV) (H' : List AObj) =>
      ∃ (x : List UInt8),
        r = AV.sl 1 (Seq.map encB (0 : UInt8) x) Tip.none ∧
        H' =
        [AObj.cells
        [AV.int IntKind.i64 (Prod.fst e), AV.sl 2 (Seq.map T.encN ([], []) (Prod.fst (Prod.snd e))) Tip.none, AV.int IntKind.i64 (Prod.fst (Prod.snd (Prod.snd e))),
        AV.int IntKind.i64 (Prod.fst (Prod.snd (Prod.snd (Prod.snd e)))), AV.sl 1 (Seq.map encB (0 : UInt8) (Prod.snd (Prod.snd (Prod.snd (Prod.snd e))))) Tip.none],
        AObj.cells [AV.int IntKind.i64 (0 : Int), AV.sl 0 (Seq.raw []) Tip.nil, AV.int IntKind.i64 (0 : Int), AV.int IntKind.i64 (0 : Int), AV.sl 0 (Seq.raw []) Tip.nil]] ∧
        Post
        (AV.agg
        [AV.int IntKind.i64 (Prod.fst e), AV.sl 2 (Seq.map T.encN ([], []) (Prod.fst (Prod.snd e))) Tip.none, AV.int IntKind.i64 (Prod.fst (Prod.snd (Prod.snd e))),
        AV.int IntKind.i64 (Prod.fst (Prod.snd (Prod.snd (Prod.snd e)))), AV.sl 1 (Seq.map encB (0 : UInt8) x) Tip.none])
        [AObj.cells
        [AV.int IntKind.i64 (Prod.fst e), AV.sl 2 (Seq.map T.encN ([], []) (Prod.fst (Prod.snd e))) Tip.none, AV.int IntKind.i64 (Prod.fst (Prod.snd (Prod.snd e))),
        AV.int IntKind.i64 (Prod.fst (Prod.snd (Prod.snd (Prod.snd e)))), AV.sl 1 (Seq.map encB (0 : UInt8) x) Tip.none],
        AObj.cells
        [AV.int IntKind.i64 (Prod.fst e), AV.sl 2 (Seq.map T.encN ([], []) (Prod.fst (Prod.snd e))) Tip.none, AV.int IntKind.i64 (Prod.fst (Prod.snd (Prod.snd e))),
        AV.int IntKind.i64 (Prod.fst (Prod.snd (Prod.snd (Prod.snd e)))), AV.sl 1 (Seq.map encB (0 : UInt8) x) Tip.none]]) →
    ASpec Try.prog 171 [AV.agg (T.encE e)] [] Post := fun e Post h => Go.Ab.ASpec.of_vc g171 Go.Proofs.Try.func171 (by kernel_rfl) (by kernel_rfl) (by kernel_rfl) (Go.Ab.kc (by kernel_rfl) h)

-- 168
noncomputable def l168 : Nat → List Nat
  | _ => []
noncomputable def u168 : Nat → Bool
  | _ => false
noncomputable def m168 : Nat → Bool
  | _ => false
noncomputable def g168 : Cfg := { N := 28, live := l168, cut := u168, mu := m168, ret := rets }
theorem s168 : ∀ (D : List T.Ent) (W : List T.Item) (S : List T.Ev) (k : Int) (b : List UInt8) (Post : AV → List AObj → Prop),
  (ASpec Try.prog 174 [AV.ptr 0 0, AV.int IntKind.i64 k]
      [AObj.cells
        [AV.sl 2 (Seq.map T.encEn ([], []) D) Tip.none, AV.sl 2 (Seq.map T.encIt ((0 : Int), []) W) (Tip.tok 1),
        AV.sl 1 (Seq.map T.encSn T.noEv S) (Tip.tok 2)],
        AObj.tok, AObj.tok,
        AObj.cells [AV.int IntKind.i64 (0 : Int), AV.sl 0 (Seq.raw []) Tip.nil, AV.int IntKind.i64 (0 : Int), AV.int IntKind.i64 (0 : Int), AV.sl 0 (Seq.raw []) Tip.nil]]
      fun (r : AV) (H' : List AObj) =>
      ∃ (x : T.Item × List T.Item),
        r = AV.agg [AV.int IntKind.i64 (Prod.fst (Prod.fst x)), AV.str { data := List.toArray (Prod.snd (Prod.fst x)) }] ∧
        H' =
        [AObj.cells
        [AV.sl 2 (Seq.map T.encEn ([], []) D) Tip.none, AV.sl 2 (Seq.map T.encIt ((0 : Int), []) (Prod.snd x)) (Tip.tok 4),
        AV.sl 1 (Seq.map T.encSn T.noEv S) (Tip.tok 2)],
        AObj.gone, AObj.tok,
        AObj.cells [AV.int IntKind.i64 (0 : Int), AV.sl 0 (Seq.raw []) Tip.nil, AV.int IntKind.i64 (0 : Int), AV.int IntKind.i64 (0 : Int), AV.sl 0 (Seq.raw []) Tip.nil],
        AObj.tok] ∧
        ASpec Try.prog 171
        [AV.agg
        [AV.int IntKind.i64 (3 : Int), AV.sl 0 (Seq.raw []) Tip.nil, AV.int IntKind.i64 (0 : Int), AV.int IntKind.i64 (Prod.fst (Prod.fst x)),
        AV.sl 1 (Seq.map encB (0 : UInt8) b) Tip.none]]
        [AObj.cells
        [AV.sl 2 (Seq.map T.encEn ([], []) D) Tip.none, AV.sl 2 (Seq.map T.encIt ((0 : Int), []) (Prod.snd x)) (Tip.tok 4),
        AV.sl 1 (Seq.map T.encSn T.noEv S) (Tip.tok 2)],
        AObj.gone, AObj.tok,
        AObj.cells [AV.int IntKind.i64 (0 : Int), AV.sl 0 (Seq.raw []) Tip.nil, AV.int IntKind.i64 (0 : Int), AV.int IntKind.i64 (0 : Int), AV.sl 0 (Seq.raw []) Tip.nil],
        AObj.tok,
        AObj.cells
        [AV.int IntKind.i64 (3 : Int), AV.sl 0 (Seq.raw []) Tip.nil, AV.int IntKind.i64 (0 : Int), AV.int IntKind.i64 (Prod.fst (Prod.fst x)),
        AV.sl 1 (Seq.map encB (0 : UInt8) b) Tip.none]]
        fun (r : AV) (H' : List AObj) =>
        ∃ (x_1 : Int × List T.Need × Int × Int × List UInt8),
        r =
        AV.agg
        [AV.int IntKind.i64 (Prod.fst x_1), AV.sl 2 (Seq.map T.encN ([], []) (Prod.fst (Prod.snd x_1))) Tip.none, AV.int IntKind.i64 (Prod.fst (Prod.snd (Prod.snd x_1))),
        AV.int IntKind.i64 (Prod.fst (Prod.snd (Prod.snd (Prod.snd x_1)))), AV.sl 1 (Seq.map encB (0 : UInt8) (Prod.snd (Prod.snd (Prod.snd (Prod.snd x_1))))) Tip.none] ∧
        H' =
        [AObj.cells
        [AV.sl 2 (Seq.map T.encEn ([], []) D) Tip.none, AV.sl 2 (Seq.map T.encIt ((0 : Int), []) (Prod.snd x)) (Tip.tok 4),
        AV.sl 1 (Seq.map T.encSn T.noEv S) (Tip.tok 2)],
        AObj.gone, AObj.tok,
        AObj.cells
        [AV.int IntKind.i64 (0 : Int), AV.sl 0 (Seq.raw []) Tip.nil, AV.int IntKind.i64 (0 : Int), AV.int IntKind.i64 (0 : Int), AV.sl 0 (Seq.raw []) Tip.nil],
        AObj.tok,
        AObj.cells
        [AV.int IntKind.i64 (3 : Int), AV.sl 0 (Seq.raw []) Tip.nil, AV.int IntKind.i64 (0 : Int), AV.int IntKind.i64 (Prod.fst (Prod.fst x)),
        AV.sl 1 (Seq.map encB (0 : UInt8) b) Tip.none]] ∧
        (AV.sl 1 (Seq.map T.encSn T.noEv S) (Tip.tok 2) = AV.sl 1 (Seq.map T.encSn T.noEv S) (Tip.tok 2) ∧
        [AObj.cells
        [AV.sl 2 (Seq.map T.encEn ([], []) D) Tip.none, AV.sl 2 (Seq.map T.encIt ((0 : Int), []) (Prod.snd x)) (Tip.tok 4),
        AV.sl 1 (Seq.map T.encSn T.noEv S) (Tip.tok 2)],
        AObj.gone, AObj.tok,
        AObj.cells
        [AV.int IntKind.i64 (0 : Int), AV.sl 0 (Seq.raw []) Tip.nil, AV.int IntKind.i64 (0 : Int), AV.int IntKind.i64 (0 : Int), AV.sl 0 (Seq.raw []) Tip.nil],
        AObj.tok,
        AObj.cells
        [AV.int IntKind.i64 (3 : Int), AV.sl 0 (Seq.raw []) Tip.nil, AV.int IntKind.i64 (0 : Int), AV.int IntKind.i64 (Prod.fst (Prod.fst x)),
        AV.sl 1 (Seq.map encB (0 : UInt8) b) Tip.none]] =
        [AObj.cells
        [AV.sl 2 (Seq.map T.encEn ([], []) D) Tip.none, AV.sl 2 (Seq.map T.encIt ((0 : Int), []) (Prod.snd x)) (Tip.tok 4),
        AV.sl 1 (Seq.map T.encSn T.noEv S) (Tip.tok 2)],
        AObj.gone, AObj.tok,
        AObj.cells
        [AV.int IntKind.i64 (0 : Int), AV.sl 0 (Seq.raw []) Tip.nil, AV.int IntKind.i64 (0 : Int), AV.int IntKind.i64 (0 : Int), AV.sl 0 (Seq.raw []) Tip.nil],
        AObj.tok,
        AObj.cells
        [AV.int IntKind.i64 (3 : Int), AV.sl 0 (Seq.raw []) Tip.nil, AV.int IntKind.i64 (0 : Int), AV.int IntKind.i64 (Prod.fst (Prod.fst x)),
        AV.sl 1 (Seq.map encB (0 : UInt8) b) Tip.none]]) ∧
        needP ((List.length S + 1) * 16 ≤ 140737488351232)
        (Post
        (AV.tup
        [AV.agg
        [AV.int IntKind.i64 (3 : Int), AV.sl 0 (Seq.raw []) Tip.nil, AV.int IntKind.i64 (0 : Int), AV.int IntKind.i64 (Prod.fst (Prod.fst x)),
        AV.sl 1 (Seq.map encB (0 : UInt8) b) Tip.none],
        AV.bool true])
        [AObj.cells
        [AV.sl 2 (Seq.map T.encEn ([], []) D) Tip.none, AV.sl 2 (Seq.map T.encIt ((0 : Int), []) (Prod.snd x)) (Tip.tok 4),
        AV.sl 1
        (Seq.app (Seq.map T.encSn T.noEv S)
        (Seq.raw
        [[AV.iface 68
        (AV.agg
        [AV.int IntKind.i64 (Prod.fst x_1), AV.sl 2 (Seq.map T.encN ([], []) (Prod.fst (Prod.snd x_1))) Tip.none,
        AV.int IntKind.i64 (Prod.fst (Prod.snd (Prod.snd x_1))), AV.int IntKind.i64 (Prod.fst (Prod.snd (Prod.snd (Prod.snd x_1)))),
        AV.sl 1 (Seq.map encB (0 : UInt8) (Prod.snd (Prod.snd (Prod.snd (Prod.snd x_1))))) Tip.none])]]))
        (Tip.tok 6)],
        AObj.gone, AObj.gone,
        AObj.cells
        [AV.int IntKind.i64 (3 : Int), AV.sl 0 (Seq.raw []) Tip.nil, AV.int IntKind.i64 (0 : Int), AV.int IntKind.i64 (Prod.fst (Prod.fst x)),
        AV.sl 1 (Seq.map encB (0 : UInt8) b) Tip.none],
        AObj.tok,
        AObj.cells
        [AV.int IntKind.i64 (3 : Int), AV.sl 0 (Seq.raw []) Tip.nil, AV.int IntKind.i64 (0 : Int), AV.int IntKind.i64 (Prod.fst (Prod.fst x)),
        AV.sl 1 (Seq.map encB (0 : UInt8) b) Tip.none],
        AObj.tok])) →
    ASpec Try.prog 168 [AV.ptr 0 0, AV.int IntKind.i64 k, AV.sl 1 (Seq.map encB (0 : UInt8) b) Tip.none] (T.HS D W S) Post := fun D W S k b Post h => Go.Ab.ASpec.of_vc g168 Go.Proofs.Try.func168 (by kernel_rfl) (by kernel_rfl) (by kernel_rfl) (Go.Ab.kc (by kernel_rfl) h)

-- 169
noncomputable def l169 : Nat → List Nat
  | _ => []
noncomputable def u169 : Nat → Bool
  | _ => false
noncomputable def m169 : Nat → Bool
  | _ => false
noncomputable def g169 : Cfg := { N := 22, live := l169, cut := u169, mu := m169, ret := rets }
theorem s169 : ∀ (D : List T.Ent) (W : List T.Item) (S : List T.Ev) (k : Int) (Post : AV → List AObj → Prop),
  needP ((0 : Int) ≤ k ∧ k < (↑(List.length W) : Int))
      (ASpec Try.prog 61 [AV.sl 2 (Seq.map T.encEn ([], []) D) Tip.none, AV.str { data := List.toArray (Prod.snd (List.getD W (Int.toNat k) ((0 : Int), []))) }]
        [AObj.cells
        [AV.sl 2 (Seq.map T.encEn ([], []) D) Tip.none, AV.sl 2 (Seq.map T.encIt ((0 : Int), []) W) (Tip.tok 1),
        AV.sl 1 (Seq.map T.encSn T.noEv S) (Tip.tok 2)],
        AObj.tok, AObj.tok]
        fun (r : AV) (H' : List AObj) =>
        ∃ (x : List UInt8),
        r = AV.sl 1 (Seq.map encB (0 : UInt8) x) Tip.none ∧
        H' =
        [AObj.cells
        [AV.sl 2 (Seq.map T.encEn ([], []) D) Tip.none, AV.sl 2 (Seq.map T.encIt ((0 : Int), []) W) (Tip.tok 1),
        AV.sl 1 (Seq.map T.encSn T.noEv S) (Tip.tok 2)],
        AObj.tok, AObj.tok] ∧
        ASpec Try.prog 262 [AV.str { data := List.toArray (Prod.snd (List.getD W (Int.toNat k) ((0 : Int), []))) }, AV.sl 1 (Seq.map encB (0 : UInt8) x) Tip.none]
        [AObj.cells
        [AV.sl 2 (Seq.map T.encEn ([], []) D) Tip.none, AV.sl 2 (Seq.map T.encIt ((0 : Int), []) W) (Tip.tok 1),
        AV.sl 1 (Seq.map T.encSn T.noEv S) (Tip.tok 2)],
        AObj.tok, AObj.tok]
        fun (r : AV) (H' : List AObj) =>
        ∃ (x : List UInt8),
        r = AV.sl 1 (Seq.map encB (0 : UInt8) x) Tip.none ∧
        H' =
        [AObj.cells
        [AV.sl 2 (Seq.map T.encEn ([], []) D) Tip.none, AV.sl 2 (Seq.map T.encIt ((0 : Int), []) W) (Tip.tok 1),
        AV.sl 1 (Seq.map T.encSn T.noEv S) (Tip.tok 2)],
        AObj.tok, AObj.tok] ∧
        Post (AV.sl 1 (Seq.map encB (0 : UInt8) x) Tip.none)
        [AObj.cells
        [AV.sl 2 (Seq.map T.encEn ([], []) D) Tip.none, AV.sl 2 (Seq.map T.encIt ((0 : Int), []) W) (Tip.tok 1),
        AV.sl 1 (Seq.map T.encSn T.noEv S) (Tip.tok 2)],
        AObj.tok, AObj.tok]) →
    ASpec Try.prog 169 [AV.ptr 0 0, AV.int IntKind.i64 k] (T.HS D W S) Post := fun D W S k Post h => Go.Ab.ASpec.of_vc g169 Go.Proofs.Try.func169 (by kernel_rfl) (by kernel_rfl) (by kernel_rfl) (Go.Ab.kc (by kernel_rfl) h)

-- 43
noncomputable def l43 : Nat → List Nat
  | _ => []
noncomputable def u43 : Nat → Bool
  | _ => false
noncomputable def m43 : Nat → Bool
  | _ => false
noncomputable def g43 : Cfg := { N := 19, live := l43, cut := u43, mu := m43, ret := rets }
theorem s43 : ∀ (D : List T.Ent) (W : List T.Item) (S : List T.Ev) (k : Int) (Post : AV → List AObj → Prop),
  (ASpec Try.prog 167 [AV.ptr 0 0, AV.int IntKind.i64 k]
      [AObj.cells
        [AV.sl 2 (Seq.map T.encEn ([], []) D) Tip.none, AV.sl 2 (Seq.map T.encIt ((0 : Int), []) W) (Tip.tok 1),
        AV.sl 1 (Seq.map T.encSn T.noEv S) (Tip.tok 2)],
        AObj.tok, AObj.tok,
        AObj.cells [AV.int IntKind.i64 (0 : Int), AV.sl 0 (Seq.raw []) Tip.nil, AV.int IntKind.i64 (0 : Int), AV.int IntKind.i64 (0 : Int), AV.sl 0 (Seq.raw []) Tip.nil]]
      fun (r : AV) (H' : List AObj) =>
      ∃ (x : Bool),
        r = AV.bool x ∧
        H' =
        [AObj.cells
        [AV.sl 2 (Seq.map T.encEn ([], []) D) Tip.none, AV.sl 2 (Seq.map T.encIt ((0 : Int), []) W) (Tip.tok 1),
        AV.sl 1 (Seq.map T.encSn T.noEv S) (Tip.tok 2)],
        AObj.tok, AObj.tok,
        AObj.cells [AV.int IntKind.i64 (0 : Int), AV.sl 0 (Seq.raw []) Tip.nil, AV.int IntKind.i64 (0 : Int), AV.int IntKind.i64 (0 : Int), AV.sl 0 (Seq.raw []) Tip.nil]] ∧
        condP (!x)
        (Post
        (AV.tup
        [AV.agg [AV.int IntKind.i64 (0 : Int), AV.sl 0 (Seq.raw []) Tip.nil, AV.int IntKind.i64 (0 : Int), AV.int IntKind.i64 (0 : Int), AV.sl 0 (Seq.raw []) Tip.nil],
        AV.bool false])
        [AObj.cells
        [AV.sl 2 (Seq.map T.encEn ([], []) D) Tip.none, AV.sl 2 (Seq.map T.encIt ((0 : Int), []) W) (Tip.tok 1),
        AV.sl 1 (Seq.map T.encSn T.noEv S) (Tip.tok 2)],
        AObj.tok, AObj.tok,
        AObj.cells [AV.int IntKind.i64 (0 : Int), AV.sl 0 (Seq.raw []) Tip.nil, AV.int IntKind.i64 (0 : Int), AV.int IntKind.i64 (0 : Int), AV.sl 0 (Seq.raw []) Tip.nil]])
        (ASpec Try.prog 169 [AV.ptr 0 0, AV.int IntKind.i64 k]
        [AObj.cells
        [AV.sl 2 (Seq.map T.encEn ([], []) D) Tip.none, AV.sl 2 (Seq.map T.encIt ((0 : Int), []) W) (Tip.tok 1),
        AV.sl 1 (Seq.map T.encSn T.noEv S) (Tip.tok 2)],
        AObj.tok, AObj.tok,
        AObj.cells [AV.int IntKind.i64 (0 : Int), AV.sl 0 (Seq.raw []) Tip.nil, AV.int IntKind.i64 (0 : Int), AV.int IntKind.i64 (0 : Int), AV.sl 0 (Seq.raw []) Tip.nil]]
        fun (r : AV) (H' : List AObj) =>
        ∃ (x : List UInt8),
        r = AV.sl 1 (Seq.map encB (0 : UInt8) x) Tip.none ∧
        H' =
        [AObj.cells
        [AV.sl 2 (Seq.map T.encEn ([], []) D) Tip.none, AV.sl 2 (Seq.map T.encIt ((0 : Int), []) W) (Tip.tok 1),
        AV.sl 1 (Seq.map T.encSn T.noEv S) (Tip.tok 2)],
        AObj.tok, AObj.tok,
        AObj.cells
        [AV.int IntKind.i64 (0 : Int), AV.sl 0 (Seq.raw []) Tip.nil, AV.int IntKind.i64 (0 : Int), AV.int IntKind.i64 (0 : Int), AV.sl 0 (Seq.raw []) Tip.nil]] ∧
        ASpec Try.prog 168 [AV.ptr 0 0, AV.int IntKind.i64 k, AV.sl 1 (Seq.map encB (0 : UInt8) x) Tip.none]
        [AObj.cells
        [AV.sl 2 (Seq.map T.encEn ([], []) D) Tip.none, AV.sl 2 (Seq.map T.encIt ((0 : Int), []) W) (Tip.tok 1),
        AV.sl 1 (Seq.map T.encSn T.noEv S) (Tip.tok 2)],
        AObj.tok, AObj.tok,
        AObj.cells
        [AV.int IntKind.i64 (0 : Int), AV.sl 0 (Seq.raw []) Tip.nil, AV.int IntKind.i64 (0 : Int), AV.int IntKind.i64 (0 : Int), AV.sl 0 (Seq.raw []) Tip.nil]]
        fun (r : AV) (H' : List AObj) =>
        ∃ (x : T.Ev × Bool × List T.Item × List T.Ev),
        r =
        AV.tup
        [AV.agg
        [AV.int IntKind.i64 (Prod.fst (Prod.fst x)), AV.sl 2 (Seq.map T.encN ([], []) (Prod.fst (Prod.snd (Prod.fst x)))) Tip.none,
        AV.int IntKind.i64 (Prod.fst (Prod.snd (Prod.snd (Prod.fst x)))), AV.int IntKind.i64 (Prod.fst (Prod.snd (Prod.snd (Prod.snd (Prod.fst x))))),
        AV.sl 1 (Seq.map encB (0 : UInt8) (Prod.snd (Prod.snd (Prod.snd (Prod.snd (Prod.fst x)))))) Tip.none],
        AV.bool (Prod.fst (Prod.snd x))] ∧
        H' =
        [AObj.cells
        [AV.sl 2 (Seq.map T.encEn ([], []) D) Tip.none, AV.sl 2 (Seq.map T.encIt ((0 : Int), []) (Prod.fst (Prod.snd (Prod.snd x)))) (Tip.tok 4),
        AV.sl 1 (Seq.map T.encSn T.noEv (Prod.snd (Prod.snd (Prod.snd x)))) (Tip.tok 5)],
        AObj.gone, AObj.gone,
        AObj.cells
        [AV.int IntKind.i64 (0 : Int), AV.sl 0 (Seq.raw []) Tip.nil, AV.int IntKind.i64 (0 : Int), AV.int IntKind.i64 (0 : Int),
        AV.sl 0 (Seq.raw []) Tip.nil],
        AObj.tok, AObj.tok] ∧
        Post
        (AV.tup
        [AV.agg
        [AV.int IntKind.i64 (Prod.fst (Prod.fst x)), AV.sl 2 (Seq.map T.encN ([], []) (Prod.fst (Prod.snd (Prod.fst x)))) Tip.none,
        AV.int IntKind.i64 (Prod.fst (Prod.snd (Prod.snd (Prod.fst x)))), AV.int IntKind.i64 (Prod.fst (Prod.snd (Prod.snd (Prod.snd (Prod.fst x))))),
        AV.sl 1 (Seq.map encB (0 : UInt8) (Prod.snd (Prod.snd (Prod.snd (Prod.snd (Prod.fst x)))))) Tip.none],
        AV.bool (Prod.fst (Prod.snd x))])
        [AObj.cells
        [AV.sl 2 (Seq.map T.encEn ([], []) D) Tip.none, AV.sl 2 (Seq.map T.encIt ((0 : Int), []) (Prod.fst (Prod.snd (Prod.snd x)))) (Tip.tok 4),
        AV.sl 1 (Seq.map T.encSn T.noEv (Prod.snd (Prod.snd (Prod.snd x)))) (Tip.tok 5)],
        AObj.gone, AObj.gone,
        AObj.cells
        [AV.int IntKind.i64 (Prod.fst (Prod.fst x)), AV.sl 2 (Seq.map T.encN ([], []) (Prod.fst (Prod.snd (Prod.fst x)))) Tip.none,
        AV.int IntKind.i64 (Prod.fst (Prod.snd (Prod.snd (Prod.fst x)))), AV.int IntKind.i64 (Prod.fst (Prod.snd (Prod.snd (Prod.snd (Prod.fst x))))),
        AV.sl 1 (Seq.map encB (0 : UInt8) (Prod.snd (Prod.snd (Prod.snd (Prod.snd (Prod.fst x)))))) Tip.none],
        AObj.tok, AObj.tok])) →
    ASpec Try.prog 43 [AV.ptr 0 0, AV.int IntKind.i64 k] (T.HS D W S) Post := fun D W S k Post h => Go.Ab.ASpec.of_vc g43 Go.Proofs.Try.func43 (by kernel_rfl) (by kernel_rfl) (by kernel_rfl) (Go.Ab.kc (by kernel_rfl) h)

-- 46
noncomputable def l46 : Nat → List Nat
  | _ => []
noncomputable def u46 : Nat → Bool
  | _ => false
noncomputable def m46 : Nat → Bool
  | _ => false
noncomputable def g46 : Cfg := { N := 38, live := l46, cut := u46, mu := m46, ret := rets }
theorem s46 : ∀ (D : List T.Ent) (W : List T.Item) (S : List T.Ev) (k : Int) (Post : AV → List AObj → Prop),
  condP (decide (k < (0 : Int)))
      (Post
        (AV.tup
        [AV.agg [AV.int IntKind.i64 (0 : Int), AV.sl 0 (Seq.raw []) Tip.nil, AV.int IntKind.i64 (0 : Int), AV.int IntKind.i64 (0 : Int), AV.sl 0 (Seq.raw []) Tip.nil],
        AV.bool false])
        [AObj.cells
        [AV.sl 2 (Seq.map T.encEn ([], []) D) Tip.none, AV.sl 2 (Seq.map T.encIt ((0 : Int), []) W) (Tip.tok 1),
        AV.sl 1 (Seq.map T.encSn T.noEv S) (Tip.tok 2)],
        AObj.tok, AObj.tok,
        AObj.cells [AV.int IntKind.i64 (0 : Int), AV.sl 0 (Seq.raw []) Tip.nil, AV.int IntKind.i64 (0 : Int), AV.int IntKind.i64 (0 : Int), AV.sl 0 (Seq.raw []) Tip.nil]])
      (condP (decide (k ≥ (↑(List.length S) : Int)))
        (Post
        (AV.tup
        [AV.agg [AV.int IntKind.i64 (0 : Int), AV.sl 0 (Seq.raw []) Tip.nil, AV.int IntKind.i64 (0 : Int), AV.int IntKind.i64 (0 : Int), AV.sl 0 (Seq.raw []) Tip.nil],
        AV.bool false])
        [AObj.cells
        [AV.sl 2 (Seq.map T.encEn ([], []) D) Tip.none, AV.sl 2 (Seq.map T.encIt ((0 : Int), []) W) (Tip.tok 1),
        AV.sl 1 (Seq.map T.encSn T.noEv S) (Tip.tok 2)],
        AObj.tok, AObj.tok,
        AObj.cells [AV.int IntKind.i64 (0 : Int), AV.sl 0 (Seq.raw []) Tip.nil, AV.int IntKind.i64 (0 : Int), AV.int IntKind.i64 (0 : Int), AV.sl 0 (Seq.raw []) Tip.nil]])
        (needP ((0 : Int) ≤ k ∧ k < (↑(List.length S) : Int))
        (ASpec Try.prog 171
        [AV.agg
        [AV.int IntKind.i64 (Prod.fst (List.getD S (Int.toNat k) T.noEv)), AV.sl 2 (Seq.map T.encN ([], []) (Prod.fst (Prod.snd (List.getD S (Int.toNat k) T.noEv)))) Tip.none,
        AV.int IntKind.i64 (Prod.fst (Prod.snd (Prod.snd (List.getD S (Int.toNat k) T.noEv)))),
        AV.int IntKind.i64 (Prod.fst (Prod.snd (Prod.snd (Prod.snd (List.getD S (Int.toNat k) T.noEv))))),
        AV.sl 1 (Seq.map encB (0 : UInt8) (Prod.snd (Prod.snd (Prod.snd (Prod.snd (List.getD S (Int.toNat k) T.noEv)))))) Tip.none]]
        [AObj.cells
        [AV.sl 2 (Seq.map T.encEn ([], []) D) Tip.none, AV.sl 2 (Seq.map T.encIt ((0 : Int), []) W) (Tip.tok 1),
        AV.sl 1 (Seq.map T.encSn T.noEv S) (Tip.tok 2)],
        AObj.tok, AObj.tok,
        AObj.cells [AV.int IntKind.i64 (0 : Int), AV.sl 0 (Seq.raw []) Tip.nil, AV.int IntKind.i64 (0 : Int), AV.int IntKind.i64 (0 : Int), AV.sl 0 (Seq.raw []) Tip.nil],
        AObj.cells
        [AV.int IntKind.i64 (Prod.fst (List.getD S (Int.toNat k) T.noEv)), AV.sl 2 (Seq.map T.encN ([], []) (Prod.fst (Prod.snd (List.getD S (Int.toNat k) T.noEv)))) Tip.none,
        AV.int IntKind.i64 (Prod.fst (Prod.snd (Prod.snd (List.getD S (Int.toNat k) T.noEv)))),
        AV.int IntKind.i64 (Prod.fst (Prod.snd (Prod.snd (Prod.snd (List.getD S (Int.toNat k) T.noEv))))),
        AV.sl 1 (Seq.map encB (0 : UInt8) (Prod.snd (Prod.snd (Prod.snd (Prod.snd (List.getD S (Int.toNat k) T.noEv)))))) Tip.none]]
        fun (r : AV) (H' : List AObj) =>
        ∃ (x : Int × List T.Need × Int × Int × List UInt8),
        r =
        AV.agg
        [AV.int IntKind.i64 (Prod.fst x), AV.sl 2 (Seq.map T.encN ([], []) (Prod.fst (Prod.snd x))) Tip.none, AV.int IntKind.i64 (Prod.fst (Prod.snd (Prod.snd x))),
        AV.int IntKind.i64 (Prod.fst (Prod.snd (Prod.snd (Prod.snd x)))), AV.sl 1 (Seq.map encB (0 : UInt8) (Prod.snd (Prod.snd (Prod.snd (Prod.snd x))))) Tip.none] ∧
        H' =
        [AObj.cells
        [AV.sl 2 (Seq.map T.encEn ([], []) D) Tip.none, AV.sl 2 (Seq.map T.encIt ((0 : Int), []) W) (Tip.tok 1),
        AV.sl 1 (Seq.map T.encSn T.noEv S) (Tip.tok 2)],
        AObj.tok, AObj.tok,
        AObj.cells [AV.int IntKind.i64 (0 : Int), AV.sl 0 (Seq.raw []) Tip.nil, AV.int IntKind.i64 (0 : Int), AV.int IntKind.i64 (0 : Int), AV.sl 0 (Seq.raw []) Tip.nil],
        AObj.cells
        [AV.int IntKind.i64 (Prod.fst (List.getD S (Int.toNat k) T.noEv)), AV.sl 2 (Seq.map T.encN ([], []) (Prod.fst (Prod.snd (List.getD S (Int.toNat k) T.noEv)))) Tip.none,
        AV.int IntKind.i64 (Prod.fst (Prod.snd (Prod.snd (List.getD S (Int.toNat k) T.noEv)))),
        AV.int IntKind.i64 (Prod.fst (Prod.snd (Prod.snd (Prod.snd (List.getD S (Int.toNat k) T.noEv))))),
        AV.sl 1 (Seq.map encB (0 : UInt8) (Prod.snd (Prod.snd (Prod.snd (Prod.snd (List.getD S (Int.toNat k) T.noEv)))))) Tip.none]] ∧
        Post
        (AV.tup
        [AV.agg
        [AV.int IntKind.i64 (Prod.fst x), AV.sl 2 (Seq.map T.encN ([], []) (Prod.fst (Prod.snd x))) Tip.none, AV.int IntKind.i64 (Prod.fst (Prod.snd (Prod.snd x))),
        AV.int IntKind.i64 (Prod.fst (Prod.snd (Prod.snd (Prod.snd x)))), AV.sl 1 (Seq.map encB (0 : UInt8) (Prod.snd (Prod.snd (Prod.snd (Prod.snd x))))) Tip.none],
        AV.bool true])
        [AObj.cells
        [AV.sl 2 (Seq.map T.encEn ([], []) D) Tip.none, AV.sl 2 (Seq.map T.encIt ((0 : Int), []) W) (Tip.tok 1),
        AV.sl 1 (Seq.map T.encSn T.noEv S) (Tip.tok 2)],
        AObj.tok, AObj.tok,
        AObj.cells
        [AV.int IntKind.i64 (Prod.fst x), AV.sl 2 (Seq.map T.encN ([], []) (Prod.fst (Prod.snd x))) Tip.none, AV.int IntKind.i64 (Prod.fst (Prod.snd (Prod.snd x))),
        AV.int IntKind.i64 (Prod.fst (Prod.snd (Prod.snd (Prod.snd x)))), AV.sl 1 (Seq.map encB (0 : UInt8) (Prod.snd (Prod.snd (Prod.snd (Prod.snd x))))) Tip.none],
        AObj.cells
        [AV.int IntKind.i64 (Prod.fst (List.getD S (Int.toNat k) T.noEv)), AV.sl 2 (Seq.map T.encN ([], []) (Prod.fst (Prod.snd (List.getD S (Int.toNat k) T.noEv)))) Tip.none,
        AV.int IntKind.i64 (Prod.fst (Prod.snd (Prod.snd (List.getD S (Int.toNat k) T.noEv)))),
        AV.int IntKind.i64 (Prod.fst (Prod.snd (Prod.snd (Prod.snd (List.getD S (Int.toNat k) T.noEv))))),
        AV.sl 1 (Seq.map encB (0 : UInt8) (Prod.snd (Prod.snd (Prod.snd (Prod.snd (List.getD S (Int.toNat k) T.noEv)))))) Tip.none]]))) →
    ASpec Try.prog 46 [AV.ptr 0 0, AV.int IntKind.i64 k] (T.HS D W S) Post := fun D W S k Post h => Go.Ab.ASpec.of_vc g46 Go.Proofs.Try.func46 (by kernel_rfl) (by kernel_rfl) (by kernel_rfl) (Go.Ab.kc (by kernel_rfl) h)

-- 48
noncomputable def l48 : Nat → List Nat
  | _ => []
noncomputable def u48 : Nat → Bool
  | _ => false
noncomputable def m48 : Nat → Bool
  | _ => false
noncomputable def g48 : Cfg := { N := 40, live := l48, cut := u48, mu := m48, ret := rets }
theorem s48 : ∀ (a b : T.Ev) (Post : AV → List AObj → Prop),
  condP (Prod.fst a == Prod.fst b)
      (ASpec Try.prog 173 [AV.sl 2 (Seq.map T.encN ([], []) (Prod.fst (Prod.snd a))) Tip.none, AV.sl 2 (Seq.map T.encN ([], []) (Prod.fst (Prod.snd b))) Tip.none]
        [AObj.cells
        [AV.int IntKind.i64 (Prod.fst a), AV.sl 2 (Seq.map T.encN ([], []) (Prod.fst (Prod.snd a))) Tip.none, AV.int IntKind.i64 (Prod.fst (Prod.snd (Prod.snd a))),
        AV.int IntKind.i64 (Prod.fst (Prod.snd (Prod.snd (Prod.snd a)))), AV.sl 1 (Seq.map encB (0 : UInt8) (Prod.snd (Prod.snd (Prod.snd (Prod.snd a))))) Tip.none],
        AObj.cells
        [AV.int IntKind.i64 (Prod.fst b), AV.sl 2 (Seq.map T.encN ([], []) (Prod.fst (Prod.snd b))) Tip.none, AV.int IntKind.i64 (Prod.fst (Prod.snd (Prod.snd b))),
        AV.int IntKind.i64 (Prod.fst (Prod.snd (Prod.snd (Prod.snd b)))), AV.sl 1 (Seq.map encB (0 : UInt8) (Prod.snd (Prod.snd (Prod.snd (Prod.snd b))))) Tip.none]]
        fun (r : AV) (H' : List AObj) =>
        ∃ (x : Bool),
        r = AV.bool x ∧
        H' =
        [AObj.cells
        [AV.int IntKind.i64 (Prod.fst a), AV.sl 2 (Seq.map T.encN ([], []) (Prod.fst (Prod.snd a))) Tip.none, AV.int IntKind.i64 (Prod.fst (Prod.snd (Prod.snd a))),
        AV.int IntKind.i64 (Prod.fst (Prod.snd (Prod.snd (Prod.snd a)))), AV.sl 1 (Seq.map encB (0 : UInt8) (Prod.snd (Prod.snd (Prod.snd (Prod.snd a))))) Tip.none],
        AObj.cells
        [AV.int IntKind.i64 (Prod.fst b), AV.sl 2 (Seq.map T.encN ([], []) (Prod.fst (Prod.snd b))) Tip.none, AV.int IntKind.i64 (Prod.fst (Prod.snd (Prod.snd b))),
        AV.int IntKind.i64 (Prod.fst (Prod.snd (Prod.snd (Prod.snd b)))), AV.sl 1 (Seq.map encB (0 : UInt8) (Prod.snd (Prod.snd (Prod.snd (Prod.snd b))))) Tip.none]] ∧
        condP x
        (condP (Prod.fst (Prod.snd (Prod.snd a)) == Prod.fst (Prod.snd (Prod.snd b)))
        (condP (Prod.fst (Prod.snd (Prod.snd (Prod.snd a))) == Prod.fst (Prod.snd (Prod.snd (Prod.snd b))))
        (needP (allBytes (Seq.map encB (0 : UInt8) (Prod.snd (Prod.snd (Prod.snd (Prod.snd a))))))
        (needP (allBytes (Seq.map encB (0 : UInt8) (Prod.snd (Prod.snd (Prod.snd (Prod.snd b))))))
        (Post
        (AV.bool
        (ByteArray.toList (bytesOf (Seq.map encB (0 : UInt8) (Prod.snd (Prod.snd (Prod.snd (Prod.snd a)))))) ==
        ByteArray.toList (bytesOf (Seq.map encB (0 : UInt8) (Prod.snd (Prod.snd (Prod.snd (Prod.snd b))))))))
        [AObj.cells
        [AV.int IntKind.i64 (Prod.fst a), AV.sl 2 (Seq.map T.encN ([], []) (Prod.fst (Prod.snd a))) Tip.none, AV.int IntKind.i64 (Prod.fst (Prod.snd (Prod.snd a))),
        AV.int IntKind.i64 (Prod.fst (Prod.snd (Prod.snd (Prod.snd a)))), AV.sl 1 (Seq.map encB (0 : UInt8) (Prod.snd (Prod.snd (Prod.snd (Prod.snd a))))) Tip.none],
        AObj.cells
        [AV.int IntKind.i64 (Prod.fst b), AV.sl 2 (Seq.map T.encN ([], []) (Prod.fst (Prod.snd b))) Tip.none, AV.int IntKind.i64 (Prod.fst (Prod.snd (Prod.snd b))),
        AV.int IntKind.i64 (Prod.fst (Prod.snd (Prod.snd (Prod.snd b)))), AV.sl 1 (Seq.map encB (0 : UInt8) (Prod.snd (Prod.snd (Prod.snd (Prod.snd b))))) Tip.none]])))
        (Post (AV.bool false)
        [AObj.cells
        [AV.int IntKind.i64 (Prod.fst a), AV.sl 2 (Seq.map T.encN ([], []) (Prod.fst (Prod.snd a))) Tip.none, AV.int IntKind.i64 (Prod.fst (Prod.snd (Prod.snd a))),
        AV.int IntKind.i64 (Prod.fst (Prod.snd (Prod.snd (Prod.snd a)))), AV.sl 1 (Seq.map encB (0 : UInt8) (Prod.snd (Prod.snd (Prod.snd (Prod.snd a))))) Tip.none],
        AObj.cells
        [AV.int IntKind.i64 (Prod.fst b), AV.sl 2 (Seq.map T.encN ([], []) (Prod.fst (Prod.snd b))) Tip.none, AV.int IntKind.i64 (Prod.fst (Prod.snd (Prod.snd b))),
        AV.int IntKind.i64 (Prod.fst (Prod.snd (Prod.snd (Prod.snd b)))), AV.sl 1 (Seq.map encB (0 : UInt8) (Prod.snd (Prod.snd (Prod.snd (Prod.snd b))))) Tip.none]]))
        (Post (AV.bool false)
        [AObj.cells
        [AV.int IntKind.i64 (Prod.fst a), AV.sl 2 (Seq.map T.encN ([], []) (Prod.fst (Prod.snd a))) Tip.none, AV.int IntKind.i64 (Prod.fst (Prod.snd (Prod.snd a))),
        AV.int IntKind.i64 (Prod.fst (Prod.snd (Prod.snd (Prod.snd a)))), AV.sl 1 (Seq.map encB (0 : UInt8) (Prod.snd (Prod.snd (Prod.snd (Prod.snd a))))) Tip.none],
        AObj.cells
        [AV.int IntKind.i64 (Prod.fst b), AV.sl 2 (Seq.map T.encN ([], []) (Prod.fst (Prod.snd b))) Tip.none, AV.int IntKind.i64 (Prod.fst (Prod.snd (Prod.snd b))),
        AV.int IntKind.i64 (Prod.fst (Prod.snd (Prod.snd (Prod.snd b)))), AV.sl 1 (Seq.map encB (0 : UInt8) (Prod.snd (Prod.snd (Prod.snd (Prod.snd b))))) Tip.none]]))
        (Post (AV.bool false)
        [AObj.cells
        [AV.int IntKind.i64 (Prod.fst a), AV.sl 2 (Seq.map T.encN ([], []) (Prod.fst (Prod.snd a))) Tip.none, AV.int IntKind.i64 (Prod.fst (Prod.snd (Prod.snd a))),
        AV.int IntKind.i64 (Prod.fst (Prod.snd (Prod.snd (Prod.snd a)))), AV.sl 1 (Seq.map encB (0 : UInt8) (Prod.snd (Prod.snd (Prod.snd (Prod.snd a))))) Tip.none],
        AObj.cells
        [AV.int IntKind.i64 (Prod.fst b), AV.sl 2 (Seq.map T.encN ([], []) (Prod.fst (Prod.snd b))) Tip.none, AV.int IntKind.i64 (Prod.fst (Prod.snd (Prod.snd b))),
        AV.int IntKind.i64 (Prod.fst (Prod.snd (Prod.snd (Prod.snd b)))), AV.sl 1 (Seq.map encB (0 : UInt8) (Prod.snd (Prod.snd (Prod.snd (Prod.snd b))))) Tip.none]]))
      (Post (AV.bool false)
        [AObj.cells
        [AV.int IntKind.i64 (Prod.fst a), AV.sl 2 (Seq.map T.encN ([], []) (Prod.fst (Prod.snd a))) Tip.none, AV.int IntKind.i64 (Prod.fst (Prod.snd (Prod.snd a))),
        AV.int IntKind.i64 (Prod.fst (Prod.snd (Prod.snd (Prod.snd a)))), AV.sl 1 (Seq.map encB (0 : UInt8) (Prod.snd (Prod.snd (Prod.snd (Prod.snd a))))) Tip.none],
        AObj.cells
        [AV.int IntKind.i64 (Prod.fst b), AV.sl 2 (Seq.map T.encN ([], []) (Prod.fst (Prod.snd b))) Tip.none, AV.int IntKind.i64 (Prod.fst (Prod.snd (Prod.snd b))),
        AV.int IntKind.i64 (Prod.fst (Prod.snd (Prod.snd (Prod.snd b)))), AV.sl 1 (Seq.map encB (0 : UInt8) (Prod.snd (Prod.snd (Prod.snd (Prod.snd b))))) Tip.none]]) →
    ASpec Try.prog 48 [AV.agg (T.encE a), AV.agg (T.encE b)] [] Post := fun a b Post h => Go.Ab.ASpec.of_vc g48 Go.Proofs.Try.func48 (by kernel_rfl) (by kernel_rfl) (by kernel_rfl) (Go.Ab.kc (by kernel_rfl) h)

-- 40
noncomputable def l40 : Nat → List Nat
  | _ => []
noncomputable def u40 : Nat → Bool
  | _ => false
noncomputable def m40 : Nat → Bool
  | _ => false
noncomputable def g40 : Cfg := { N := 44, live := l40, cut := u40, mu := m40, ret := rets }
theorem s40 : ∀ (Post : AV → List AObj → Prop),
  (ASpec Try.prog 41 [AV.sl 0 (Seq.raw []) Tip.nil] [] fun (r : AV) (H' : List AObj) =>
      (∃ (x : List T.Ent),
        r = AV.ptr 0 0 ∧
        H' =
        [AObj.cells
        [AV.sl 2 (Seq.map T.encEn ([], []) x) Tip.none, AV.sl 2 (Seq.map T.encIt ((0 : Int), []) []) (Tip.tok 1),
        AV.sl 1 (Seq.map T.encSn T.noEv []) (Tip.tok 2)],
        AObj.tok, AObj.tok] ∧
        ASpec Try.prog 42
        [AV.ptr 0 0,
        AV.sl 7
        (Seq.raw
        [[AV.int IntKind.i64 (1 : Int), AV.int IntKind.i64 (1 : Int), AV.str { data := #[(97 : UInt8)] }, AV.int IntKind.i64 (0 : Int), AV.int IntKind.i64 (0 : Int),
        AV.sl 0 (Seq.raw []) Tip.nil, AV.sl 0 (Seq.raw []) Tip.nil]])
        Tip.full]
        [AObj.cells
        [AV.sl 2 (Seq.map T.encEn ([], []) x) Tip.none, AV.sl 2 (Seq.map T.encIt ((0 : Int), []) []) (Tip.tok 1),
        AV.sl 1 (Seq.map T.encSn T.noEv []) (Tip.tok 2)],
        AObj.tok, AObj.tok]
        fun (r : AV) (H' : List AObj) =>
        ∃ (x_1 : Int × List T.Item),
        r = AV.int IntKind.i64 (Prod.fst x_1) ∧
        H' =
        [AObj.cells
        [AV.sl 2 (Seq.map T.encEn ([], []) x) Tip.none, AV.sl 2 (Seq.map T.encIt ((0 : Int), []) (Prod.snd x_1)) (Tip.tok 3),
        AV.sl 1 (Seq.map T.encSn T.noEv []) (Tip.tok 2)],
        AObj.gone, AObj.tok, AObj.tok] ∧
        ASpec Try.prog 43 [AV.ptr 0 0, AV.int IntKind.i64 (0 : Int)]
        [AObj.cells
        [AV.sl 2 (Seq.map T.encEn ([], []) x) Tip.none, AV.sl 2 (Seq.map T.encIt ((0 : Int), []) (Prod.snd x_1)) (Tip.tok 3),
        AV.sl 1 (Seq.map T.encSn T.noEv []) (Tip.tok 2)],
        AObj.gone, AObj.tok, AObj.tok]
        fun (r : AV) (H' : List AObj) =>
        (∃ (x_2 : T.Ev × Bool × List T.Item × List T.Ev),
        r =
        AV.tup
        [AV.agg
        [AV.int IntKind.i64 (Prod.fst (Prod.fst x_2)), AV.sl 2 (Seq.map T.encN ([], []) (Prod.fst (Prod.snd (Prod.fst x_2)))) Tip.none,
        AV.int IntKind.i64 (Prod.fst (Prod.snd (Prod.snd (Prod.fst x_2)))), AV.int IntKind.i64 (Prod.fst (Prod.snd (Prod.snd (Prod.snd (Prod.fst x_2))))),
        AV.sl 1 (Seq.map encB (0 : UInt8) (Prod.snd (Prod.snd (Prod.snd (Prod.snd (Prod.fst x_2)))))) Tip.none],
        AV.bool (Prod.fst (Prod.snd x_2))] ∧
        H' =
        [AObj.cells
        [AV.sl 2 (Seq.map T.encEn ([], []) x) Tip.none,
        AV.sl 2 (Seq.map T.encIt ((0 : Int), []) (Prod.fst (Prod.snd (Prod.snd x_2)))) (Tip.tok 4),
        AV.sl 1 (Seq.map T.encSn T.noEv (Prod.snd (Prod.snd (Prod.snd x_2)))) (Tip.tok 5)],
        AObj.gone, AObj.gone, AObj.gone, AObj.tok, AObj.tok] ∧
        needP (allBytes (Seq.map encB (0 : UInt8) (Prod.snd (Prod.snd (Prod.snd (Prod.snd (Prod.fst x_2)))))))
        (ASpec Try.prog 45 [AV.str (bytesOf (Seq.map encB (0 : UInt8) (Prod.snd (Prod.snd (Prod.snd (Prod.snd (Prod.fst x_2)))))))]
        [AObj.cells
        [AV.sl 2 (Seq.map T.encEn ([], []) x) Tip.none,
        AV.sl 2 (Seq.map T.encIt ((0 : Int), []) (Prod.fst (Prod.snd (Prod.snd x_2)))) (Tip.tok 4),
        AV.sl 1 (Seq.map T.encSn T.noEv (Prod.snd (Prod.snd (Prod.snd x_2)))) (Tip.tok 5)],
        AObj.gone, AObj.gone, AObj.gone, AObj.tok, AObj.tok,
        AObj.cells
        [AV.int IntKind.i64 (Prod.fst (Prod.fst x_2)), AV.sl 2 (Seq.map T.encN ([], []) (Prod.fst (Prod.snd (Prod.fst x_2)))) Tip.none,
        AV.int IntKind.i64 (Prod.fst (Prod.snd (Prod.snd (Prod.fst x_2)))), AV.int IntKind.i64 (Prod.fst (Prod.snd (Prod.snd (Prod.snd (Prod.fst x_2))))),
        AV.sl 1 (Seq.map encB (0 : UInt8) (Prod.snd (Prod.snd (Prod.snd (Prod.snd (Prod.fst x_2)))))) Tip.none]]
        fun (r : AV) (H' : List AObj) =>
        ∃ (x_3 : ByteArray × ByteArray × Int),
        r = AV.tup [AV.str (Prod.fst x_3), AV.str (Prod.fst (Prod.snd x_3)), AV.int IntKind.i64 (Prod.snd (Prod.snd x_3))] ∧
        H' =
        [AObj.cells
        [AV.sl 2 (Seq.map T.encEn ([], []) x) Tip.none,
        AV.sl 2 (Seq.map T.encIt ((0 : Int), []) (Prod.fst (Prod.snd (Prod.snd x_2)))) (Tip.tok 4),
        AV.sl 1 (Seq.map T.encSn T.noEv (Prod.snd (Prod.snd (Prod.snd x_2)))) (Tip.tok 5)],
        AObj.gone, AObj.gone, AObj.gone, AObj.tok, AObj.tok,
        AObj.cells
        [AV.int IntKind.i64 (Prod.fst (Prod.fst x_2)), AV.sl 2 (Seq.map T.encN ([], []) (Prod.fst (Prod.snd (Prod.fst x_2)))) Tip.none,
        AV.int IntKind.i64 (Prod.fst (Prod.snd (Prod.snd (Prod.fst x_2)))), AV.int IntKind.i64 (Prod.fst (Prod.snd (Prod.snd (Prod.snd (Prod.fst x_2))))),
        AV.sl 1 (Seq.map encB (0 : UInt8) (Prod.snd (Prod.snd (Prod.snd (Prod.snd (Prod.fst x_2)))))) Tip.none]] ∧
        condP (Prod.fst x_1 == (1 : Int))
        (condP (Prod.fst (Prod.snd x_2))
        (condP (Prod.fst (Prod.snd (Prod.snd (Prod.snd (Prod.fst x_2)))) == (1 : Int))
        (condP (ByteArray.toList (Prod.fst x_3) == ByteArray.toList { data := #[(97 : UInt8)] })
        (Post (AV.bool (Prod.snd (Prod.snd x_3) == (0 : Int)))
        [AObj.cells
        [AV.sl 2 (Seq.map T.encEn ([], []) x) Tip.none,
        AV.sl 2 (Seq.map T.encIt ((0 : Int), []) (Prod.fst (Prod.snd (Prod.snd x_2)))) (Tip.tok 4),
        AV.sl 1 (Seq.map T.encSn T.noEv (Prod.snd (Prod.snd (Prod.snd x_2)))) (Tip.tok 5)],
        AObj.gone, AObj.gone, AObj.gone, AObj.tok, AObj.tok,
        AObj.cells
        [AV.int IntKind.i64 (Prod.fst (Prod.fst x_2)), AV.sl 2 (Seq.map T.encN ([], []) (Prod.fst (Prod.snd (Prod.fst x_2)))) Tip.none,
        AV.int IntKind.i64 (Prod.fst (Prod.snd (Prod.snd (Prod.fst x_2)))),
        AV.int IntKind.i64 (Prod.fst (Prod.snd (Prod.snd (Prod.snd (Prod.fst x_2))))),
        AV.sl 1 (Seq.map encB (0 : UInt8) (Prod.snd (Prod.snd (Prod.snd (Prod.snd (Prod.fst x_2)))))) Tip.none]])
        (Post (AV.bool false)
        [AObj.cells
        [AV.sl 2 (Seq.map T.encEn ([], []) x) Tip.none,
        AV.sl 2 (Seq.map T.encIt ((0 : Int), []) (Prod.fst (Prod.snd (Prod.snd x_2)))) (Tip.tok 4),
        AV.sl 1 (Seq.map T.encSn T.noEv (Prod.snd (Prod.snd (Prod.snd x_2)))) (Tip.tok 5)],
        AObj.gone, AObj.gone, AObj.gone, AObj.tok, AObj.tok,
        AObj.cells
        [AV.int IntKind.i64 (Prod.fst (Prod.fst x_2)), AV.sl 2 (Seq.map T.encN ([], []) (Prod.fst (Prod.snd (Prod.fst x_2)))) Tip.none,
        AV.int IntKind.i64 (Prod.fst (Prod.snd (Prod.snd (Prod.fst x_2)))),
        AV.int IntKind.i64 (Prod.fst (Prod.snd (Prod.snd (Prod.snd (Prod.fst x_2))))),
        AV.sl 1 (Seq.map encB (0 : UInt8) (Prod.snd (Prod.snd (Prod.snd (Prod.snd (Prod.fst x_2)))))) Tip.none]]))
        (Post (AV.bool false)
        [AObj.cells
        [AV.sl 2 (Seq.map T.encEn ([], []) x) Tip.none,
        AV.sl 2 (Seq.map T.encIt ((0 : Int), []) (Prod.fst (Prod.snd (Prod.snd x_2)))) (Tip.tok 4),
        AV.sl 1 (Seq.map T.encSn T.noEv (Prod.snd (Prod.snd (Prod.snd x_2)))) (Tip.tok 5)],
        AObj.gone, AObj.gone, AObj.gone, AObj.tok, AObj.tok,
        AObj.cells
        [AV.int IntKind.i64 (Prod.fst (Prod.fst x_2)), AV.sl 2 (Seq.map T.encN ([], []) (Prod.fst (Prod.snd (Prod.fst x_2)))) Tip.none,
        AV.int IntKind.i64 (Prod.fst (Prod.snd (Prod.snd (Prod.fst x_2)))),
        AV.int IntKind.i64 (Prod.fst (Prod.snd (Prod.snd (Prod.snd (Prod.fst x_2))))),
        AV.sl 1 (Seq.map encB (0 : UInt8) (Prod.snd (Prod.snd (Prod.snd (Prod.snd (Prod.fst x_2)))))) Tip.none]]))
        (Post (AV.bool false)
        [AObj.cells
        [AV.sl 2 (Seq.map T.encEn ([], []) x) Tip.none,
        AV.sl 2 (Seq.map T.encIt ((0 : Int), []) (Prod.fst (Prod.snd (Prod.snd x_2)))) (Tip.tok 4),
        AV.sl 1 (Seq.map T.encSn T.noEv (Prod.snd (Prod.snd (Prod.snd x_2)))) (Tip.tok 5)],
        AObj.gone, AObj.gone, AObj.gone, AObj.tok, AObj.tok,
        AObj.cells
        [AV.int IntKind.i64 (Prod.fst (Prod.fst x_2)), AV.sl 2 (Seq.map T.encN ([], []) (Prod.fst (Prod.snd (Prod.fst x_2)))) Tip.none,
        AV.int IntKind.i64 (Prod.fst (Prod.snd (Prod.snd (Prod.fst x_2)))), AV.int IntKind.i64 (Prod.fst (Prod.snd (Prod.snd (Prod.snd (Prod.fst x_2))))),
        AV.sl 1 (Seq.map encB (0 : UInt8) (Prod.snd (Prod.snd (Prod.snd (Prod.snd (Prod.fst x_2)))))) Tip.none]]))
        (Post (AV.bool false)
        [AObj.cells
        [AV.sl 2 (Seq.map T.encEn ([], []) x) Tip.none,
        AV.sl 2 (Seq.map T.encIt ((0 : Int), []) (Prod.fst (Prod.snd (Prod.snd x_2)))) (Tip.tok 4),
        AV.sl 1 (Seq.map T.encSn T.noEv (Prod.snd (Prod.snd (Prod.snd x_2)))) (Tip.tok 5)],
        AObj.gone, AObj.gone, AObj.gone, AObj.tok, AObj.tok,
        AObj.cells
        [AV.int IntKind.i64 (Prod.fst (Prod.fst x_2)), AV.sl 2 (Seq.map T.encN ([], []) (Prod.fst (Prod.snd (Prod.fst x_2)))) Tip.none,
        AV.int IntKind.i64 (Prod.fst (Prod.snd (Prod.snd (Prod.fst x_2)))), AV.int IntKind.i64 (Prod.fst (Prod.snd (Prod.snd (Prod.snd (Prod.fst x_2))))),
        AV.sl 1 (Seq.map encB (0 : UInt8) (Prod.snd (Prod.snd (Prod.snd (Prod.snd (Prod.fst x_2)))))) Tip.none]]))) ∨
        ∃ (x_2 : T.Ev × Bool),
        r =
        AV.tup
        [AV.agg
        [AV.int IntKind.i64 (Prod.fst (Prod.fst x_2)), AV.sl 2 (Seq.map T.encN ([], []) (Prod.fst (Prod.snd (Prod.fst x_2)))) Tip.none,
        AV.int IntKind.i64 (Prod.fst (Prod.snd (Prod.snd (Prod.fst x_2)))), AV.int IntKind.i64 (Prod.fst (Prod.snd (Prod.snd (Prod.snd (Prod.fst x_2))))),
        AV.sl 1 (Seq.map encB (0 : UInt8) (Prod.snd (Prod.snd (Prod.snd (Prod.snd (Prod.fst x_2)))))) Tip.none],
        AV.bool (Prod.snd x_2)] ∧
        H' =
        [AObj.cells
        [AV.sl 2 (Seq.map T.encEn ([], []) x) Tip.none, AV.sl 2 (Seq.map T.encIt ((0 : Int), []) (Prod.snd x_1)) (Tip.tok 3),
        AV.sl 1 (Seq.map T.encSn T.noEv []) (Tip.tok 2)],
        AObj.gone, AObj.tok, AObj.tok] ∧
        needP (allBytes (Seq.map encB (0 : UInt8) (Prod.snd (Prod.snd (Prod.snd (Prod.snd (Prod.fst x_2)))))))
        (ASpec Try.prog 45 [AV.str (bytesOf (Seq.map encB (0 : UInt8) (Prod.snd (Prod.snd (Prod.snd (Prod.snd (Prod.fst x_2)))))))]
        [AObj.cells
        [AV.sl 2 (Seq.map T.encEn ([], []) x) Tip.none, AV.sl 2 (Seq.map T.encIt ((0 : Int), []) (Prod.snd x_1)) (Tip.tok 3),
        AV.sl 1 (Seq.map T.encSn T.noEv []) (Tip.tok 2)],
        AObj.gone, AObj.tok, AObj.tok,
        AObj.cells
        [AV.int IntKind.i64 (Prod.fst (Prod.fst x_2)), AV.sl 2 (Seq.map T.encN ([], []) (Prod.fst (Prod.snd (Prod.fst x_2)))) Tip.none,
        AV.int IntKind.i64 (Prod.fst (Prod.snd (Prod.snd (Prod.fst x_2)))), AV.int IntKind.i64 (Prod.fst (Prod.snd (Prod.snd (Prod.snd (Prod.fst x_2))))),
        AV.sl 1 (Seq.map encB (0 : UInt8) (Prod.snd (Prod.snd (Prod.snd (Prod.snd (Prod.fst x_2)))))) Tip.none]]
        fun (r : AV) (H' : List AObj) =>
        ∃ (x_3 : ByteArray × ByteArray × Int),
        r = AV.tup [AV.str (Prod.fst x_3), AV.str (Prod.fst (Prod.snd x_3)), AV.int IntKind.i64 (Prod.snd (Prod.snd x_3))] ∧
        H' =
        [AObj.cells
        [AV.sl 2 (Seq.map T.encEn ([], []) x) Tip.none, AV.sl 2 (Seq.map T.encIt ((0 : Int), []) (Prod.snd x_1)) (Tip.tok 3),
        AV.sl 1 (Seq.map T.encSn T.noEv []) (Tip.tok 2)],
        AObj.gone, AObj.tok, AObj.tok,
        AObj.cells
        [AV.int IntKind.i64 (Prod.fst (Prod.fst x_2)), AV.sl 2 (Seq.map T.encN ([], []) (Prod.fst (Prod.snd (Prod.fst x_2)))) Tip.none,
        AV.int IntKind.i64 (Prod.fst (Prod.snd (Prod.snd (Prod.fst x_2)))), AV.int IntKind.i64 (Prod.fst (Prod.snd (Prod.snd (Prod.snd (Prod.fst x_2))))),
        AV.sl 1 (Seq.map encB (0 : UInt8) (Prod.snd (Prod.snd (Prod.snd (Prod.snd (Prod.fst x_2)))))) Tip.none]] ∧
        condP (Prod.fst x_1 == (1 : Int))
        (condP (Prod.snd x_2)
        (condP (Prod.fst (Prod.snd (Prod.snd (Prod.snd (Prod.fst x_2)))) == (1 : Int))
        (condP (ByteArray.toList (Prod.fst x_3) == ByteArray.toList { data := #[(97 : UInt8)] })
        (Post (AV.bool (Prod.snd (Prod.snd x_3) == (0 : Int)))
        [AObj.cells
        [AV.sl 2 (Seq.map T.encEn ([], []) x) Tip.none, AV.sl 2 (Seq.map T.encIt ((0 : Int), []) (Prod.snd x_1)) (Tip.tok 3),
        AV.sl 1 (Seq.map T.encSn T.noEv []) (Tip.tok 2)],
        AObj.gone, AObj.tok, AObj.tok,
        AObj.cells
        [AV.int IntKind.i64 (Prod.fst (Prod.fst x_2)), AV.sl 2 (Seq.map T.encN ([], []) (Prod.fst (Prod.snd (Prod.fst x_2)))) Tip.none,
        AV.int IntKind.i64 (Prod.fst (Prod.snd (Prod.snd (Prod.fst x_2)))),
        AV.int IntKind.i64 (Prod.fst (Prod.snd (Prod.snd (Prod.snd (Prod.fst x_2))))),
        AV.sl 1 (Seq.map encB (0 : UInt8) (Prod.snd (Prod.snd (Prod.snd (Prod.snd (Prod.fst x_2)))))) Tip.none]])
        (Post (AV.bool false)
        [AObj.cells
        [AV.sl 2 (Seq.map T.encEn ([], []) x) Tip.none, AV.sl 2 (Seq.map T.encIt ((0 : Int), []) (Prod.snd x_1)) (Tip.tok 3),
        AV.sl 1 (Seq.map T.encSn T.noEv []) (Tip.tok 2)],
        AObj.gone, AObj.tok, AObj.tok,
        AObj.cells
        [AV.int IntKind.i64 (Prod.fst (Prod.fst x_2)), AV.sl 2 (Seq.map T.encN ([], []) (Prod.fst (Prod.snd (Prod.fst x_2)))) Tip.none,
        AV.int IntKind.i64 (Prod.fst (Prod.snd (Prod.snd (Prod.fst x_2)))),
        AV.int IntKind.i64 (Prod.fst (Prod.snd (Prod.snd (Prod.snd (Prod.fst x_2))))),
        AV.sl 1 (Seq.map encB (0 : UInt8) (Prod.snd (Prod.snd (Prod.snd (Prod.snd (Prod.fst x_2)))))) Tip.none]]))
        (Post (AV.bool false)
        [AObj.cells
        [AV.sl 2 (Seq.map T.encEn ([], []) x) Tip.none, AV.sl 2 (Seq.map T.encIt ((0 : Int), []) (Prod.snd x_1)) (Tip.tok 3),
        AV.sl 1 (Seq.map T.encSn T.noEv []) (Tip.tok 2)],
        AObj.gone, AObj.tok, AObj.tok,
        AObj.cells
        [AV.int IntKind.i64 (Prod.fst (Prod.fst x_2)), AV.sl 2 (Seq.map T.encN ([], []) (Prod.fst (Prod.snd (Prod.fst x_2)))) Tip.none,
        AV.int IntKind.i64 (Prod.fst (Prod.snd (Prod.snd (Prod.fst x_2)))),
        AV.int IntKind.i64 (Prod.fst (Prod.snd (Prod.snd (Prod.snd (Prod.fst x_2))))),
        AV.sl 1 (Seq.map encB (0 : UInt8) (Prod.snd (Prod.snd (Prod.snd (Prod.snd (Prod.fst x_2)))))) Tip.none]]))
        (Post (AV.bool false)
        [AObj.cells
        [AV.sl 2 (Seq.map T.encEn ([], []) x) Tip.none, AV.sl 2 (Seq.map T.encIt ((0 : Int), []) (Prod.snd x_1)) (Tip.tok 3),
        AV.sl 1 (Seq.map T.encSn T.noEv []) (Tip.tok 2)],
        AObj.gone, AObj.tok, AObj.tok,
        AObj.cells
        [AV.int IntKind.i64 (Prod.fst (Prod.fst x_2)), AV.sl 2 (Seq.map T.encN ([], []) (Prod.fst (Prod.snd (Prod.fst x_2)))) Tip.none,
        AV.int IntKind.i64 (Prod.fst (Prod.snd (Prod.snd (Prod.fst x_2)))), AV.int IntKind.i64 (Prod.fst (Prod.snd (Prod.snd (Prod.snd (Prod.fst x_2))))),
        AV.sl 1 (Seq.map encB (0 : UInt8) (Prod.snd (Prod.snd (Prod.snd (Prod.snd (Prod.fst x_2)))))) Tip.none]]))
        (Post (AV.bool false)
        [AObj.cells
        [AV.sl 2 (Seq.map T.encEn ([], []) x) Tip.none, AV.sl 2 (Seq.map T.encIt ((0 : Int), []) (Prod.snd x_1)) (Tip.tok 3),
        AV.sl 1 (Seq.map T.encSn T.noEv []) (Tip.tok 2)],
        AObj.gone, AObj.tok, AObj.tok,
        AObj.cells
        [AV.int IntKind.i64 (Prod.fst (Prod.fst x_2)), AV.sl 2 (Seq.map T.encN ([], []) (Prod.fst (Prod.snd (Prod.fst x_2)))) Tip.none,
        AV.int IntKind.i64 (Prod.fst (Prod.snd (Prod.snd (Prod.fst x_2)))), AV.int IntKind.i64 (Prod.fst (Prod.snd (Prod.snd (Prod.snd (Prod.fst x_2))))),
        AV.sl 1 (Seq.map encB (0 : UInt8) (Prod.snd (Prod.snd (Prod.snd (Prod.snd (Prod.fst x_2)))))) Tip.none]]))) ∨
        ∃ (x : Unit),
        r = AV.nilp ∧
        H' = [] ∧
        ASpec Try.prog 42
        [AV.nilp,
        AV.sl 7
        (Seq.raw
        [[AV.int IntKind.i64 (1 : Int), AV.int IntKind.i64 (1 : Int), AV.str { data := #[(97 : UInt8)] }, AV.int IntKind.i64 (0 : Int), AV.int IntKind.i64 (0 : Int),
        AV.sl 0 (Seq.raw []) Tip.nil, AV.sl 0 (Seq.raw []) Tip.nil]])
        Tip.full]
        [] fun (r : AV) (H' : List AObj) =>
        ∃ (x : Int × List T.Item),
        r = AV.int IntKind.i64 (Prod.fst x) ∧
        H' = [] ∧
        ASpec Try.prog 43 [AV.nilp, AV.int IntKind.i64 (0 : Int)] [] fun (r : AV) (H' : List AObj) =>
        (∃ (x_1 : T.Ev × Bool × List T.Item × List T.Ev),
        r =
        AV.tup
        [AV.agg
        [AV.int IntKind.i64 (Prod.fst (Prod.fst x_1)), AV.sl 2 (Seq.map T.encN ([], []) (Prod.fst (Prod.snd (Prod.fst x_1)))) Tip.none,
        AV.int IntKind.i64 (Prod.fst (Prod.snd (Prod.snd (Prod.fst x_1)))), AV.int IntKind.i64 (Prod.fst (Prod.snd (Prod.snd (Prod.snd (Prod.fst x_1))))),
        AV.sl 1 (Seq.map encB (0 : UInt8) (Prod.snd (Prod.snd (Prod.snd (Prod.snd (Prod.fst x_1)))))) Tip.none],
        AV.bool (Prod.fst (Prod.snd x_1))] ∧
        H' = [] ∧
        needP (allBytes (Seq.map encB (0 : UInt8) (Prod.snd (Prod.snd (Prod.snd (Prod.snd (Prod.fst x_1)))))))
        (ASpec Try.prog 45 [AV.str (bytesOf (Seq.map encB (0 : UInt8) (Prod.snd (Prod.snd (Prod.snd (Prod.snd (Prod.fst x_1)))))))]
        [AObj.cells
        [AV.int IntKind.i64 (Prod.fst (Prod.fst x_1)), AV.sl 2 (Seq.map T.encN ([], []) (Prod.fst (Prod.snd (Prod.fst x_1)))) Tip.none,
        AV.int IntKind.i64 (Prod.fst (Prod.snd (Prod.snd (Prod.fst x_1)))), AV.int IntKind.i64 (Prod.fst (Prod.snd (Prod.snd (Prod.snd (Prod.fst x_1))))),
        AV.sl 1 (Seq.map encB (0 : UInt8) (Prod.snd (Prod.snd (Prod.snd (Prod.snd (Prod.fst x_1)))))) Tip.none]]
        fun (r : AV) (H' : List AObj) =>
        ∃ (x_2 : ByteArray × ByteArray × Int),
        r = AV.tup [AV.str (Prod.fst x_2), AV.str (Prod.fst (Prod.snd x_2)), AV.int IntKind.i64 (Prod.snd (Prod.snd x_2))] ∧
        H' =
        [AObj.cells
        [AV.int IntKind.i64 (Prod.fst (Prod.fst x_1)), AV.sl 2 (Seq.map T.encN ([], []) (Prod.fst (Prod.snd (Prod.fst x_1)))) Tip.none,
        AV.int IntKind.i64 (Prod.fst (Prod.snd (Prod.snd (Prod.fst x_1)))), AV.int IntKind.i64 (Prod.fst (Prod.snd (Prod.snd (Prod.snd (Prod.fst x_1))))),
        AV.sl 1 (Seq.map encB (0 : UInt8) (Prod.snd (Prod.snd (Prod.snd (Prod.snd (Prod.fst x_1)))))) Tip.none]] ∧
        condP (Prod.fst x == (1 : Int))
        (condP (Prod.fst (Prod.snd x_1))
        (condP (Prod.fst (Prod.snd (Prod.snd (Prod.snd (Prod.fst x_1)))) == (1 : Int))
        (condP (ByteArray.toList (Prod.fst x_2) == ByteArray.toList { data := #[(97 : UInt8)] })
        (Post (AV.bool (Prod.snd (Prod.snd x_2) == (0 : Int)))
        [AObj.cells
        [AV.int IntKind.i64 (Prod.fst (Prod.fst x_1)), AV.sl 2 (Seq.map T.encN ([], []) (Prod.fst (Prod.snd (Prod.fst x_1)))) Tip.none,
        AV.int IntKind.i64 (Prod.fst (Prod.snd (Prod.snd (Prod.fst x_1)))),
        AV.int IntKind.i64 (Prod.fst (Prod.snd (Prod.snd (Prod.snd (Prod.fst x_1))))),
        AV.sl 1 (Seq.map encB (0 : UInt8) (Prod.snd (Prod.snd (Prod.snd (Prod.snd (Prod.fst x_1)))))) Tip.none]])
        (Post (AV.bool false)
        [AObj.cells
        [AV.int IntKind.i64 (Prod.fst (Prod.fst x_1)), AV.sl 2 (Seq.map T.encN ([], []) (Prod.fst (Prod.snd (Prod.fst x_1)))) Tip.none,
        AV.int IntKind.i64 (Prod.fst (Prod.snd (Prod.snd (Prod.fst x_1)))),
        AV.int IntKind.i64 (Prod.fst (Prod.snd (Prod.snd (Prod.snd (Prod.fst x_1))))),
        AV.sl 1 (Seq.map encB (0 : UInt8) (Prod.snd (Prod.snd (Prod.snd (Prod.snd (Prod.fst x_1)))))) Tip.none]]))
        (Post (AV.bool false)
        [AObj.cells
        [AV.int IntKind.i64 (Prod.fst (Prod.fst x_1)), AV.sl 2 (Seq.map T.encN ([], []) (Prod.fst (Prod.snd (Prod.fst x_1)))) Tip.none,
        AV.int IntKind.i64 (Prod.fst (Prod.snd (Prod.snd (Prod.fst x_1)))),
        AV.int IntKind.i64 (Prod.fst (Prod.snd (Prod.snd (Prod.snd (Prod.fst x_1))))),
        AV.sl 1 (Seq.map encB (0 : UInt8) (Prod.snd (Prod.snd (Prod.snd (Prod.snd (Prod.fst x_1)))))) Tip.none]]))
        (Post (AV.bool false)
        [AObj.cells
        [AV.int IntKind.i64 (Prod.fst (Prod.fst x_1)), AV.sl 2 (Seq.map T.encN ([], []) (Prod.fst (Prod.snd (Prod.fst x_1)))) Tip.none,
        AV.int IntKind.i64 (Prod.fst (Prod.snd (Prod.snd (Prod.fst x_1)))), AV.int IntKind.i64 (Prod.fst (Prod.snd (Prod.snd (Prod.snd (Prod.fst x_1))))),
        AV.sl 1 (Seq.map encB (0 : UInt8) (Prod.snd (Prod.snd (Prod.snd (Prod.snd (Prod.fst x_1)))))) Tip.none]]))
        (Post (AV.bool false)
        [AObj.cells
        [AV.int IntKind.i64 (Prod.fst (Prod.fst x_1)), AV.sl 2 (Seq.map T.encN ([], []) (Prod.fst (Prod.snd (Prod.fst x_1)))) Tip.none,
        AV.int IntKind.i64 (Prod.fst (Prod.snd (Prod.snd (Prod.fst x_1)))), AV.int IntKind.i64 (Prod.fst (Prod.snd (Prod.snd (Prod.snd (Prod.fst x_1))))),
        AV.sl 1 (Seq.map encB (0 : UInt8) (Prod.snd (Prod.snd (Prod.snd (Prod.snd (Prod.fst x_1)))))) Tip.none]]))) ∨
        ∃ (x_1 : T.Ev × Bool),
        r =
        AV.tup
        [AV.agg
        [AV.int IntKind.i64 (Prod.fst (Prod.fst x_1)), AV.sl 2 (Seq.map T.encN ([], []) (Prod.fst (Prod.snd (Prod.fst x_1)))) Tip.none,
        AV.int IntKind.i64 (Prod.fst (Prod.snd (Prod.snd (Prod.fst x_1)))), AV.int IntKind.i64 (Prod.fst (Prod.snd (Prod.snd (Prod.snd (Prod.fst x_1))))),
        AV.sl 1 (Seq.map encB (0 : UInt8) (Prod.snd (Prod.snd (Prod.snd (Prod.snd (Prod.fst x_1)))))) Tip.none],
        AV.bool (Prod.snd x_1)] ∧
        H' = [] ∧
        needP (allBytes (Seq.map encB (0 : UInt8) (Prod.snd (Prod.snd (Prod.snd (Prod.snd (Prod.fst x_1)))))))
        (ASpec Try.prog 45 [AV.str (bytesOf (Seq.map encB (0 : UInt8) (Prod.snd (Prod.snd (Prod.snd (Prod.snd (Prod.fst x_1)))))))]
        [AObj.cells
        [AV.int IntKind.i64 (Prod.fst (Prod.fst x_1)), AV.sl 2 (Seq.map T.encN ([], []) (Prod.fst (Prod.snd (Prod.fst x_1)))) Tip.none,
        AV.int IntKind.i64 (Prod.fst (Prod.snd (Prod.snd (Prod.fst x_1)))), AV.int IntKind.i64 (Prod.fst (Prod.snd (Prod.snd (Prod.snd (Prod.fst x_1))))),
        AV.sl 1 (Seq.map encB (0 : UInt8) (Prod.snd (Prod.snd (Prod.snd (Prod.snd (Prod.fst x_1)))))) Tip.none]]
        fun (r : AV) (H' : List AObj) =>
        ∃ (x_2 : ByteArray × ByteArray × Int),
        r = AV.tup [AV.str (Prod.fst x_2), AV.str (Prod.fst (Prod.snd x_2)), AV.int IntKind.i64 (Prod.snd (Prod.snd x_2))] ∧
        H' =
        [AObj.cells
        [AV.int IntKind.i64 (Prod.fst (Prod.fst x_1)), AV.sl 2 (Seq.map T.encN ([], []) (Prod.fst (Prod.snd (Prod.fst x_1)))) Tip.none,
        AV.int IntKind.i64 (Prod.fst (Prod.snd (Prod.snd (Prod.fst x_1)))), AV.int IntKind.i64 (Prod.fst (Prod.snd (Prod.snd (Prod.snd (Prod.fst x_1))))),
        AV.sl 1 (Seq.map encB (0 : UInt8) (Prod.snd (Prod.snd (Prod.snd (Prod.snd (Prod.fst x_1)))))) Tip.none]] ∧
        condP (Prod.fst x == (1 : Int))
        (condP (Prod.snd x_1)
        (condP (Prod.fst (Prod.snd (Prod.snd (Prod.snd (Prod.fst x_1)))) == (1 : Int))
        (condP (ByteArray.toList (Prod.fst x_2) == ByteArray.toList { data := #[(97 : UInt8)] })
        (Post (AV.bool (Prod.snd (Prod.snd x_2) == (0 : Int)))
        [AObj.cells
        [AV.int IntKind.i64 (Prod.fst (Prod.fst x_1)), AV.sl 2 (Seq.map T.encN ([], []) (Prod.fst (Prod.snd (Prod.fst x_1)))) Tip.none,
        AV.int IntKind.i64 (Prod.fst (Prod.snd (Prod.snd (Prod.fst x_1)))),
        AV.int IntKind.i64 (Prod.fst (Prod.snd (Prod.snd (Prod.snd (Prod.fst x_1))))),
        AV.sl 1 (Seq.map encB (0 : UInt8) (Prod.snd (Prod.snd (Prod.snd (Prod.snd (Prod.fst x_1)))))) Tip.none]])
        (Post (AV.bool false)
        [AObj.cells
        [AV.int IntKind.i64 (Prod.fst (Prod.fst x_1)), AV.sl 2 (Seq.map T.encN ([], []) (Prod.fst (Prod.snd (Prod.fst x_1)))) Tip.none,
        AV.int IntKind.i64 (Prod.fst (Prod.snd (Prod.snd (Prod.fst x_1)))),
        AV.int IntKind.i64 (Prod.fst (Prod.snd (Prod.snd (Prod.snd (Prod.fst x_1))))),
        AV.sl 1 (Seq.map encB (0 : UInt8) (Prod.snd (Prod.snd (Prod.snd (Prod.snd (Prod.fst x_1)))))) Tip.none]]))
        (Post (AV.bool false)
        [AObj.cells
        [AV.int IntKind.i64 (Prod.fst (Prod.fst x_1)), AV.sl 2 (Seq.map T.encN ([], []) (Prod.fst (Prod.snd (Prod.fst x_1)))) Tip.none,
        AV.int IntKind.i64 (Prod.fst (Prod.snd (Prod.snd (Prod.fst x_1)))),
        AV.int IntKind.i64 (Prod.fst (Prod.snd (Prod.snd (Prod.snd (Prod.fst x_1))))),
        AV.sl 1 (Seq.map encB (0 : UInt8) (Prod.snd (Prod.snd (Prod.snd (Prod.snd (Prod.fst x_1)))))) Tip.none]]))
        (Post (AV.bool false)
        [AObj.cells
        [AV.int IntKind.i64 (Prod.fst (Prod.fst x_1)), AV.sl 2 (Seq.map T.encN ([], []) (Prod.fst (Prod.snd (Prod.fst x_1)))) Tip.none,
        AV.int IntKind.i64 (Prod.fst (Prod.snd (Prod.snd (Prod.fst x_1)))), AV.int IntKind.i64 (Prod.fst (Prod.snd (Prod.snd (Prod.snd (Prod.fst x_1))))),
        AV.sl 1 (Seq.map encB (0 : UInt8) (Prod.snd (Prod.snd (Prod.snd (Prod.snd (Prod.fst x_1)))))) Tip.none]]))
        (Post (AV.bool false)
        [AObj.cells
        [AV.int IntKind.i64 (Prod.fst (Prod.fst x_1)), AV.sl 2 (Seq.map T.encN ([], []) (Prod.fst (Prod.snd (Prod.fst x_1)))) Tip.none,
        AV.int IntKind.i64 (Prod.fst (Prod.snd (Prod.snd (Prod.fst x_1)))), AV.int IntKind.i64 (Prod.fst (Prod.snd (Prod.snd (Prod.snd (Prod.fst x_1))))),
        AV.sl 1 (Seq.map encB (0 : UInt8) (Prod.snd (Prod.snd (Prod.snd (Prod.snd (Prod.fst x_1)))))) Tip.none]]))) →
    ASpec Try.prog 40 [] [] Post := fun Post h => Go.Ab.ASpec.of_vc g40 Go.Proofs.Try.func40 (by kernel_rfl) (by kernel_rfl) (by kernel_rfl) (Go.Ab.kc (by kernel_rfl) h)

-- 5
noncomputable def c5 : Go.Code := Go.Ab.bodyOf Go.Proofs.Try.f5
end
end Sd
end

section
/- The document's stand, and what is done to a stand, as cells. -/

open Go Go.Ab Go.Proofs
namespace T
/-- kind, number, place, byte, name -/
abbrev Do := Int × Int × Int × UInt8 × List UInt8
noncomputable def encDo (x : Do) : List AV := [.int .i64 x.1, .int .i64 x.2.1, .int .i64 x.2.2.1, .int .u8 (x.2.2.2.1.toNat : Int), .str ⟨x.2.2.2.2.toArray⟩]
abbrev noDo : Do := (0, 0, 0, 0, [])
noncomputable def xO (D : List Ent) (W : List Item) (S : List Ev) (a b : Nat) : AObj := .cells [.sl 2 (.map encEn ([], []) D) .none, .sl 2 (.map encIt (0, []) W) (.tok a), .sl 5 (.map encE noEv S) (.tok b)]
noncomputable def HXr (D : List Ent) (W : List Item) (S : List Ev) : List AObj := [xO D W S 1 2, .tok, .tok]
noncomputable def HXr2 (D : List Ent) (W : List Item) (S : List Ev) : List AObj := [xO D W S 3 2, .gone, .tok, .tok]
noncomputable def encX (D : List Ent) (W : List Item) (S : List Ev) : List AV := [.sl 2 (.map encEn ([], []) D) .none, .sl 2 (.map encIt (0, []) W) .none, .sl 5 (.map encE noEv S) .none]
end T
end
