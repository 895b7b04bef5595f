/- Q2: several of this proof's own texts, one behind the other: what each proves stands at its head. -/
import Derived.Test.YtbjcdgepclmmjaaProg
import Derived.Test.YtbjcdgepclmmjaaA1
section
/- Printed: what the code of functions 140, 141, 150, 151, 142, 143, 145, 144, 251, 146, 147, 148, 149, 250, 252 asks for, by the framework's own reading of it; each line is checked against the code. -/

set_option linter.unusedVariables false
set_option maxRecDepth 100000
set_option maxHeartbeats 4000000
open Go Go.Ab Go.Proofs
namespace V
noncomputable section

noncomputable def encR (x : Int × Int) : List AV := [.int .i64 x.1, .int .i64 x.2]
noncomputable def rd (bs : List UInt8) (p e : Int) : AObj := .cells [.sl 1 (.map encB 0 bs) .none, .int .i64 p, .int .i64 e]
noncomputable def upd3 (args : List AV) (H : List AObj) (p e : Int) : List AObj := match args with
  | .ptr id _ :: _ => match H[id]? with
    | some (.cells [b, _, _]) => H.set id (.cells [b, .int .i64 p, .int .i64 e])
    | _ => H
  | _ => H
noncomputable def upd2 (args : List AV) (H : List AObj) (s : ByteArray) (e : Int) : List AObj := match args with
  | .ptr id _ :: _ => H.set id (.cells [.str s, .int .i64 e])
  | _ => H
noncomputable def retL : List (Nat × Ret) := [
  (9016, ⟨Unit, fun _ _ _ => .bool true, fun _ H _ => H⟩),
  (140, ⟨List UInt8, fun _ H l => .sl 1 (.map encB 0 l) (.tok H.length), fun _ H _ => H ++ [.tok]⟩),
  (141, ⟨List UInt8, fun _ H l => .sl 1 (.map encB 0 l) (.tok H.length), fun _ H _ => H ++ [.tok]⟩),
  (9019, ⟨ByteArray, fun _ _ s => .str s, fun _ H _ => H⟩),
  (151, ⟨ByteArray, fun _ _ s => .str s, fun _ H _ => H⟩),
  (142, ⟨List UInt8, fun _ H _ => .ptr H.length 0, fun _ H l => H ++ [rd l 0 0]⟩),
  (143, ⟨Int × Int × Int, fun _ _ x => .int .i64 x.1, fun a H x => upd3 a H x.2.1 x.2.2⟩),
  (145, ⟨ByteArray × Int × Int, fun _ _ x => .str x.1, fun a H x => upd3 a H x.2.1 x.2.2⟩),
  (144, ⟨Int, fun _ _ x => .int .i64 x, fun _ H _ => H⟩),
  (251, ⟨Int, fun _ _ x => .int .i64 x, fun _ H _ => H⟩),
  (147, ⟨Int × ByteArray × Int, fun _ _ x => .int .i64 x.1, fun a H x => upd2 a H x.2.1 x.2.2⟩),
  (148, ⟨ByteArray × ByteArray × Int, fun _ _ x => .str x.1, fun a H x => upd2 a H x.2.1 x.2.2⟩),
  (9028, ⟨Int × Int, fun _ _ x => .tup [], fun a H x => upd3 a H x.1 x.2⟩),
  (9029, ⟨ByteArray × Int, fun _ _ x => .tup [], fun a H x => upd2 a H x.1 x.2⟩),
  (146, ⟨Int, fun _ _ x => .int .i64 x, fun _ H _ => H⟩),
  (149, ⟨Int, fun _ _ x => .int .i64 x, fun _ H _ => H⟩),
  (150, ⟨ByteArray, fun _ _ s => .str s, fun _ H _ => H⟩),
  (250, ⟨Int × Int × Int × Int, fun _ _ x => .tup [.int .i64 x.1, .int .i64 x.2.1], fun a H x => upd3 a H x.2.2.1 x.2.2.2⟩),
  (252, ⟨Int × Int × Int, fun _ _ x => .tup [.int .i64 x.1, .int .i64 x.2.1, .int .i64 x.2.2], fun _ H _ => H⟩)]
noncomputable def rets : FuncId → List Ret := lookupR retL

-- 140
noncomputable def l140 : Nat → List Nat
  | 3 => [5, 12, 13, 14]
  | 7 => [5, 7, 8, 12, 13, 14]
  | 9 => [5, 7, 8, 12, 13, 14]
  | _ => []
noncomputable def u140 : Nat → Bool
  | _ => false
noncomputable def m140 : Nat → Bool
  | _ => false
noncomputable def g140 : Cfg := { N := 48, live := l140, cut := u140, mu := m140, ret := rets }
noncomputable def c140 : Go.Code := Go.Ab.bodyOf Go.Proofs.Try.f140
noncomputable def q140_0 : Nat → (AV → List AObj → Prop) → AQ := fun (n : Nat) (Post : AV → List AObj → Prop) => endQ Try.prog (resultsOf Try.f140) Post
noncomputable def q140_1 : Nat → (AV → List AObj → Prop) → AQ := fun (n : Nat) (Post : AV → List AObj → Prop) => seqQ (fun (s' : Slots) (H' : List AObj) => awp Try.prog g140 n (codeSnd (codeSnd (codeSnd c140))) s' H' (q140_0 n Post)) (q140_0 n Post)
noncomputable def q140_2 : Nat → (AV → List AObj → Prop) → AQ := fun (n : Nat) (Post : AV → List AObj → Prop) => blockQ 0 (q140_1 n Post)
noncomputable def c140_3 : Go.Code := codeFst (codeSnd (codeFst (codeSnd (codeSnd c140))))
theorem s140 : ∀ (bs : List UInt8) (tip : Tip) (ns : List Int) (tip2 : Tip) (Post : AV → List AObj → Prop),
  needP (∀ (x : UInt8), List.all (encB x) oneAV = true)
      (needP ((0 + List.length bs) * 1 ≤ 140737488351232)
        (AWP Try.prog 48 0 c140_3
        [(5, AV.sl 1 (Seq.app (Seq.raw []) (Seq.map encB (0 : UInt8) bs)) (Tip.tok 0)), (12, AV.sl 1 (Seq.map encI (0 : Int) ns) tip2),
        (13, AV.int IntKind.i64 (↑(List.length ns) : Int)), (14, AV.int IntKind.i64 (0 : Int))]
        [AObj.tok] (q140_2 0 Post))) →
    ASpec Try.prog 140 [AV.sl 1 (Seq.map encB (0 : UInt8) bs) tip, AV.sl 1 (Seq.map encI (0 : Int) ns) tip2] [] Post := fun bs tip ns tip2 Post h => Go.Ab.ASpec.of_vc g140 Go.Proofs.Try.func140 (by kernel_rfl) (by kernel_rfl) (by kernel_rfl) (Go.Ab.kc (by kernel_rfl) h)
noncomputable def q140_3 : Nat → (AV → List AObj → Prop) → AQ := fun (n : Nat) (Post : AV → List AObj → Prop) => loopQ Try.prog 48 n c140_3 (q140_2 n Post) (Cfg.live g140)
noncomputable def q140_4 : Nat → (AV → List AObj → Prop) → AQ := fun (n : Nat) (Post : AV → List AObj → Prop) => seqQ (fun (s' : Slots) (H' : List AObj) => awp Try.prog g140 n (codeSnd (codeSnd (codeSnd (codeFst c140_3)))) s' H' (q140_3 n Post)) (q140_3 n Post)
noncomputable def q140_5 : Nat → (AV → List AObj → Prop) → AQ := fun (n : Nat) (Post : AV → List AObj → Prop) => blockQ 1 (q140_4 n Post)
noncomputable def q140_6 : Nat → (AV → List AObj → Prop) → AQ := fun (n : Nat) (Post : AV → List AObj → Prop) => seqQ (fun (s' : Slots) (H' : List AObj) => awp Try.prog g140 n (codeSnd (codeSnd (codeSnd (codeSnd (codeFst (codeFst (codeSnd (codeSnd (codeFst c140_3))))))))) s' H' (q140_5 n Post)) (q140_5 n Post)
noncomputable def q140_7 : Nat → (AV → List AObj → Prop) → AQ := fun (n : Nat) (Post : AV → List AObj → Prop) => blockQ 2 (q140_6 n Post)
noncomputable def c140_7 : Go.Code := codeFst (codeFst (codeSnd (codeSnd (codeSnd (codeFst (codeFst (codeSnd (codeSnd (codeFst c140_3)))))))))
theorem v140_3 : ∀ (l : List UInt8) (ns : List Int) (tip2 : Tip) (k : Nat) (i : Int) (n : Nat) (Post : AV → List AObj → Prop),
  condP (decide (i < (↑k : Int)))
      (needP ((0 : Int) ≤ i ∧ i < (↑(List.length ns) : Int))
        (AWP Try.prog 48 n c140_7
        [(5, AV.sl 1 (Seq.map encB (0 : UInt8) l) (Tip.tok 0)),
        (7,
        AV.int IntKind.i64
        (if (1099511627776 : Int) < if (0 : Int) > List.getD ns (Int.toNat i) (0 : Int) then (0 : Int) else List.getD ns (Int.toNat i) (0 : Int) then (1099511627776 : Int)
        else if (0 : Int) > List.getD ns (Int.toNat i) (0 : Int) then (0 : Int) else List.getD ns (Int.toNat i) (0 : Int))),
        (8, AV.int IntKind.i64 (1 : Int)), (12, AV.sl 1 (Seq.map encI (0 : Int) ns) tip2), (13, AV.int IntKind.i64 (↑k : Int)), (14, AV.int IntKind.i64 i)]
        [AObj.tok] (q140_7 n Post)))
      (Post (AV.sl 1 (Seq.map encB (0 : UInt8) l) (Tip.tok 0)) [AObj.tok]) →
    AWP Try.prog 48 n c140_3
      [(5, AV.sl 1 (Seq.map encB (0 : UInt8) l) (Tip.tok 0)), (12, AV.sl 1 (Seq.map encI (0 : Int) ns) tip2), (13, AV.int IntKind.i64 (↑k : Int)),
        (14, AV.int IntKind.i64 i)]
      [AObj.tok] (q140_2 n Post) := fun l ns tip2 k i n Post h => Go.Ab.AWP.loop' g140 (Cfg.live g140) c140_3 (by kernel_rfl) (by kernel_rfl) (Go.Ab.kc (by kernel_rfl) h)
noncomputable def q140_8 : Nat → (AV → List AObj → Prop) → AQ := fun (n : Nat) (Post : AV → List AObj → Prop) => seqQ (fun (s' : Slots) (H' : List AObj) => awp Try.prog g140 n (codeSnd (codeSnd (codeSnd (codeSnd (codeSnd (codeFst (codeFst (codeSnd (codeSnd (codeFst c140_3)))))))))) s' H' (q140_5 n Post)) (q140_5 n Post)
noncomputable def q140_9 : Nat → (AV → List AObj → Prop) → AQ := fun (n : Nat) (Post : AV → List AObj → Prop) => blockQ 4 (q140_8 n Post)
noncomputable def c140_9 : Go.Code := codeFst (codeFst (codeSnd (codeSnd (codeSnd (codeSnd (codeFst (codeFst (codeSnd (codeSnd (codeFst c140_3))))))))))
theorem v140_7 : ∀ (l : List UInt8) (v w : Int) (ns : List Int) (tip2 : Tip) (k : Nat) (i : Int) (n : Nat) (Post : AV → List AObj → Prop),
  needP (w ≠ (0 : Int))
      (condP (decide (IntKind.wrap IntKind.i64 (Int.tdiv v w) ≥ (128 : Int)))
        (AWP Try.prog 48 n c140_7
        [(5, AV.sl 1 (Seq.map encB (0 : UInt8) l) (Tip.tok 0)), (7, AV.int IntKind.i64 v),
        (8, AV.int IntKind.i64 (IntKind.wrap IntKind.i64 (w * (128 : Int)))), (12, AV.sl 1 (Seq.map encI (0 : Int) ns) tip2), (13, AV.int IntKind.i64 (↑k : Int)),
        (14, AV.int IntKind.i64 i)]
        [AObj.tok] (q140_7 n Post))
        (AWP Try.prog 48 n c140_9
        [(5, AV.sl 1 (Seq.map encB (0 : UInt8) l) (Tip.tok 0)), (7, AV.int IntKind.i64 v), (8, AV.int IntKind.i64 w),
        (12, AV.sl 1 (Seq.map encI (0 : Int) ns) tip2), (13, AV.int IntKind.i64 (↑k : Int)), (14, AV.int IntKind.i64 i)]
        [AObj.tok] (q140_9 n Post))) →
    AWP Try.prog 48 n c140_7
      [(5, AV.sl 1 (Seq.map encB (0 : UInt8) l) (Tip.tok 0)), (7, AV.int IntKind.i64 v), (8, AV.int IntKind.i64 w),
        (12, AV.sl 1 (Seq.map encI (0 : Int) ns) tip2), (13, AV.int IntKind.i64 (↑k : Int)), (14, AV.int IntKind.i64 i)]
      [AObj.tok] (q140_7 n Post) := fun l v w ns tip2 k i n Post h => Go.Ab.AWP.loop' g140 (Cfg.live g140) c140_7 (by kernel_rfl) (by kernel_rfl) (Go.Ab.kc (by kernel_rfl) h)
theorem v140_9 : ∀ (l : List UInt8) (v w : Int) (ns : List Int) (tip2 : Tip) (k : Nat) (i : Int) (n : Nat) (Post : AV → List AObj → Prop),
  condP (decide (w > (1 : Int)))
      (needP (w ≠ (0 : Int))
        (needP ((128 : Int) ≠ (0 : Int))
        (needP ((List.length l + 1) * 1 ≤ 140737488351232)
        (needP ((128 : Int) ≠ (0 : Int))
        (AWP Try.prog 48 n c140_9
        [(5,
        AV.sl 1
        (Seq.app (Seq.map encB (0 : UInt8) l)
        (Seq.raw [[AV.int IntKind.u8 (IntKind.wrap IntKind.u8 (IntKind.wrap IntKind.i64 ((128 : Int) + Int.tmod (IntKind.wrap IntKind.i64 (Int.tdiv v w)) (128 : Int))))]]))
        (Tip.tok 1)),
        (7, AV.int IntKind.i64 v), (8, AV.int IntKind.i64 (IntKind.wrap IntKind.i64 (Int.tdiv w (128 : Int)))),
        (12, AV.sl 1 (Seq.map encI (0 : Int) ns) tip2), (13, AV.int IntKind.i64 (↑k : Int)), (14, AV.int IntKind.i64 i)]
        [AObj.gone, AObj.tok] (q140_9 n Post))))))
      (needP ((128 : Int) ≠ (0 : Int))
        (needP ((List.length l + 1) * 1 ≤ 140737488351232)
        (AWP Try.prog 48 n c140_3
        [(5, AV.sl 1 (Seq.app (Seq.map encB (0 : UInt8) l) (Seq.raw [[AV.int IntKind.u8 (IntKind.wrap IntKind.u8 (Int.tmod v (128 : Int)))]])) (Tip.tok 1)),
        (12, AV.sl 1 (Seq.map encI (0 : Int) ns) tip2), (13, AV.int IntKind.i64 (↑k : Int)), (14, AV.int IntKind.i64 (IntKind.wrap IntKind.i64 (i + (1 : Int))))]
        [AObj.gone, AObj.tok] (q140_2 n Post)))) →
    AWP Try.prog 48 n c140_9
      [(5, AV.sl 1 (Seq.map encB (0 : UInt8) l) (Tip.tok 0)), (7, AV.int IntKind.i64 v), (8, AV.int IntKind.i64 w),
        (12, AV.sl 1 (Seq.map encI (0 : Int) ns) tip2), (13, AV.int IntKind.i64 (↑k : Int)), (14, AV.int IntKind.i64 i)]
      [AObj.tok] (q140_9 n Post) := fun l v w ns tip2 k i n Post h => Go.Ab.AWP.loop' g140 (Cfg.live g140) c140_9 (by kernel_rfl) (by kernel_rfl) (Go.Ab.kc (by kernel_rfl) h)

-- 141
noncomputable def l141 : Nat → List Nat
  | _ => []
noncomputable def u141 : Nat → Bool
  | _ => false
noncomputable def m141 : Nat → Bool
  | _ => false
noncomputable def g141 : Cfg := { N := 12, live := l141, cut := u141, mu := m141, ret := rets }
noncomputable def c141 : Go.Code := Go.Ab.bodyOf Go.Proofs.Try.f141
theorem s141 : ∀ (bs : List UInt8) (tip : Tip) (s : ByteArray) (Post : AV → List AObj → Prop),
  (ASpec Try.prog 140 [AV.sl 1 (Seq.map encB (0 : UInt8) bs) tip, AV.sl 1 (Seq.raw [[AV.int IntKind.i64 (↑(ByteArray.size s) : Int)]]) Tip.full] []
      fun (r : AV) (H' : List AObj) =>
      ∃ (x : List UInt8),
        r = AV.sl 1 (Seq.map encB (0 : UInt8) x) (Tip.tok 0) ∧
        H' = [AObj.tok] ∧
        needP (∀ (x : UInt8), List.all (encB x) oneAV = true)
        (needP ((List.length x + Seq.len (bytesSeq s)) * 1 ≤ 140737488351232)
        (Post (AV.sl 1 (Seq.app (Seq.map encB (0 : UInt8) x) (bytesSeq s)) (Tip.tok 1)) [AObj.gone, AObj.tok]))) →
    ASpec Try.prog 141 [AV.sl 1 (Seq.map encB (0 : UInt8) bs) tip, AV.str s] [] Post := fun bs tip s Post h => Go.Ab.ASpec.of_vc g141 Go.Proofs.Try.func141 (by kernel_rfl) (by kernel_rfl) (by kernel_rfl) (Go.Ab.kc (by kernel_rfl) h)

-- 150
noncomputable def l150 : Nat → List Nat
  | 3 => [0, 3]
  | _ => []
noncomputable def u150 : Nat → Bool
  | _ => false
noncomputable def m150 : Nat → Bool
  | _ => false
noncomputable def g150 : Cfg := { N := 25, live := l150, cut := u150, mu := m150, ret := rets }
noncomputable def c150 : Go.Code := Go.Ab.bodyOf Go.Proofs.Try.f150
noncomputable def q150_0 : Nat → (AV → List AObj → Prop) → AQ := fun (n : Nat) (Post : AV → List AObj → Prop) => endQ Try.prog (resultsOf Try.f150) Post
noncomputable def q150_1 : Nat → (AV → List AObj → Prop) → AQ := fun (n : Nat) (Post : AV → List AObj → Prop) => seqQ (fun (s' : Slots) (H' : List AObj) => awp Try.prog g150 n (codeSnd (codeSnd (codeSnd (codeSnd c150)))) s' H' (q150_0 n Post)) (q150_0 n Post)
noncomputable def q150_2 : Nat → (AV → List AObj → Prop) → AQ := fun (n : Nat) (Post : AV → List AObj → Prop) => blockQ 0 (q150_1 n Post)
noncomputable def c150_3 : Go.Code := codeFst (codeFst (codeSnd (codeSnd (codeSnd c150))))
theorem s150 : ∀ (x : Int) (Post : AV → List AObj → Prop),
  needP ((128 : Int) ≠ (0 : Int))
      (needP
        (allBytes
        (Seq.raw
        [[AV.int IntKind.u8
        (IntKind.wrap IntKind.u8
        (Int.tmod (if (1099511627776 : Int) < if (0 : Int) > x then (0 : Int) else x then (1099511627776 : Int) else if (0 : Int) > x then (0 : Int) else x) (128 : Int)))]]))
        (AWP Try.prog 25 0 c150_3
        [(0, AV.int IntKind.i64 (if (1099511627776 : Int) < if (0 : Int) > x then (0 : Int) else x then (1099511627776 : Int) else if (0 : Int) > x then (0 : Int) else x)),
        (3,
        AV.str
        (bytesOf
        (Seq.raw
        [[AV.int IntKind.u8
        (IntKind.wrap IntKind.u8
        (Int.tmod (if (1099511627776 : Int) < if (0 : Int) > x then (0 : Int) else x then (1099511627776 : Int) else if (0 : Int) > x then (0 : Int) else x) (128 : Int)))]])))]
        [] (q150_2 0 Post))) →
    ASpec Try.prog 150 [AV.int IntKind.i64 x] [] Post := fun x Post h => Go.Ab.ASpec.of_vc g150 Go.Proofs.Try.func150 (by kernel_rfl) (by kernel_rfl) (by kernel_rfl) (Go.Ab.kc (by kernel_rfl) h)
theorem v150_3 : ∀ (x : Int) (s : ByteArray) (n : Nat) (Post : AV → List AObj → Prop),
  condP (decide (x ≥ (128 : Int)))
      (needP ((128 : Int) ≠ (0 : Int))
        (needP ((128 : Int) ≠ (0 : Int))
        (needP
        (allBytes (Seq.raw [[AV.int IntKind.u8 (IntKind.wrap IntKind.u8 (IntKind.wrap IntKind.i64 ((128 : Int) + Int.tmod (IntKind.wrap IntKind.i64 (Int.tdiv x (128 : Int))) (128 : Int))))]]))
        (needP
        ((↑(ByteArray.size
        (bytesOf
        (Seq.raw
        [[AV.int IntKind.u8 (IntKind.wrap IntKind.u8 (IntKind.wrap IntKind.i64 ((128 : Int) + Int.tmod (IntKind.wrap IntKind.i64 (Int.tdiv x (128 : Int))) (128 : Int))))]])) +
        ByteArray.size s) :
        Int) ≤
        (9223372036854775807 : Int))
        (AWP Try.prog 25 n c150_3
        [(0, AV.int IntKind.i64 (IntKind.wrap IntKind.i64 (Int.tdiv x (128 : Int)))),
        (3,
        AV.str
        (bytesOf
        (Seq.raw
        [[AV.int IntKind.u8 (IntKind.wrap IntKind.u8 (IntKind.wrap IntKind.i64 ((128 : Int) + Int.tmod (IntKind.wrap IntKind.i64 (Int.tdiv x (128 : Int))) (128 : Int))))]]) ++
        s))]
        [] (q150_2 n Post))))))
      (Post (AV.str s) []) →
    AWP Try.prog 25 n c150_3 [(0, AV.int IntKind.i64 x), (3, AV.str s)] [] (q150_2 n Post) := fun x s n Post h => Go.Ab.AWP.loop' g150 (Cfg.live g150) c150_3 (by kernel_rfl) (by kernel_rfl) (Go.Ab.kc (by kernel_rfl) h)

-- 151
noncomputable def l151 : Nat → List Nat
  | _ => []
noncomputable def u151 : Nat → Bool
  | _ => false
noncomputable def m151 : Nat → Bool
  | _ => false
noncomputable def g151 : Cfg := { N := 8, live := l151, cut := u151, mu := m151, ret := rets }
noncomputable def c151 : Go.Code := Go.Ab.bodyOf Go.Proofs.Try.f151
theorem s151 : ∀ (s : ByteArray) (Post : AV → List AObj → Prop),
  (ASpec Try.prog 150 [AV.int IntKind.i64 (↑(ByteArray.size s) : Int)] [] fun (r : AV) (H' : List AObj) =>
      ∃ (x : ByteArray), r = AV.str x ∧ H' = [] ∧ needP ((↑(ByteArray.size x + ByteArray.size s) : Int) ≤ (9223372036854775807 : Int)) (Post (AV.str (x ++ s)) [])) →
    ASpec Try.prog 151 [AV.str s] [] Post := fun s Post h => Go.Ab.ASpec.of_vc g151 Go.Proofs.Try.func151 (by kernel_rfl) (by kernel_rfl) (by kernel_rfl) (Go.Ab.kc (by kernel_rfl) h)

-- 142
noncomputable def l142 : Nat → List Nat
  | 3 => [3]
  | _ => []
noncomputable def u142 : Nat → Bool
  | 3 => true
  | _ => false
noncomputable def m142 : Nat → Bool
  | _ => true
noncomputable def g142 : Cfg := { N := 13, live := l142, cut := u142, mu := m142, ret := rets }
noncomputable def c142 : Go.Code := Go.Ab.bodyOf Go.Proofs.Try.f142
noncomputable def q142_0 : Nat → (AV → List AObj → Prop) → AQ := fun (n : Nat) (Post : AV → List AObj → Prop) => endQ Try.prog (resultsOf Try.f142) Post
noncomputable def c142_3 : Go.Code := codeSnd (codeSnd (codeSnd c142))
theorem s142 : ∀ (bs : List UInt8) (tip : Tip) (Post : AV → List AObj → Prop),
  needP
      ((0 : Int) ≤ (↑(List.length bs) : Int) ∧
        (↑(List.length bs) : Int) ≤ (↑(List.length bs) : Int) ∧ (↑(List.length bs) : Int) ≤ (9223372036854775807 : Int) ∧ (1 : Int) * (↑(List.length bs) : Int) ≤ (281474976710656 : Int))
      (needP (∀ (x : UInt8), List.all (encB x) oneAV = true)
        (needP
        (0 + List.length bs ≤ List.length (List.replicate (List.length bs) (List.map ofCell (Array.toList (Value.cells (Value.int IntKind.u8 (0 : Int)))))) ∧ List.length bs ≤ List.length bs)
        (AWP Try.prog 13 0 c142_3 [(3, AV.msl 1 0 0 (List.length bs))]
        [AObj.arr 1
        (copied (Seq.raw (List.replicate (List.length bs) (List.map ofCell (Array.toList (Value.cells (Value.int IntKind.u8 (0 : Int))))))) 0 (Seq.map encB (0 : UInt8) bs))]
        (q142_0 0 Post)))) →
    ASpec Try.prog 142 [AV.sl 1 (Seq.map encB (0 : UInt8) bs) tip] [] Post := fun bs tip Post h => Go.Ab.ASpec.of_vc g142 Go.Proofs.Try.func142 (by kernel_rfl) (by kernel_rfl) (by kernel_rfl) (Go.Ab.kc (by kernel_rfl) h)
theorem v142_3 : ∀ (bs : List UInt8) (n : Nat) (Post : AV → List AObj → Prop),
  Post (AV.ptr 0 0) [AObj.cells [AV.sl 1 (Seq.map encB (0 : UInt8) bs) Tip.none, AV.int IntKind.i64 (0 : Int), AV.int IntKind.i64 (0 : Int)]] →
    AWP Try.prog 13 n c142_3 [(3, AV.sl 1 (Seq.map encB (0 : UInt8) bs) Tip.none)] [] (q142_0 n Post) := fun bs n Post h => Go.Ab.awp_sound g142 n _ _ _ _ (Go.Ab.kc (by kernel_rfl) h)

-- 143
noncomputable def l143 : Nat → List Nat
  | _ => []
noncomputable def u143 : Nat → Bool
  | _ => false
noncomputable def m143 : Nat → Bool
  | _ => false
noncomputable def g143 : Cfg := { N := 27, live := l143, cut := u143, mu := m143, ret := rets }
noncomputable def c143 : Go.Code := Go.Ab.bodyOf Go.Proofs.Try.f143
theorem s143 : ∀ (bs : List UInt8) (p e most : Int) (Post : AV → List AObj → Prop),
  condP (e != (0 : Int)) (Post (AV.int IntKind.i64 (0 : Int)) [AObj.cells [AV.sl 1 (Seq.map encB (0 : UInt8) bs) Tip.none, AV.int IntKind.i64 p, AV.int IntKind.i64 e]])
      (ASpec Try.prog 250 [AV.ptr 0 0, AV.int IntKind.i64 most]
        [AObj.cells [AV.sl 1 (Seq.map encB (0 : UInt8) bs) Tip.none, AV.int IntKind.i64 p, AV.int IntKind.i64 e]] fun (r : AV) (H' : List AObj) =>
        ∃ (x : Int × Int × Int × Int),
        r = AV.tup [AV.int IntKind.i64 (Prod.fst x), AV.int IntKind.i64 (Prod.fst (Prod.snd x))] ∧
        H' = [AObj.cells [AV.sl 1 (Seq.map encB (0 : UInt8) bs) Tip.none, AV.int IntKind.i64 (Prod.fst (Prod.snd (Prod.snd x))), AV.int IntKind.i64 (Prod.snd (Prod.snd (Prod.snd x)))]] ∧
        Post (AV.int IntKind.i64 (Prod.fst x))
        [AObj.cells [AV.sl 1 (Seq.map encB (0 : UInt8) bs) Tip.none, AV.int IntKind.i64 (Prod.fst (Prod.snd x)), AV.int IntKind.i64 (Prod.snd (Prod.snd (Prod.snd x)))]]) →
    ASpec Try.prog 143 [AV.ptr 0 0, AV.int IntKind.i64 most] [rd bs p e] Post := fun bs p e most Post h => Go.Ab.ASpec.of_vc g143 Go.Proofs.Try.func143 (by kernel_rfl) (by kernel_rfl) (by kernel_rfl) (Go.Ab.kc (by kernel_rfl) h)
theorem s143n : ∀ (most : Int) (Post : AV → List AObj → Prop), Post (AV.int IntKind.i64 (0 : Int)) [] → ASpec Try.prog 143 [AV.nilp, AV.int IntKind.i64 most] [] Post := fun most Post h => Go.Ab.ASpec.of_vc g143 Go.Proofs.Try.func143 (by kernel_rfl) (by kernel_rfl) (by kernel_rfl) (Go.Ab.kc (by kernel_rfl) h)

-- 145
noncomputable def l145 : Nat → List Nat
  | _ => []
noncomputable def u145 : Nat → Bool
  | _ => false
noncomputable def m145 : Nat → Bool
  | _ => false
noncomputable def g145 : Cfg := { N := 56, live := l145, cut := u145, mu := m145, ret := rets }
noncomputable def c145 : Go.Code := Go.Ab.bodyOf Go.Proofs.Try.f145
theorem s145 : ∀ (bs : List UInt8) (p e most : Int) (Post : AV → List AObj → Prop),
  condP (e != (0 : Int)) (Post (AV.str { data := #[] }) [AObj.cells [AV.sl 1 (Seq.map encB (0 : UInt8) bs) Tip.none, AV.int IntKind.i64 p, AV.int IntKind.i64 e]])
      (ASpec Try.prog 250 [AV.ptr 0 0, AV.int IntKind.i64 most]
        [AObj.cells [AV.sl 1 (Seq.map encB (0 : UInt8) bs) Tip.none, AV.int IntKind.i64 p, AV.int IntKind.i64 e]] fun (r : AV) (H' : List AObj) =>
        ∃ (x : Int × Int × Int × Int),
        r = AV.tup [AV.int IntKind.i64 (Prod.fst x), AV.int IntKind.i64 (Prod.fst (Prod.snd x))] ∧
        H' = [AObj.cells [AV.sl 1 (Seq.map encB (0 : UInt8) bs) Tip.none, AV.int IntKind.i64 (Prod.fst (Prod.snd (Prod.snd x))), AV.int IntKind.i64 (Prod.snd (Prod.snd (Prod.snd x)))]] ∧
        condP (Prod.snd (Prod.snd (Prod.snd x)) != (0 : Int))
        (Post (AV.str { data := #[] })
        [AObj.cells [AV.sl 1 (Seq.map encB (0 : UInt8) bs) Tip.none, AV.int IntKind.i64 (Prod.fst (Prod.snd (Prod.snd x))), AV.int IntKind.i64 (Prod.snd (Prod.snd (Prod.snd x)))]])
        (condP (decide (Prod.fst x > IntKind.wrap IntKind.i64 ((↑(List.length bs) : Int) - Prod.fst (Prod.snd x))))
        (Post (AV.str { data := #[] })
        [AObj.cells [AV.sl 1 (Seq.map encB (0 : UInt8) bs) Tip.none, AV.int IntKind.i64 (Prod.fst (Prod.snd (Prod.snd x))), AV.int IntKind.i64 (2 : Int)]])
        (needP
        ((0 : Int) ≤ Prod.fst (Prod.snd x) ∧
        Prod.fst (Prod.snd x) ≤ IntKind.wrap IntKind.i64 (Prod.fst (Prod.snd x) + Prod.fst x) ∧ IntKind.wrap IntKind.i64 (Prod.fst (Prod.snd x) + Prod.fst x) ≤ (↑(List.length bs) : Int))
        (needP
        (allBytes (Seq.map encB (0 : UInt8) (List.drop (Int.toNat (Prod.fst (Prod.snd x))) (List.take (Int.toNat (IntKind.wrap IntKind.i64 (Prod.fst (Prod.snd x) + Prod.fst x))) bs))))
        (Post
        (AV.str
        (bytesOf
        (Seq.map encB (0 : UInt8) (List.drop (Int.toNat (Prod.fst (Prod.snd x))) (List.take (Int.toNat (IntKind.wrap IntKind.i64 (Prod.fst (Prod.snd x) + Prod.fst x))) bs)))))
        [AObj.cells
        [AV.sl 1 (Seq.map encB (0 : UInt8) bs) Tip.none, AV.int IntKind.i64 (IntKind.wrap IntKind.i64 (Prod.fst (Prod.snd x) + Prod.fst x)),
        AV.int IntKind.i64 (Prod.snd (Prod.snd (Prod.snd x)))]]))))) →
    ASpec Try.prog 145 [AV.ptr 0 0, AV.int IntKind.i64 most] [rd bs p e] Post := fun bs p e most Post h => Go.Ab.ASpec.of_vc g145 Go.Proofs.Try.func145 (by kernel_rfl) (by kernel_rfl) (by kernel_rfl) (Go.Ab.kc (by kernel_rfl) h)
theorem s145n : ∀ (most : Int) (Post : AV → List AObj → Prop), Post (AV.str { data := #[] }) [] → ASpec Try.prog 145 [AV.nilp, AV.int IntKind.i64 most] [] Post := fun most Post h => Go.Ab.ASpec.of_vc g145 Go.Proofs.Try.func145 (by kernel_rfl) (by kernel_rfl) (by kernel_rfl) (Go.Ab.kc (by kernel_rfl) h)

-- 144
noncomputable def l144 : Nat → List Nat
  | _ => []
noncomputable def u144 : Nat → Bool
  | _ => false
noncomputable def m144 : Nat → Bool
  | _ => false
noncomputable def g144 : Cfg := { N := 9, live := l144, cut := u144, mu := m144, ret := rets }
noncomputable def c144 : Go.Code := Go.Ab.bodyOf Go.Proofs.Try.f144
theorem s144 : ∀ (bs : List UInt8) (p e : Int) (Post : AV → List AObj → Prop),
  Post (AV.int IntKind.i64 e) [AObj.cells [AV.sl 1 (Seq.map encB (0 : UInt8) bs) Tip.none, AV.int IntKind.i64 p, AV.int IntKind.i64 e]] →
    ASpec Try.prog 144 [AV.ptr 0 0] [rd bs p e] Post := fun bs p e Post h => Go.Ab.ASpec.of_vc g144 Go.Proofs.Try.func144 (by kernel_rfl) (by kernel_rfl) (by kernel_rfl) (Go.Ab.kc (by kernel_rfl) h)
theorem s144n : ∀ (Post : AV → List AObj → Prop), Post (AV.int IntKind.i64 (1 : Int)) [] → ASpec Try.prog 144 [AV.nilp] [] Post := fun Post h => Go.Ab.ASpec.of_vc g144 Go.Proofs.Try.func144 (by kernel_rfl) (by kernel_rfl) (by kernel_rfl) (Go.Ab.kc (by kernel_rfl) h)

-- 251
noncomputable def l251 : Nat → List Nat
  | _ => []
noncomputable def u251 : Nat → Bool
  | _ => false
noncomputable def m251 : Nat → Bool
  | _ => false
noncomputable def g251 : Cfg := { N := 15, live := l251, cut := u251, mu := m251, ret := rets }
noncomputable def c251 : Go.Code := Go.Ab.bodyOf Go.Proofs.Try.f251
theorem s251 : ∀ (bs : List UInt8) (p e : Int) (Post : AV → List AObj → Prop),
  Post (AV.int IntKind.i64 (IntKind.wrap IntKind.i64 ((↑(List.length bs) : Int) - p)))
      [AObj.cells [AV.sl 1 (Seq.map encB (0 : UInt8) bs) Tip.none, AV.int IntKind.i64 p, AV.int IntKind.i64 e]] →
    ASpec Try.prog 251 [AV.ptr 0 0] [rd bs p e] Post := fun bs p e Post h => Go.Ab.ASpec.of_vc g251 Go.Proofs.Try.func251 (by kernel_rfl) (by kernel_rfl) (by kernel_rfl) (Go.Ab.kc (by kernel_rfl) h)
theorem s251n : ∀ (Post : AV → List AObj → Prop), Post (AV.int IntKind.i64 (0 : Int)) [] → ASpec Try.prog 251 [AV.nilp] [] Post := fun Post h => Go.Ab.ASpec.of_vc g251 Go.Proofs.Try.func251 (by kernel_rfl) (by kernel_rfl) (by kernel_rfl) (Go.Ab.kc (by kernel_rfl) h)

-- 146
noncomputable def l146 : Nat → List Nat
  | _ => []
noncomputable def u146 : Nat → Bool
  | _ => false
noncomputable def m146 : Nat → Bool
  | _ => false
noncomputable def g146 : Cfg := { N := 14, live := l146, cut := u146, mu := m146, ret := rets }
noncomputable def c146 : Go.Code := Go.Ab.bodyOf Go.Proofs.Try.f146
theorem s146 : ∀ (bs : List UInt8) (p e : Int) (Post : AV → List AObj → Prop),
  (ASpec Try.prog 144 [AV.ptr 0 0] [AObj.cells [AV.sl 1 (Seq.map encB (0 : UInt8) bs) Tip.none, AV.int IntKind.i64 p, AV.int IntKind.i64 e]]
      fun (r : AV) (H' : List AObj) =>
      ∃ (x : Int),
        r = AV.int IntKind.i64 x ∧
        H' = [AObj.cells [AV.sl 1 (Seq.map encB (0 : UInt8) bs) Tip.none, AV.int IntKind.i64 p, AV.int IntKind.i64 e]] ∧
        condP (x != (0 : Int)) (Post (AV.int IntKind.i64 x) [AObj.cells [AV.sl 1 (Seq.map encB (0 : UInt8) bs) Tip.none, AV.int IntKind.i64 p, AV.int IntKind.i64 e]])
        (ASpec Try.prog 251 [AV.ptr 0 0] [AObj.cells [AV.sl 1 (Seq.map encB (0 : UInt8) bs) Tip.none, AV.int IntKind.i64 p, AV.int IntKind.i64 e]]
        fun (r : AV) (H' : List AObj) =>
        ∃ (x : Int),
        r = AV.int IntKind.i64 x ∧
        H' = [AObj.cells [AV.sl 1 (Seq.map encB (0 : UInt8) bs) Tip.none, AV.int IntKind.i64 p, AV.int IntKind.i64 e]] ∧
        condP (decide (x > (0 : Int)))
        (Post (AV.int IntKind.i64 (3 : Int)) [AObj.cells [AV.sl 1 (Seq.map encB (0 : UInt8) bs) Tip.none, AV.int IntKind.i64 p, AV.int IntKind.i64 e]])
        (Post (AV.int IntKind.i64 (0 : Int)) [AObj.cells [AV.sl 1 (Seq.map encB (0 : UInt8) bs) Tip.none, AV.int IntKind.i64 p, AV.int IntKind.i64 e]]))) →
    ASpec Try.prog 146 [AV.ptr 0 0] [rd bs p e] Post := fun bs p e Post h => Go.Ab.ASpec.of_vc g146 Go.Proofs.Try.func146 (by kernel_rfl) (by kernel_rfl) (by kernel_rfl) (Go.Ab.kc (by kernel_rfl) h)
theorem s146n : ∀ (Post : AV → List AObj → Prop),
  (ASpec Try.prog 144 [AV.nilp] [] fun (r : AV) (H' : List AObj) =>
      ∃ (x : Int),
        r = AV.int IntKind.i64 x ∧
        H' = [] ∧
        condP (x != (0 : Int)) (Post (AV.int IntKind.i64 x) [])
        (ASpec Try.prog 251 [AV.nilp] [] fun (r : AV) (H' : List AObj) =>
        ∃ (x : Int), r = AV.int IntKind.i64 x ∧ H' = [] ∧ condP (decide (x > (0 : Int))) (Post (AV.int IntKind.i64 (3 : Int)) []) (Post (AV.int IntKind.i64 (0 : Int)) []))) →
    ASpec Try.prog 146 [AV.nilp] [] Post := fun Post h => Go.Ab.ASpec.of_vc g146 Go.Proofs.Try.func146 (by kernel_rfl) (by kernel_rfl) (by kernel_rfl) (Go.Ab.kc (by kernel_rfl) h)

-- 147
noncomputable def l147 : Nat → List Nat
  | _ => []
noncomputable def u147 : Nat → Bool
  | _ => false
noncomputable def m147 : Nat → Bool
  | _ => false
noncomputable def g147 : Cfg := { N := 37, live := l147, cut := u147, mu := m147, ret := rets }
noncomputable def c147 : Go.Code := Go.Ab.bodyOf Go.Proofs.Try.f147
theorem s147 : ∀ (s : ByteArray) (e most : Int) (Post : AV → List AObj → Prop),
  condP (e != (0 : Int)) (Post (AV.int IntKind.i64 (0 : Int)) [AObj.cells [AV.str s, AV.int IntKind.i64 e]])
      (ASpec Try.prog 252 [AV.str s, AV.int IntKind.i64 most] [AObj.cells [AV.str s, AV.int IntKind.i64 e]] fun (r : AV) (H' : List AObj) =>
        ∃ (x : Int × Int × Int),
        r = AV.tup [AV.int IntKind.i64 (Prod.fst x), AV.int IntKind.i64 (Prod.fst (Prod.snd x)), AV.int IntKind.i64 (Prod.snd (Prod.snd x))] ∧
        H' = [AObj.cells [AV.str s, AV.int IntKind.i64 e]] ∧
        needP ((0 : Int) ≤ Prod.fst (Prod.snd x) ∧ Prod.fst (Prod.snd x) ≤ (↑(ByteArray.size s) : Int))
        (Post (AV.int IntKind.i64 (Prod.fst x))
        [AObj.cells [AV.str (ByteArray.extract s (Int.toNat (Prod.fst (Prod.snd x))) (ByteArray.size s)), AV.int IntKind.i64 (Prod.snd (Prod.snd x))]])) →
    ASpec Try.prog 147 [AV.ptr 0 0, AV.int IntKind.i64 most] [AObj.cells [AV.str s, AV.int IntKind.i64 e]] Post := fun s e most Post h => Go.Ab.ASpec.of_vc g147 Go.Proofs.Try.func147 (by kernel_rfl) (by kernel_rfl) (by kernel_rfl) (Go.Ab.kc (by kernel_rfl) h)

-- 148
noncomputable def l148 : Nat → List Nat
  | _ => []
noncomputable def u148 : Nat → Bool
  | _ => false
noncomputable def m148 : Nat → Bool
  | _ => false
noncomputable def g148 : Cfg := { N := 64, live := l148, cut := u148, mu := m148, ret := rets }
noncomputable def c148 : Go.Code := Go.Ab.bodyOf Go.Proofs.Try.f148
theorem s148 : ∀ (s : ByteArray) (e most : Int) (Post : AV → List AObj → Prop),
  condP (e != (0 : Int)) (Post (AV.str { data := #[] }) [AObj.cells [AV.str s, AV.int IntKind.i64 e]])
      (ASpec Try.prog 252 [AV.str s, AV.int IntKind.i64 most] [AObj.cells [AV.str s, AV.int IntKind.i64 e]] fun (r : AV) (H' : List AObj) =>
        ∃ (x : Int × Int × Int),
        r = AV.tup [AV.int IntKind.i64 (Prod.fst x), AV.int IntKind.i64 (Prod.fst (Prod.snd x)), AV.int IntKind.i64 (Prod.snd (Prod.snd x))] ∧
        H' = [AObj.cells [AV.str s, AV.int IntKind.i64 e]] ∧
        condP (Prod.snd (Prod.snd x) == (0 : Int))
        (condP (decide (Prod.fst x > IntKind.wrap IntKind.i64 ((↑(ByteArray.size s) : Int) - Prod.fst (Prod.snd x))))
        (Post (AV.str { data := #[] }) [AObj.cells [AV.str s, AV.int IntKind.i64 (2 : Int)]])
        (condP (Prod.snd (Prod.snd x) != (0 : Int)) (Post (AV.str { data := #[] }) [AObj.cells [AV.str s, AV.int IntKind.i64 (Prod.snd (Prod.snd x))]])
        (needP
        ((0 : Int) ≤ Prod.fst (Prod.snd x) ∧
        Prod.fst (Prod.snd x) ≤ IntKind.wrap IntKind.i64 (Prod.fst (Prod.snd x) + Prod.fst x) ∧
        IntKind.wrap IntKind.i64 (Prod.fst (Prod.snd x) + Prod.fst x) ≤ (↑(ByteArray.size s) : Int))
        (needP ((0 : Int) ≤ IntKind.wrap IntKind.i64 (Prod.fst (Prod.snd x) + Prod.fst x) ∧ IntKind.wrap IntKind.i64 (Prod.fst (Prod.snd x) + Prod.fst x) ≤ (↑(ByteArray.size s) : Int))
        (Post (AV.str (ByteArray.extract s (Int.toNat (Prod.fst (Prod.snd x))) (Int.toNat (IntKind.wrap IntKind.i64 (Prod.fst (Prod.snd x) + Prod.fst x)))))
        [AObj.cells
        [AV.str (ByteArray.extract s (Int.toNat (IntKind.wrap IntKind.i64 (Prod.fst (Prod.snd x) + Prod.fst x))) (ByteArray.size s)),
        AV.int IntKind.i64 (Prod.snd (Prod.snd x))]])))))
        (condP (Prod.snd (Prod.snd x) != (0 : Int)) (Post (AV.str { data := #[] }) [AObj.cells [AV.str s, AV.int IntKind.i64 (Prod.snd (Prod.snd x))]])
        (needP
        ((0 : Int) ≤ Prod.fst (Prod.snd x) ∧
        Prod.fst (Prod.snd x) ≤ IntKind.wrap IntKind.i64 (Prod.fst (Prod.snd x) + Prod.fst x) ∧
        IntKind.wrap IntKind.i64 (Prod.fst (Prod.snd x) + Prod.fst x) ≤ (↑(ByteArray.size s) : Int))
        (needP ((0 : Int) ≤ IntKind.wrap IntKind.i64 (Prod.fst (Prod.snd x) + Prod.fst x) ∧ IntKind.wrap IntKind.i64 (Prod.fst (Prod.snd x) + Prod.fst x) ≤ (↑(ByteArray.size s) : Int))
        (Post (AV.str (ByteArray.extract s (Int.toNat (Prod.fst (Prod.snd x))) (Int.toNat (IntKind.wrap IntKind.i64 (Prod.fst (Prod.snd x) + Prod.fst x)))))
        [AObj.cells
        [AV.str (ByteArray.extract s (Int.toNat (IntKind.wrap IntKind.i64 (Prod.fst (Prod.snd x) + Prod.fst x))) (ByteArray.size s)),
        AV.int IntKind.i64 (Prod.snd (Prod.snd x))]]))))) →
    ASpec Try.prog 148 [AV.ptr 0 0, AV.int IntKind.i64 most] [AObj.cells [AV.str s, AV.int IntKind.i64 e]] Post := fun s e most Post h => Go.Ab.ASpec.of_vc g148 Go.Proofs.Try.func148 (by kernel_rfl) (by kernel_rfl) (by kernel_rfl) (Go.Ab.kc (by kernel_rfl) h)

-- 149
noncomputable def l149 : Nat → List Nat
  | _ => []
noncomputable def u149 : Nat → Bool
  | _ => false
noncomputable def m149 : Nat → Bool
  | _ => false
noncomputable def g149 : Cfg := { N := 19, live := l149, cut := u149, mu := m149, ret := rets }
noncomputable def c149 : Go.Code := Go.Ab.bodyOf Go.Proofs.Try.f149
theorem s149 : ∀ (s : ByteArray) (e : Int) (Post : AV → List AObj → Prop),
  condP (e == (0 : Int))
      (condP (!ByteArray.toList s == ByteArray.toList { data := #[] }) (Post (AV.int IntKind.i64 (3 : Int)) [AObj.cells [AV.str s, AV.int IntKind.i64 e]])
        (Post (AV.int IntKind.i64 e) [AObj.cells [AV.str s, AV.int IntKind.i64 e]]))
      (Post (AV.int IntKind.i64 e) [AObj.cells [AV.str s, AV.int IntKind.i64 e]]) →
    ASpec Try.prog 149 [AV.ptr 0 0] [AObj.cells [AV.str s, AV.int IntKind.i64 e]] Post := fun s e Post h => Go.Ab.ASpec.of_vc g149 Go.Proofs.Try.func149 (by kernel_rfl) (by kernel_rfl) (by kernel_rfl) (Go.Ab.kc (by kernel_rfl) h)

-- 250
noncomputable def l250 : Nat → List Nat
  | 9 => [0, 1, 6, 44]
  | _ => []
noncomputable def u250 : Nat → Bool
  | _ => false
noncomputable def m250 : Nat → Bool
  | _ => false
noncomputable def g250 : Cfg := { N := 113, live := l250, cut := u250, mu := m250, ret := rets }
noncomputable def c250 : Go.Code := Go.Ab.bodyOf Go.Proofs.Try.f250
noncomputable def q250_0 : Nat → (AV → List AObj → Prop) → AQ := fun (n : Nat) (Post : AV → List AObj → Prop) => endQ Try.prog (resultsOf Try.f250) Post
noncomputable def q250_1 : Nat → (AV → List AObj → Prop) → AQ := fun (n : Nat) (Post : AV → List AObj → Prop) => seqQ (fun (s' : Slots) (H' : List AObj) => awp Try.prog g250 n (codeSnd (codeSnd (codeSnd (codeSnd (codeSnd c250))))) s' H' (q250_0 n Post)) (q250_0 n Post)
noncomputable def q250_2 : Nat → (AV → List AObj → Prop) → AQ := fun (n : Nat) (Post : AV → List AObj → Prop) => blockQ 0 (q250_1 n Post)
noncomputable def c250_9 : Go.Code := codeFst (codeSnd (codeFst (codeSnd (codeSnd (codeSnd (codeSnd c250))))))
theorem s250 : ∀ (bs : List UInt8) (p e most : Int) (Post : AV → List AObj → Prop),
  condP (p == (↑(List.length bs) : Int))
      ((AV.int IntKind.i64 p = AV.int IntKind.i64 p ∧
        [AObj.cells [AV.sl 1 (Seq.map encB (0 : UInt8) bs) Tip.none, AV.int IntKind.i64 p, AV.int IntKind.i64 (2 : Int)]] =
        [AObj.cells [AV.sl 1 (Seq.map encB (0 : UInt8) bs) Tip.none, AV.int IntKind.i64 p, AV.int IntKind.i64 (2 : Int)]]) ∧
        Post (AV.tup [AV.int IntKind.i64 (0 : Int), AV.int IntKind.i64 p]) [AObj.cells [AV.sl 1 (Seq.map encB (0 : UInt8) bs) Tip.none, AV.int IntKind.i64 p, AV.int IntKind.i64 (2 : Int)]])
      (needP ((0 : Int) ≤ p ∧ p < (↑(List.length bs) : Int))
        (condP ((↑(UInt8.toNat (List.getD bs (Int.toNat p) (0 : UInt8))) : Int) == (128 : Int))
        ((AV.int IntKind.i64 p = AV.int IntKind.i64 p ∧
        [AObj.cells [AV.sl 1 (Seq.map encB (0 : UInt8) bs) Tip.none, AV.int IntKind.i64 p, AV.int IntKind.i64 (3 : Int)]] =
        [AObj.cells [AV.sl 1 (Seq.map encB (0 : UInt8) bs) Tip.none, AV.int IntKind.i64 p, AV.int IntKind.i64 (3 : Int)]]) ∧
        Post (AV.tup [AV.int IntKind.i64 (0 : Int), AV.int IntKind.i64 p])
        [AObj.cells [AV.sl 1 (Seq.map encB (0 : UInt8) bs) Tip.none, AV.int IntKind.i64 p, AV.int IntKind.i64 (3 : Int)]])
        (AWP Try.prog 113 1 c250_9
        [(0, AV.ptr 0 0), (1, AV.int IntKind.i64 most), (6, AV.int IntKind.i64 (0 : Int)), (44, AV.int IntKind.i64 (0 : Int))]
        [AObj.cells [AV.sl 1 (Seq.map encB (0 : UInt8) bs) Tip.none, AV.int IntKind.i64 p, AV.int IntKind.i64 e]] (q250_2 1 Post)))) →
    ASpec Try.prog 250 [AV.ptr 0 0, AV.int IntKind.i64 most] [rd bs p e] Post := fun bs p e most Post h => Go.Ab.ASpec.of_vc g250 Go.Proofs.Try.func250 (by kernel_rfl) (by kernel_rfl) (by kernel_rfl) (Go.Ab.kc (by kernel_rfl) h)
theorem v250_9 : ∀ (bs : List UInt8) (p e most x i : Int) (n : Nat) (Post : AV → List AObj → Prop),
  condP (decide (i < (6 : Int)))
      (condP (IntKind.wrap IntKind.i64 (p + i) == (↑(List.length bs) : Int))
        ((AV.int IntKind.i64 p = AV.int IntKind.i64 p ∧
        [AObj.cells [AV.sl 1 (Seq.map encB (0 : UInt8) bs) Tip.none, AV.int IntKind.i64 p, AV.int IntKind.i64 (2 : Int)]] =
        [AObj.cells [AV.sl 1 (Seq.map encB (0 : UInt8) bs) Tip.none, AV.int IntKind.i64 p, AV.int IntKind.i64 (2 : Int)]]) ∧
        Post (AV.tup [AV.int IntKind.i64 (0 : Int), AV.int IntKind.i64 p]) [AObj.cells [AV.sl 1 (Seq.map encB (0 : UInt8) bs) Tip.none, AV.int IntKind.i64 p, AV.int IntKind.i64 (2 : Int)]])
        (needP ((0 : Int) ≤ IntKind.wrap IntKind.i64 (p + i) ∧ IntKind.wrap IntKind.i64 (p + i) < (↑(List.length bs) : Int))
        (needP ((128 : Int) ≠ (0 : Int))
        (condP (decide (IntKind.wrap IntKind.i64 (↑(UInt8.toNat (List.getD bs (Int.toNat (IntKind.wrap IntKind.i64 (p + i))) (0 : UInt8))) : Int) ≥ (128 : Int)))
        (AWP Try.prog 113 n c250_9
        [(0, AV.ptr 0 0), (1, AV.int IntKind.i64 most),
        (6,
        AV.int IntKind.i64
        (IntKind.wrap IntKind.i64
        (IntKind.wrap IntKind.i64 (x * (128 : Int)) +
        Int.tmod (IntKind.wrap IntKind.i64 (↑(UInt8.toNat (List.getD bs (Int.toNat (IntKind.wrap IntKind.i64 (p + i))) (0 : UInt8))) : Int)) (128 : Int)))),
        (44, AV.int IntKind.i64 (IntKind.wrap IntKind.i64 (i + (1 : Int))))]
        [AObj.cells [AV.sl 1 (Seq.map encB (0 : UInt8) bs) Tip.none, AV.int IntKind.i64 p, AV.int IntKind.i64 e]] (q250_2 n Post))
        (condP
        (decide
        (IntKind.wrap IntKind.i64
        (IntKind.wrap IntKind.i64 (x * (128 : Int)) +
        Int.tmod (IntKind.wrap IntKind.i64 (↑(UInt8.toNat (List.getD bs (Int.toNat (IntKind.wrap IntKind.i64 (p + i))) (0 : UInt8))) : Int)) (128 : Int)) >
        if (1099511627776 : Int) < most then (1099511627776 : Int) else most))
        ((AV.int IntKind.i64 p = AV.int IntKind.i64 p ∧
        [AObj.cells [AV.sl 1 (Seq.map encB (0 : UInt8) bs) Tip.none, AV.int IntKind.i64 p, AV.int IntKind.i64 (4 : Int)]] =
        [AObj.cells [AV.sl 1 (Seq.map encB (0 : UInt8) bs) Tip.none, AV.int IntKind.i64 p, AV.int IntKind.i64 (4 : Int)]]) ∧
        Post (AV.tup [AV.int IntKind.i64 (0 : Int), AV.int IntKind.i64 p])
        [AObj.cells [AV.sl 1 (Seq.map encB (0 : UInt8) bs) Tip.none, AV.int IntKind.i64 p, AV.int IntKind.i64 (4 : Int)]])
        ((AV.int IntKind.i64 p = AV.int IntKind.i64 p ∧
        [AObj.cells [AV.sl 1 (Seq.map encB (0 : UInt8) bs) Tip.none, AV.int IntKind.i64 p, AV.int IntKind.i64 e]] =
        [AObj.cells [AV.sl 1 (Seq.map encB (0 : UInt8) bs) Tip.none, AV.int IntKind.i64 p, AV.int IntKind.i64 e]]) ∧
        Post
        (AV.tup
        [AV.int IntKind.i64
        (IntKind.wrap IntKind.i64
        (IntKind.wrap IntKind.i64 (x * (128 : Int)) +
        Int.tmod (IntKind.wrap IntKind.i64 (↑(UInt8.toNat (List.getD bs (Int.toNat (IntKind.wrap IntKind.i64 (p + i))) (0 : UInt8))) : Int)) (128 : Int))),
        AV.int IntKind.i64 (IntKind.wrap IntKind.i64 (IntKind.wrap IntKind.i64 (p + i) + (1 : Int)))])
        [AObj.cells [AV.sl 1 (Seq.map encB (0 : UInt8) bs) Tip.none, AV.int IntKind.i64 p, AV.int IntKind.i64 e]]))))))
      ((AV.int IntKind.i64 p = AV.int IntKind.i64 p ∧
        [AObj.cells [AV.sl 1 (Seq.map encB (0 : UInt8) bs) Tip.none, AV.int IntKind.i64 p, AV.int IntKind.i64 (4 : Int)]] =
        [AObj.cells [AV.sl 1 (Seq.map encB (0 : UInt8) bs) Tip.none, AV.int IntKind.i64 p, AV.int IntKind.i64 (4 : Int)]]) ∧
        Post (AV.tup [AV.int IntKind.i64 (0 : Int), AV.int IntKind.i64 p]) [AObj.cells [AV.sl 1 (Seq.map encB (0 : UInt8) bs) Tip.none, AV.int IntKind.i64 p, AV.int IntKind.i64 (4 : Int)]]) →
    AWP Try.prog 113 n c250_9 [(0, AV.ptr 0 0), (1, AV.int IntKind.i64 most), (6, AV.int IntKind.i64 x), (44, AV.int IntKind.i64 i)] [rd bs p e]
      (q250_2 n Post) := fun bs p e most x i n Post h => Go.Ab.AWP.loop' g250 (Cfg.live g250) c250_9 (by kernel_rfl) (by kernel_rfl) (Go.Ab.kc (by kernel_rfl) h)

-- 252
noncomputable def l252 : Nat → List Nat
  | 6 => [0, 1, 7]
  | 14 => [0, 1, 7, 8, 9]
  | _ => []
noncomputable def u252 : Nat → Bool
  | _ => false
noncomputable def m252 : Nat → Bool
  | _ => false
noncomputable def g252 : Cfg := { N := 60, live := l252, cut := u252, mu := m252, ret := rets }
noncomputable def c252 : Go.Code := Go.Ab.bodyOf Go.Proofs.Try.f252
noncomputable def q252_0 : Nat → (AV → List AObj → Prop) → AQ := fun (n : Nat) (Post : AV → List AObj → Prop) => endQ Try.prog (resultsOf Try.f252) Post
noncomputable def q252_1 : Nat → (AV → List AObj → Prop) → AQ := fun (n : Nat) (Post : AV → List AObj → Prop) => seqQ (fun (s' : Slots) (H' : List AObj) => awp Try.prog g252 n (codeSnd (codeSnd (codeSnd (codeSnd (codeSnd c252))))) s' H' (q252_0 n Post)) (q252_0 n Post)
noncomputable def q252_2 : Nat → (AV → List AObj → Prop) → AQ := fun (n : Nat) (Post : AV → List AObj → Prop) => blockQ 0 (q252_1 n Post)
noncomputable def c252_6 : Go.Code := codeFst (codeFst (codeSnd (codeSnd (codeSnd (codeSnd c252)))))
theorem s252 : ∀ (s : ByteArray) (most : Int) (Post : AV → List AObj → Prop),
  condP (ByteArray.toList s == ByteArray.toList { data := #[] }) (Post (AV.tup [AV.int IntKind.i64 (0 : Int), AV.int IntKind.i64 (0 : Int), AV.int IntKind.i64 (2 : Int)]) [])
      (needP ((0 : Int) ≤ (0 : Int) ∧ (0 : Int) < (↑(ByteArray.size s) : Int))
        (condP ((↑(UInt8.toNat (List.getD (Array.toList (ByteArray.data s)) 0 (0 : UInt8))) : Int) == (128 : Int))
        (Post (AV.tup [AV.int IntKind.i64 (0 : Int), AV.int IntKind.i64 (0 : Int), AV.int IntKind.i64 (3 : Int)]) [])
        (AWP Try.prog 60 0 c252_6 [(0, AV.str s), (1, AV.int IntKind.i64 most), (7, AV.int IntKind.i64 (0 : Int))] [] (q252_2 0 Post)))) →
    ASpec Try.prog 252 [AV.str s, AV.int IntKind.i64 most] [] Post := fun s most Post h => Go.Ab.ASpec.of_vc g252 Go.Proofs.Try.func252 (by kernel_rfl) (by kernel_rfl) (by kernel_rfl) (Go.Ab.kc (by kernel_rfl) h)
noncomputable def q252_3 : Nat → (AV → List AObj → Prop) → AQ := fun (n : Nat) (Post : AV → List AObj → Prop) => seqQ (fun (s' : Slots) (H' : List AObj) => awp Try.prog g252 n (codeSnd (codeSnd (codeSnd (codeSnd (codeSnd (codeSnd (codeSnd (codeSnd (codeSnd c252))))))))) s' H' (q252_0 n Post)) (q252_0 n Post)
noncomputable def q252_4 : Nat → (AV → List AObj → Prop) → AQ := fun (n : Nat) (Post : AV → List AObj → Prop) => blockQ 2 (q252_3 n Post)
noncomputable def c252_14 : Go.Code := codeFst (codeSnd (codeFst (codeSnd (codeSnd (codeSnd (codeSnd (codeSnd (codeSnd (codeSnd (codeSnd c252))))))))))
theorem v252_6 : ∀ (s : ByteArray) (most k : Int) (n : Nat) (Post : AV → List AObj → Prop),
  condP (decide (k < (↑(ByteArray.size s) : Int)))
      (condP (decide (k < (6 : Int)))
        (needP ((0 : Int) ≤ k ∧ k < (↑(ByteArray.size s) : Int))
        (condP (decide ((↑(UInt8.toNat (List.getD (Array.toList (ByteArray.data s)) (Int.toNat k) (0 : UInt8))) : Int) ≥ (128 : Int)))
        (AWP Try.prog 60 n c252_6 [(0, AV.str s), (1, AV.int IntKind.i64 most), (7, AV.int IntKind.i64 (IntKind.wrap IntKind.i64 (k + (1 : Int))))] []
        (q252_2 n Post))
        (condP (k == (6 : Int)) (Post (AV.tup [AV.int IntKind.i64 (0 : Int), AV.int IntKind.i64 (0 : Int), AV.int IntKind.i64 (4 : Int)]) [])
        (condP (k == (↑(ByteArray.size s) : Int)) (Post (AV.tup [AV.int IntKind.i64 (0 : Int), AV.int IntKind.i64 (0 : Int), AV.int IntKind.i64 (2 : Int)]) [])
        (AWP Try.prog 60 n c252_14
        [(0, AV.str s), (1, AV.int IntKind.i64 most), (7, AV.int IntKind.i64 k), (8, AV.int IntKind.i64 (0 : Int)), (9, AV.int IntKind.i64 (0 : Int))]
        [] (q252_4 n Post))))))
        (condP (k == (6 : Int)) (Post (AV.tup [AV.int IntKind.i64 (0 : Int), AV.int IntKind.i64 (0 : Int), AV.int IntKind.i64 (4 : Int)]) [])
        (condP (k == (↑(ByteArray.size s) : Int)) (Post (AV.tup [AV.int IntKind.i64 (0 : Int), AV.int IntKind.i64 (0 : Int), AV.int IntKind.i64 (2 : Int)]) [])
        (AWP Try.prog 60 n c252_14
        [(0, AV.str s), (1, AV.int IntKind.i64 most), (7, AV.int IntKind.i64 k), (8, AV.int IntKind.i64 (0 : Int)), (9, AV.int IntKind.i64 (0 : Int))] []
        (q252_4 n Post)))))
      (condP (k == (6 : Int)) (Post (AV.tup [AV.int IntKind.i64 (0 : Int), AV.int IntKind.i64 (0 : Int), AV.int IntKind.i64 (4 : Int)]) [])
        (condP (k == (↑(ByteArray.size s) : Int)) (Post (AV.tup [AV.int IntKind.i64 (0 : Int), AV.int IntKind.i64 (0 : Int), AV.int IntKind.i64 (2 : Int)]) [])
        (AWP Try.prog 60 n c252_14
        [(0, AV.str s), (1, AV.int IntKind.i64 most), (7, AV.int IntKind.i64 k), (8, AV.int IntKind.i64 (0 : Int)), (9, AV.int IntKind.i64 (0 : Int))] []
        (q252_4 n Post)))) →
    AWP Try.prog 60 n c252_6 [(0, AV.str s), (1, AV.int IntKind.i64 most), (7, AV.int IntKind.i64 k)] [] (q252_2 n Post) := fun s most k n Post h => Go.Ab.AWP.loop' g252 (Cfg.live g252) c252_6 (by kernel_rfl) (by kernel_rfl) (Go.Ab.kc (by kernel_rfl) h)
theorem v252_14 : ∀ (s : ByteArray) (most k x i : Int) (n : Nat) (Post : AV → List AObj → Prop),
  condP (decide (i ≤ k))
      (needP ((0 : Int) ≤ i ∧ i < (↑(ByteArray.size s) : Int))
        (needP ((128 : Int) ≠ (0 : Int))
        (AWP Try.prog 60 n c252_14
        [(0, AV.str s), (1, AV.int IntKind.i64 most), (7, AV.int IntKind.i64 k),
        (8,
        AV.int IntKind.i64
        (IntKind.wrap IntKind.i64
        (IntKind.wrap IntKind.i64 (x * (128 : Int)) +
        IntKind.wrap IntKind.i64 (Int.tmod (↑(UInt8.toNat (List.getD (Array.toList (ByteArray.data s)) (Int.toNat i) (0 : UInt8))) : Int) (128 : Int))))),
        (9, AV.int IntKind.i64 (IntKind.wrap IntKind.i64 (i + (1 : Int))))]
        [] (q252_4 n Post))))
      (condP (decide (x > (1099511627776 : Int))) (Post (AV.tup [AV.int IntKind.i64 (0 : Int), AV.int IntKind.i64 (0 : Int), AV.int IntKind.i64 (4 : Int)]) [])
        (condP (decide (x > most)) (Post (AV.tup [AV.int IntKind.i64 (0 : Int), AV.int IntKind.i64 (0 : Int), AV.int IntKind.i64 (4 : Int)]) [])
        (Post (AV.tup [AV.int IntKind.i64 x, AV.int IntKind.i64 (IntKind.wrap IntKind.i64 (k + (1 : Int))), AV.int IntKind.i64 (0 : Int)]) []))) →
    AWP Try.prog 60 n c252_14
      [(0, AV.str s), (1, AV.int IntKind.i64 most), (7, AV.int IntKind.i64 k), (8, AV.int IntKind.i64 x), (9, AV.int IntKind.i64 i)] [] (q252_4 n Post) := fun s most k x i n Post h => Go.Ab.AWP.loop' g252 (Cfg.live g252) c252_14 (by kernel_rfl) (by kernel_rfl) (Go.Ab.kc (by kernel_rfl) h)

end
end V
end

section
/- Spans, needs, releases and manifests as cells. -/

open Go Go.Ab Go.Proofs
namespace T
abbrev Span := Int × Int
abbrev Need := List UInt8 × List Span
abbrev Rel := Int × List Need
abbrev Mani := List UInt8 × List Rel
noncomputable def encS (x : Span) : List AV := [.int .i64 x.1, .int .i64 x.2]
noncomputable def encN (x : Need) : List AV := [.str ⟨x.1.toArray⟩, .sl 2 (.map encS (0, 0) x.2) .none]
noncomputable def encR (x : Rel) : List AV := [.int .i64 x.1, .sl 2 (.map encN ([], []) x.2) .none]
noncomputable def encM (x : Mani) : List AV := [.str ⟨x.1.toArray⟩, .sl 2 (.map encR (0, []) x.2) .none]
end T
end

section
/- Printed: what the code of functions 256, 285, 232, 239, 185, 186, 231, 130, 66, 163, 173, 62 asks for, by the framework's own reading of it; each line is checked against the code. -/

set_option linter.unusedVariables false
set_option maxRecDepth 100000
set_option maxHeartbeats 4000000
open Go Go.Ab Go.Proofs
namespace C
noncomputable section

noncomputable def retC : List (Nat × Ret) := [
  (39, ⟨Bool, fun _ _ x => .bool x, fun _ H _ => H⟩), (66, ⟨Bool, fun _ _ x => .bool x, fun _ H _ => H⟩), (62, ⟨Bool, fun _ _ x => .bool x, fun _ H _ => H⟩), (186, ⟨Bool, fun _ _ x => .bool x, fun _ H _ => H⟩),
  (154, ⟨Bool, fun _ _ x => .bool x, fun _ H _ => H⟩), (130, ⟨Bool, fun _ _ x => .bool x, fun _ H _ => H⟩), (185, ⟨Bool, fun _ _ x => .bool x, fun _ H _ => H⟩), (173, ⟨Bool, fun _ _ x => .bool x, fun _ H _ => H⟩),
  (231, ⟨Bool, fun _ _ x => .bool x, fun _ H _ => H⟩), (239, ⟨Bool, fun _ _ x => .bool x, fun _ H _ => H⟩), (163, ⟨Bool, fun _ _ x => .bool x, fun _ H _ => H⟩), (232, ⟨Bool, fun _ _ x => .bool x, fun _ H _ => H⟩),
  (285, ⟨Bool, fun _ _ x => .bool x, fun _ H _ => H⟩), (256, ⟨Bool, fun _ _ x => .bool x, fun _ H _ => H⟩)]
noncomputable def rets : FuncId → List Ret := lookupR (retC ++ V.retL)

-- 256
noncomputable def l256 : Nat → List Nat
  | 3 => [3, 6, 7, 8]
  | _ => []
noncomputable def u256 : Nat → Bool
  | _ => false
noncomputable def m256 : Nat → Bool
  | _ => false
noncomputable def g256 : Cfg := { N := 31, live := l256, cut := u256, mu := m256, ret := rets }
noncomputable def c256 : Go.Code := Go.Ab.bodyOf Go.Proofs.Try.f256
noncomputable def q256_0 : Nat → (AV → List AObj → Prop) → AQ := fun (n : Nat) (Post : AV → List AObj → Prop) => endQ Try.prog (resultsOf Try.f256) Post
noncomputable def q256_1 : Nat → (AV → List AObj → Prop) → AQ := fun (n : Nat) (Post : AV → List AObj → Prop) => seqQ (fun (s' : Slots) (H' : List AObj) => awp Try.prog g256 n (codeSnd (codeSnd (codeSnd c256))) s' H' (q256_0 n Post)) (q256_0 n Post)
noncomputable def q256_2 : Nat → (AV → List AObj → Prop) → AQ := fun (n : Nat) (Post : AV → List AObj → Prop) => blockQ 0 (q256_1 n Post)
noncomputable def c256_3 : Go.Code := codeFst (codeSnd (codeFst (codeSnd (codeSnd c256))))
theorem s256 : ∀ (l : List T.Span) (Post : AV → List AObj → Prop),
  AWP Try.prog 31 0 c256_3
      [(3, AV.int IntKind.i64 (-1 : Int)), (6, AV.sl 2 (Seq.map T.encS ((0 : Int), (0 : Int)) l) Tip.none), (7, AV.int IntKind.i64 (↑(List.length l) : Int)),
        (8, AV.int IntKind.i64 (0 : Int))]
      [] (q256_2 0 Post) →
    ASpec Try.prog 256 [AV.sl 2 (Seq.map T.encS ((0 : Int), (0 : Int)) l) Tip.none] [] Post := fun l Post h => Go.Ab.ASpec.of_vc g256 Go.Proofs.Try.func256 (by kernel_rfl) (by kernel_rfl) (by kernel_rfl) (Go.Ab.kc (by kernel_rfl) h)
theorem v256_3 : ∀ (l : List T.Span) (e n i : Int) (n_1 : Nat) (Post : AV → List AObj → Prop),
  condP (decide (i < n))
      (needP ((0 : Int) ≤ i ∧ i < (↑(List.length l) : Int))
        (condP (decide (Prod.fst (List.getD l (Int.toNat i) ((0 : Int), (0 : Int))) ≤ e))
        (Post (AV.bool false)
        [AObj.cells [AV.int IntKind.i64 (Prod.fst (List.getD l (Int.toNat i) ((0 : Int), (0 : Int)))), AV.int IntKind.i64 (Prod.snd (List.getD l (Int.toNat i) ((0 : Int), (0 : Int))))]])
        (condP (decide (Prod.fst (List.getD l (Int.toNat i) ((0 : Int), (0 : Int))) ≥ Prod.snd (List.getD l (Int.toNat i) ((0 : Int), (0 : Int)))))
        (Post (AV.bool false)
        [AObj.cells [AV.int IntKind.i64 (Prod.fst (List.getD l (Int.toNat i) ((0 : Int), (0 : Int)))), AV.int IntKind.i64 (Prod.snd (List.getD l (Int.toNat i) ((0 : Int), (0 : Int))))]])
        (condP (decide (Prod.snd (List.getD l (Int.toNat i) ((0 : Int), (0 : Int))) > (1000000000 : Int)))
        (Post (AV.bool false)
        [AObj.cells [AV.int IntKind.i64 (Prod.fst (List.getD l (Int.toNat i) ((0 : Int), (0 : Int)))), AV.int IntKind.i64 (Prod.snd (List.getD l (Int.toNat i) ((0 : Int), (0 : Int))))]])
        (AWP Try.prog 31 n_1 c256_3
        [(3, AV.int IntKind.i64 (Prod.snd (List.getD l (Int.toNat i) ((0 : Int), (0 : Int))))), (6, AV.sl 2 (Seq.map T.encS ((0 : Int), (0 : Int)) l) Tip.none),
        (7, AV.int IntKind.i64 n), (8, AV.int IntKind.i64 (IntKind.wrap IntKind.i64 (i + (1 : Int))))]
        [AObj.cells [AV.int IntKind.i64 (Prod.fst (List.getD l (Int.toNat i) ((0 : Int), (0 : Int)))), AV.int IntKind.i64 (Prod.snd (List.getD l (Int.toNat i) ((0 : Int), (0 : Int))))]]
        (q256_2 n_1 Post))))))
      (Post (AV.bool true) []) →
    AWP Try.prog 31 n_1 c256_3
      [(3, AV.int IntKind.i64 e), (6, AV.sl 2 (Seq.map T.encS ((0 : Int), (0 : Int)) l) Tip.none), (7, AV.int IntKind.i64 n), (8, AV.int IntKind.i64 i)] []
      (q256_2 n_1 Post) := fun l e n i n Post h => Go.Ab.AWP.loop' g256 (Cfg.live g256) c256_3 (by kernel_rfl) (by kernel_rfl) (Go.Ab.kc (by kernel_rfl) h)

-- 285
noncomputable def l285 : Nat → List Nat
  | 2 => [0, 3]
  | _ => []
noncomputable def u285 : Nat → Bool
  | _ => false
noncomputable def m285 : Nat → Bool
  | _ => false
noncomputable def g285 : Cfg := { N := 55, live := l285, cut := u285, mu := m285, ret := rets }
noncomputable def c285 : Go.Code := Go.Ab.bodyOf Go.Proofs.Try.f285
noncomputable def q285_0 : Nat → (AV → List AObj → Prop) → AQ := fun (n : Nat) (Post : AV → List AObj → Prop) => endQ Try.prog (resultsOf Try.f285) Post
noncomputable def q285_1 : Nat → (AV → List AObj → Prop) → AQ := fun (n : Nat) (Post : AV → List AObj → Prop) => seqQ (fun (s' : Slots) (H' : List AObj) => awp Try.prog g285 n (codeSnd (codeSnd c285)) s' H' (q285_0 n Post)) (q285_0 n Post)
noncomputable def q285_2 : Nat → (AV → List AObj → Prop) → AQ := fun (n : Nat) (Post : AV → List AObj → Prop) => blockQ 0 (q285_1 n Post)
noncomputable def c285_2 : Go.Code := codeFst (codeSnd (codeFst (codeSnd c285)))
theorem s285 : ∀ (l : List T.Span) (Post : AV → List AObj → Prop),
  AWP Try.prog 55 0 c285_2 [(0, AV.sl 2 (Seq.map T.encS ((0 : Int), (0 : Int)) l) Tip.none), (3, AV.int IntKind.i64 (0 : Int))] [] (q285_2 0 Post) →
    ASpec Try.prog 285 [AV.sl 2 (Seq.map T.encS ((0 : Int), (0 : Int)) l) Tip.none] [] Post := fun l Post h => Go.Ab.ASpec.of_vc g285 Go.Proofs.Try.func285 (by kernel_rfl) (by kernel_rfl) (by kernel_rfl) (Go.Ab.kc (by kernel_rfl) h)
theorem v285_2 : ∀ (l : List T.Span) (i : Int) (n : Nat) (Post : AV → List AObj → Prop),
  condP (decide (i < (↑(List.length l) : Int)))
      (needP ((0 : Int) ≤ i ∧ i < (↑(List.length l) : Int))
        (condP (decide (Prod.fst (List.getD l (Int.toNat i) ((0 : Int), (0 : Int))) < (0 : Int))) (Post (AV.bool false) [])
        (needP ((0 : Int) ≤ i ∧ i < (↑(List.length l) : Int))
        (condP (decide (Prod.snd (List.getD l (Int.toNat i) ((0 : Int), (0 : Int))) > (1000000000 : Int))) (Post (AV.bool false) [])
        (needP ((0 : Int) ≤ i ∧ i < (↑(List.length l) : Int))
        (needP ((0 : Int) ≤ i ∧ i < (↑(List.length l) : Int))
        (condP (decide (Prod.fst (List.getD l (Int.toNat i) ((0 : Int), (0 : Int))) ≥ Prod.snd (List.getD l (Int.toNat i) ((0 : Int), (0 : Int))))) (Post (AV.bool false) [])
        (condP (decide (i > (0 : Int)))
        (needP ((0 : Int) ≤ i ∧ i < (↑(List.length l) : Int))
        (needP ((0 : Int) ≤ IntKind.wrap IntKind.i64 (i - (1 : Int)) ∧ IntKind.wrap IntKind.i64 (i - (1 : Int)) < (↑(List.length l) : Int))
        (condP
        (decide
        (Prod.fst (List.getD l (Int.toNat i) ((0 : Int), (0 : Int))) ≤ Prod.snd (List.getD l (Int.toNat (IntKind.wrap IntKind.i64 (i - (1 : Int)))) ((0 : Int), (0 : Int)))))
        (Post (AV.bool false) [])
        (AWP Try.prog 55 n c285_2
        [(0, AV.sl 2 (Seq.map T.encS ((0 : Int), (0 : Int)) l) Tip.none), (3, AV.int IntKind.i64 (IntKind.wrap IntKind.i64 (i + (1 : Int))))] []
        (q285_2 n Post)))))
        (AWP Try.prog 55 n c285_2
        [(0, AV.sl 2 (Seq.map T.encS ((0 : Int), (0 : Int)) l) Tip.none), (3, AV.int IntKind.i64 (IntKind.wrap IntKind.i64 (i + (1 : Int))))] []
        (q285_2 n Post))))))))))
      (Post (AV.bool true) []) →
    AWP Try.prog 55 n c285_2 [(0, AV.sl 2 (Seq.map T.encS ((0 : Int), (0 : Int)) l) Tip.none), (3, AV.int IntKind.i64 i)] [] (q285_2 n Post) := fun l i n Post h => Go.Ab.AWP.loop' g285 (Cfg.live g285) c285_2 (by kernel_rfl) (by kernel_rfl) (Go.Ab.kc (by kernel_rfl) h)

-- 232
noncomputable def l232 : Nat → List Nat
  | 3 => [0, 3, 6, 7, 8]
  | _ => []
noncomputable def u232 : Nat → Bool
  | _ => false
noncomputable def m232 : Nat → Bool
  | _ => false
noncomputable def g232 : Cfg := { N := 40, live := l232, cut := u232, mu := m232, ret := rets }
noncomputable def c232 : Go.Code := Go.Ab.bodyOf Go.Proofs.Try.f232
noncomputable def q232_0 : Nat → (AV → List AObj → Prop) → AQ := fun (n : Nat) (Post : AV → List AObj → Prop) => endQ Try.prog (resultsOf Try.f232) Post
noncomputable def q232_1 : Nat → (AV → List AObj → Prop) → AQ := fun (n : Nat) (Post : AV → List AObj → Prop) => seqQ (fun (s' : Slots) (H' : List AObj) => awp Try.prog g232 n (codeSnd (codeSnd (codeSnd c232))) s' H' (q232_0 n Post)) (q232_0 n Post)
noncomputable def q232_2 : Nat → (AV → List AObj → Prop) → AQ := fun (n : Nat) (Post : AV → List AObj → Prop) => blockQ 0 (q232_1 n Post)
noncomputable def c232_3 : Go.Code := codeFst (codeSnd (codeFst (codeSnd (codeSnd c232))))
theorem s232 : ∀ (l : List T.Need) (Post : AV → List AObj → Prop),
  AWP Try.prog 40 0 c232_3
      [(0, AV.sl 2 (Seq.map T.encN ([], []) l) Tip.none), (3, AV.str { data := #[] }), (6, AV.sl 2 (Seq.map T.encN ([], []) l) Tip.none),
        (7, AV.int IntKind.i64 (↑(List.length l) : Int)), (8, AV.int IntKind.i64 (0 : Int))]
      [] (q232_2 0 Post) →
    ASpec Try.prog 232 [AV.sl 2 (Seq.map T.encN ([], []) l) Tip.none] [] Post := fun l Post h => Go.Ab.ASpec.of_vc g232 Go.Proofs.Try.func232 (by kernel_rfl) (by kernel_rfl) (by kernel_rfl) (Go.Ab.kc (by kernel_rfl) h)
theorem v232_3 : ∀ (l : List T.Need) (s : ByteArray) (n i : Int) (n_1 : Nat) (Post : AV → List AObj → Prop),
  condP (decide (i < n))
      (needP ((0 : Int) ≤ i ∧ i < (↑(List.length l) : Int))
        (ASpec Try.prog 154 [AV.str { data := List.toArray (Prod.fst (List.getD l (Int.toNat i) ([], []))) }]
        [AObj.cells
        [AV.str { data := List.toArray (Prod.fst (List.getD l (Int.toNat i) ([], []))) },
        AV.sl 2 (Seq.map T.encS ((0 : Int), (0 : Int)) (Prod.snd (List.getD l (Int.toNat i) ([], [])))) Tip.none]]
        fun (r : AV) (H' : List AObj) =>
        ∃ (x : Bool),
        r = AV.bool x ∧
        H' =
        [AObj.cells
        [AV.str { data := List.toArray (Prod.fst (List.getD l (Int.toNat i) ([], []))) },
        AV.sl 2 (Seq.map T.encS ((0 : Int), (0 : Int)) (Prod.snd (List.getD l (Int.toNat i) ([], [])))) Tip.none]] ∧
        condP (!x)
        (Post (AV.bool false)
        [AObj.cells
        [AV.str { data := List.toArray (Prod.fst (List.getD l (Int.toNat i) ([], []))) },
        AV.sl 2 (Seq.map T.encS ((0 : Int), (0 : Int)) (Prod.snd (List.getD l (Int.toNat i) ([], [])))) Tip.none]])
        (condP
        (Op.bytesLess (ByteArray.toList { data := List.toArray (Prod.fst (List.getD l (Int.toNat i) ([], []))) }) (ByteArray.toList s) ||
        ByteArray.toList { data := List.toArray (Prod.fst (List.getD l (Int.toNat i) ([], []))) } == ByteArray.toList s)
        (Post (AV.bool false)
        [AObj.cells
        [AV.str { data := List.toArray (Prod.fst (List.getD l (Int.toNat i) ([], []))) },
        AV.sl 2 (Seq.map T.encS ((0 : Int), (0 : Int)) (Prod.snd (List.getD l (Int.toNat i) ([], [])))) Tip.none]])
        (condP (decide ((↑(List.length (Prod.snd (List.getD l (Int.toNat i) ([], [])))) : Int) > (6 : Int)))
        (Post (AV.bool false)
        [AObj.cells
        [AV.str { data := List.toArray (Prod.fst (List.getD l (Int.toNat i) ([], []))) },
        AV.sl 2 (Seq.map T.encS ((0 : Int), (0 : Int)) (Prod.snd (List.getD l (Int.toNat i) ([], [])))) Tip.none]])
        (ASpec Try.prog 256 [AV.sl 2 (Seq.map T.encS ((0 : Int), (0 : Int)) (Prod.snd (List.getD l (Int.toNat i) ([], [])))) Tip.none]
        [AObj.cells
        [AV.str { data := List.toArray (Prod.fst (List.getD l (Int.toNat i) ([], []))) },
        AV.sl 2 (Seq.map T.encS ((0 : Int), (0 : Int)) (Prod.snd (List.getD l (Int.toNat i) ([], [])))) Tip.none]]
        fun (r : AV) (H' : List AObj) =>
        ∃ (x : Bool),
        r = AV.bool x ∧
        H' =
        [AObj.cells
        [AV.str { data := List.toArray (Prod.fst (List.getD l (Int.toNat i) ([], []))) },
        AV.sl 2 (Seq.map T.encS ((0 : Int), (0 : Int)) (Prod.snd (List.getD l (Int.toNat i) ([], [])))) Tip.none]] ∧
        condP (!x)
        (Post (AV.bool false)
        [AObj.cells
        [AV.str { data := List.toArray (Prod.fst (List.getD l (Int.toNat i) ([], []))) },
        AV.sl 2 (Seq.map T.encS ((0 : Int), (0 : Int)) (Prod.snd (List.getD l (Int.toNat i) ([], [])))) Tip.none]])
        (AWP Try.prog 40 n_1 c232_3
        [(0, AV.sl 2 (Seq.map T.encN ([], []) l) Tip.none), (3, AV.str { data := List.toArray (Prod.fst (List.getD l (Int.toNat i) ([], []))) }),
        (6, AV.sl 2 (Seq.map T.encN ([], []) l) Tip.none), (7, AV.int IntKind.i64 n),
        (8, AV.int IntKind.i64 (IntKind.wrap IntKind.i64 (i + (1 : Int))))]
        [AObj.cells
        [AV.str { data := List.toArray (Prod.fst (List.getD l (Int.toNat i) ([], []))) },
        AV.sl 2 (Seq.map T.encS ((0 : Int), (0 : Int)) (Prod.snd (List.getD l (Int.toNat i) ([], [])))) Tip.none]]
        (q232_2 n_1 Post)))))))
      (Post (AV.bool (decide ((↑(List.length l) : Int) ≤ (6 : Int)))) []) →
    AWP Try.prog 40 n_1 c232_3
      [(0, AV.sl 2 (Seq.map T.encN ([], []) l) Tip.none), (3, AV.str s), (6, AV.sl 2 (Seq.map T.encN ([], []) l) Tip.none), (7, AV.int IntKind.i64 n),
        (8, AV.int IntKind.i64 i)]
      [] (q232_2 n_1 Post) := fun l s n i n Post h => Go.Ab.AWP.loop' g232 (Cfg.live g232) c232_3 (by kernel_rfl) (by kernel_rfl) (Go.Ab.kc (by kernel_rfl) h)

-- 239
noncomputable def l239 : Nat → List Nat
  | 2 => [0, 3]
  | _ => []
noncomputable def u239 : Nat → Bool
  | _ => false
noncomputable def m239 : Nat → Bool
  | _ => false
noncomputable def g239 : Cfg := { N := 56, live := l239, cut := u239, mu := m239, ret := rets }
noncomputable def c239 : Go.Code := Go.Ab.bodyOf Go.Proofs.Try.f239
noncomputable def q239_0 : Nat → (AV → List AObj → Prop) → AQ := fun (n : Nat) (Post : AV → List AObj → Prop) => endQ Try.prog (resultsOf Try.f239) Post
noncomputable def q239_1 : Nat → (AV → List AObj → Prop) → AQ := fun (n : Nat) (Post : AV → List AObj → Prop) => seqQ (fun (s' : Slots) (H' : List AObj) => awp Try.prog g239 n (codeSnd (codeSnd c239)) s' H' (q239_0 n Post)) (q239_0 n Post)
noncomputable def q239_2 : Nat → (AV → List AObj → Prop) → AQ := fun (n : Nat) (Post : AV → List AObj → Prop) => blockQ 0 (q239_1 n Post)
noncomputable def c239_2 : Go.Code := codeFst (codeSnd (codeFst (codeSnd c239)))
theorem s239 : ∀ (l : List T.Need) (Post : AV → List AObj → Prop),
  AWP Try.prog 56 0 c239_2 [(0, AV.sl 2 (Seq.map T.encN ([], []) l) Tip.none), (3, AV.int IntKind.i64 (0 : Int))] [] (q239_2 0 Post) →
    ASpec Try.prog 239 [AV.sl 2 (Seq.map T.encN ([], []) l) Tip.none] [] Post := fun l Post h => Go.Ab.ASpec.of_vc g239 Go.Proofs.Try.func239 (by kernel_rfl) (by kernel_rfl) (by kernel_rfl) (Go.Ab.kc (by kernel_rfl) h)
theorem v239_2 : ∀ (l : List T.Need) (i : Int) (n : Nat) (Post : AV → List AObj → Prop),
  condP (decide (i < (↑(List.length l) : Int)))
      (needP ((0 : Int) ≤ i ∧ i < (↑(List.length l) : Int))
        (ASpec Try.prog 39 [AV.str { data := List.toArray (Prod.fst (List.getD l (Int.toNat i) ([], []))) }] [] fun (r : AV) (H' : List AObj) =>
        ∃ (x : Bool),
        r = AV.bool x ∧
        H' = [] ∧
        condP (!x) (Post (AV.bool false) [])
        (needP ((0 : Int) ≤ i ∧ i < (↑(List.length l) : Int))
        (ASpec Try.prog 285 [AV.sl 2 (Seq.map T.encS ((0 : Int), (0 : Int)) (Prod.snd (List.getD l (Int.toNat i) ([], [])))) Tip.none] [] fun (r : AV) (H' : List AObj) =>
        ∃ (x : Bool),
        r = AV.bool x ∧
        H' = [] ∧
        condP (!x) (Post (AV.bool false) [])
        (needP ((0 : Int) ≤ i ∧ i < (↑(List.length l) : Int))
        (condP (decide ((↑(List.length (Prod.snd (List.getD l (Int.toNat i) ([], [])))) : Int) > (6 : Int))) (Post (AV.bool false) [])
        (condP (decide (i > (0 : Int)))
        (needP ((0 : Int) ≤ i ∧ i < (↑(List.length l) : Int))
        (needP ((0 : Int) ≤ IntKind.wrap IntKind.i64 (i - (1 : Int)) ∧ IntKind.wrap IntKind.i64 (i - (1 : Int)) < (↑(List.length l) : Int))
        (condP
        (Op.bytesLess (ByteArray.toList { data := List.toArray (Prod.fst (List.getD l (Int.toNat i) ([], []))) })
        (ByteArray.toList { data := List.toArray (Prod.fst (List.getD l (Int.toNat (IntKind.wrap IntKind.i64 (i - (1 : Int)))) ([], []))) }) ||
        ByteArray.toList { data := List.toArray (Prod.fst (List.getD l (Int.toNat i) ([], []))) } ==
        ByteArray.toList { data := List.toArray (Prod.fst (List.getD l (Int.toNat (IntKind.wrap IntKind.i64 (i - (1 : Int)))) ([], []))) })
        (Post (AV.bool false) [])
        (AWP Try.prog 56 n c239_2
        [(0, AV.sl 2 (Seq.map T.encN ([], []) l) Tip.none), (3, AV.int IntKind.i64 (IntKind.wrap IntKind.i64 (i + (1 : Int))))] []
        (q239_2 n Post)))))
        (AWP Try.prog 56 n c239_2
        [(0, AV.sl 2 (Seq.map T.encN ([], []) l) Tip.none), (3, AV.int IntKind.i64 (IntKind.wrap IntKind.i64 (i + (1 : Int))))] []
        (q239_2 n Post)))))))))
      (Post (AV.bool (decide ((↑(List.length l) : Int) ≤ (6 : Int)))) []) →
    AWP Try.prog 56 n c239_2 [(0, AV.sl 2 (Seq.map T.encN ([], []) l) Tip.none), (3, AV.int IntKind.i64 i)] [] (q239_2 n Post) := fun l i n Post h => Go.Ab.AWP.loop' g239 (Cfg.live g239) c239_2 (by kernel_rfl) (by kernel_rfl) (Go.Ab.kc (by kernel_rfl) h)

-- 185
noncomputable def l185 : Nat → List Nat
  | 3 => [1, 3, 7, 8, 9]
  | _ => []
noncomputable def u185 : Nat → Bool
  | _ => false
noncomputable def m185 : Nat → Bool
  | _ => false
noncomputable def g185 : Cfg := { N := 40, live := l185, cut := u185, mu := m185, ret := rets }
noncomputable def c185 : Go.Code := Go.Ab.bodyOf Go.Proofs.Try.f185
noncomputable def q185_0 : Nat → (AV → List AObj → Prop) → AQ := fun (n : Nat) (Post : AV → List AObj → Prop) => endQ Try.prog (resultsOf Try.f185) Post
noncomputable def q185_1 : Nat → (AV → List AObj → Prop) → AQ := fun (n : Nat) (Post : AV → List AObj → Prop) => seqQ (fun (s' : Slots) (H' : List AObj) => awp Try.prog g185 n (codeSnd (codeSnd (codeSnd c185))) s' H' (q185_0 n Post)) (q185_0 n Post)
noncomputable def q185_2 : Nat → (AV → List AObj → Prop) → AQ := fun (n : Nat) (Post : AV → List AObj → Prop) => blockQ 0 (q185_1 n Post)
noncomputable def c185_3 : Go.Code := codeFst (codeSnd (codeFst (codeSnd (codeSnd c185))))
theorem s185 : ∀ (m : T.Mani) (Post : AV → List AObj → Prop),
  AWP Try.prog 40 0 c185_3
      [(1, AV.ptr 0 0), (3, AV.int IntKind.i64 (-1 : Int)), (7, AV.sl 2 (Seq.map T.encR ((0 : Int), []) (Prod.snd m)) Tip.none),
        (8, AV.int IntKind.i64 (↑(List.length (Prod.snd m)) : Int)), (9, AV.int IntKind.i64 (0 : Int))]
      [AObj.cells [AV.str { data := List.toArray (Prod.fst m) }, AV.sl 2 (Seq.map T.encR ((0 : Int), []) (Prod.snd m)) Tip.none]] (q185_2 0 Post) →
    ASpec Try.prog 185 [AV.agg (T.encM m)] [] Post := fun m Post h => Go.Ab.ASpec.of_vc g185 Go.Proofs.Try.func185 (by kernel_rfl) (by kernel_rfl) (by kernel_rfl) (Go.Ab.kc (by kernel_rfl) h)
theorem v185_3 : ∀ (m : T.Mani) (e n i : Int) (n_1 : Nat) (Post : AV → List AObj → Prop),
  condP (decide (i < n))
      (needP ((0 : Int) ≤ i ∧ i < (↑(List.length (Prod.snd m)) : Int))
        (condP (decide (Prod.fst (List.getD (Prod.snd m) (Int.toNat i) ((0 : Int), [])) ≤ e))
        (Post (AV.bool false)
        [AObj.cells [AV.str { data := List.toArray (Prod.fst m) }, AV.sl 2 (Seq.map T.encR ((0 : Int), []) (Prod.snd m)) Tip.none],
        AObj.cells
        [AV.int IntKind.i64 (Prod.fst (List.getD (Prod.snd m) (Int.toNat i) ((0 : Int), []))),
        AV.sl 2 (Seq.map T.encN ([], []) (Prod.snd (List.getD (Prod.snd m) (Int.toNat i) ((0 : Int), [])))) Tip.none]])
        (condP (decide (Prod.fst (List.getD (Prod.snd m) (Int.toNat i) ((0 : Int), [])) ≥ (1000000000 : Int)))
        (Post (AV.bool false)
        [AObj.cells [AV.str { data := List.toArray (Prod.fst m) }, AV.sl 2 (Seq.map T.encR ((0 : Int), []) (Prod.snd m)) Tip.none],
        AObj.cells
        [AV.int IntKind.i64 (Prod.fst (List.getD (Prod.snd m) (Int.toNat i) ((0 : Int), []))),
        AV.sl 2 (Seq.map T.encN ([], []) (Prod.snd (List.getD (Prod.snd m) (Int.toNat i) ((0 : Int), [])))) Tip.none]])
        (ASpec Try.prog 232 [AV.sl 2 (Seq.map T.encN ([], []) (Prod.snd (List.getD (Prod.snd m) (Int.toNat i) ((0 : Int), [])))) Tip.none]
        [AObj.cells [AV.str { data := List.toArray (Prod.fst m) }, AV.sl 2 (Seq.map T.encR ((0 : Int), []) (Prod.snd m)) Tip.none],
        AObj.cells
        [AV.int IntKind.i64 (Prod.fst (List.getD (Prod.snd m) (Int.toNat i) ((0 : Int), []))),
        AV.sl 2 (Seq.map T.encN ([], []) (Prod.snd (List.getD (Prod.snd m) (Int.toNat i) ((0 : Int), [])))) Tip.none]]
        fun (r : AV) (H' : List AObj) =>
        ∃ (x : Bool),
        r = AV.bool x ∧
        H' =
        [AObj.cells [AV.str { data := List.toArray (Prod.fst m) }, AV.sl 2 (Seq.map T.encR ((0 : Int), []) (Prod.snd m)) Tip.none],
        AObj.cells
        [AV.int IntKind.i64 (Prod.fst (List.getD (Prod.snd m) (Int.toNat i) ((0 : Int), []))),
        AV.sl 2 (Seq.map T.encN ([], []) (Prod.snd (List.getD (Prod.snd m) (Int.toNat i) ((0 : Int), [])))) Tip.none]] ∧
        condP (!x)
        (Post (AV.bool false)
        [AObj.cells [AV.str { data := List.toArray (Prod.fst m) }, AV.sl 2 (Seq.map T.encR ((0 : Int), []) (Prod.snd m)) Tip.none],
        AObj.cells
        [AV.int IntKind.i64 (Prod.fst (List.getD (Prod.snd m) (Int.toNat i) ((0 : Int), []))),
        AV.sl 2 (Seq.map T.encN ([], []) (Prod.snd (List.getD (Prod.snd m) (Int.toNat i) ((0 : Int), [])))) Tip.none]])
        (AWP Try.prog 40 n_1 c185_3
        [(1, AV.ptr 0 0), (3, AV.int IntKind.i64 (Prod.fst (List.getD (Prod.snd m) (Int.toNat i) ((0 : Int), [])))),
        (7, AV.sl 2 (Seq.map T.encR ((0 : Int), []) (Prod.snd m)) Tip.none), (8, AV.int IntKind.i64 n),
        (9, AV.int IntKind.i64 (IntKind.wrap IntKind.i64 (i + (1 : Int))))]
        [AObj.cells [AV.str { data := List.toArray (Prod.fst m) }, AV.sl 2 (Seq.map T.encR ((0 : Int), []) (Prod.snd m)) Tip.none],
        AObj.cells
        [AV.int IntKind.i64 (Prod.fst (List.getD (Prod.snd m) (Int.toNat i) ((0 : Int), []))),
        AV.sl 2 (Seq.map T.encN ([], []) (Prod.snd (List.getD (Prod.snd m) (Int.toNat i) ((0 : Int), [])))) Tip.none]]
        (q185_2 n_1 Post))))))
      (ASpec Try.prog 154 [AV.str { data := List.toArray (Prod.fst m) }]
        [AObj.cells [AV.str { data := List.toArray (Prod.fst m) }, AV.sl 2 (Seq.map T.encR ((0 : Int), []) (Prod.snd m)) Tip.none]] fun (r : AV) (H' : List AObj) =>
        ∃ (x : Bool),
        r = AV.bool x ∧
        H' = [AObj.cells [AV.str { data := List.toArray (Prod.fst m) }, AV.sl 2 (Seq.map T.encR ((0 : Int), []) (Prod.snd m)) Tip.none]] ∧
        condP x
        (Post (AV.bool (decide ((↑(List.length (Prod.snd m)) : Int) ≤ (8 : Int))))
        [AObj.cells [AV.str { data := List.toArray (Prod.fst m) }, AV.sl 2 (Seq.map T.encR ((0 : Int), []) (Prod.snd m)) Tip.none]])
        (Post (AV.bool false) [AObj.cells [AV.str { data := List.toArray (Prod.fst m) }, AV.sl 2 (Seq.map T.encR ((0 : Int), []) (Prod.snd m)) Tip.none]])) →
    AWP Try.prog 40 n_1 c185_3
      [(1, AV.ptr 0 0), (3, AV.int IntKind.i64 e), (7, AV.sl 2 (Seq.map T.encR ((0 : Int), []) (Prod.snd m)) Tip.none),
        (8, AV.int IntKind.i64 n), (9, AV.int IntKind.i64 i)]
      [AObj.cells (T.encM m)] (q185_2 n_1 Post) := fun m e n i n Post h => Go.Ab.AWP.loop' g185 (Cfg.live g185) c185_3 (by kernel_rfl) (by kernel_rfl) (Go.Ab.kc (by kernel_rfl) h)

-- 186
noncomputable def l186 : Nat → List Nat
  | 2 => [1, 3]
  | _ => []
noncomputable def u186 : Nat → Bool
  | _ => false
noncomputable def m186 : Nat → Bool
  | _ => false
noncomputable def g186 : Cfg := { N := 52, live := l186, cut := u186, mu := m186, ret := rets }
noncomputable def c186 : Go.Code := Go.Ab.bodyOf Go.Proofs.Try.f186
noncomputable def q186_0 : Nat → (AV → List AObj → Prop) → AQ := fun (n : Nat) (Post : AV → List AObj → Prop) => endQ Try.prog (resultsOf Try.f186) Post
noncomputable def q186_1 : Nat → (AV → List AObj → Prop) → AQ := fun (n : Nat) (Post : AV → List AObj → Prop) => seqQ (fun (s' : Slots) (H' : List AObj) => awp Try.prog g186 n (codeSnd (codeSnd c186)) s' H' (q186_0 n Post)) (q186_0 n Post)
noncomputable def q186_2 : Nat → (AV → List AObj → Prop) → AQ := fun (n : Nat) (Post : AV → List AObj → Prop) => blockQ 0 (q186_1 n Post)
noncomputable def c186_2 : Go.Code := codeFst (codeSnd (codeFst (codeSnd c186)))
theorem s186 : ∀ (m : T.Mani) (Post : AV → List AObj → Prop),
  AWP Try.prog 52 0 c186_2 [(1, AV.ptr 0 0), (3, AV.int IntKind.i64 (0 : Int))]
      [AObj.cells [AV.str { data := List.toArray (Prod.fst m) }, AV.sl 2 (Seq.map T.encR ((0 : Int), []) (Prod.snd m)) Tip.none]] (q186_2 0 Post) →
    ASpec Try.prog 186 [AV.agg (T.encM m)] [] Post := fun m Post h => Go.Ab.ASpec.of_vc g186 Go.Proofs.Try.func186 (by kernel_rfl) (by kernel_rfl) (by kernel_rfl) (Go.Ab.kc (by kernel_rfl) h)
theorem v186_2 : ∀ (m : T.Mani) (i : Int) (n : Nat) (Post : AV → List AObj → Prop),
  condP (decide (i < (↑(List.length (Prod.snd m)) : Int)))
      (needP ((0 : Int) ≤ i ∧ i < (↑(List.length (Prod.snd m)) : Int))
        (ASpec Try.prog 231 [AV.int IntKind.i64 (Prod.fst (List.getD (Prod.snd m) (Int.toNat i) ((0 : Int), [])))]
        [AObj.cells [AV.str { data := List.toArray (Prod.fst m) }, AV.sl 2 (Seq.map T.encR ((0 : Int), []) (Prod.snd m)) Tip.none],
        AObj.cells
        [AV.int IntKind.i64 (Prod.fst (List.getD (Prod.snd m) (Int.toNat i) ((0 : Int), []))),
        AV.sl 2 (Seq.map T.encN ([], []) (Prod.snd (List.getD (Prod.snd m) (Int.toNat i) ((0 : Int), [])))) Tip.none]]
        fun (r : AV) (H' : List AObj) =>
        ∃ (x : Bool),
        r = AV.bool x ∧
        H' =
        [AObj.cells [AV.str { data := List.toArray (Prod.fst m) }, AV.sl 2 (Seq.map T.encR ((0 : Int), []) (Prod.snd m)) Tip.none],
        AObj.cells
        [AV.int IntKind.i64 (Prod.fst (List.getD (Prod.snd m) (Int.toNat i) ((0 : Int), []))),
        AV.sl 2 (Seq.map T.encN ([], []) (Prod.snd (List.getD (Prod.snd m) (Int.toNat i) ((0 : Int), [])))) Tip.none]] ∧
        condP (!x)
        (Post (AV.bool false)
        [AObj.cells [AV.str { data := List.toArray (Prod.fst m) }, AV.sl 2 (Seq.map T.encR ((0 : Int), []) (Prod.snd m)) Tip.none],
        AObj.cells
        [AV.int IntKind.i64 (Prod.fst (List.getD (Prod.snd m) (Int.toNat i) ((0 : Int), []))),
        AV.sl 2 (Seq.map T.encN ([], []) (Prod.snd (List.getD (Prod.snd m) (Int.toNat i) ((0 : Int), [])))) Tip.none]])
        (ASpec Try.prog 239 [AV.sl 2 (Seq.map T.encN ([], []) (Prod.snd (List.getD (Prod.snd m) (Int.toNat i) ((0 : Int), [])))) Tip.none]
        [AObj.cells [AV.str { data := List.toArray (Prod.fst m) }, AV.sl 2 (Seq.map T.encR ((0 : Int), []) (Prod.snd m)) Tip.none],
        AObj.cells
        [AV.int IntKind.i64 (Prod.fst (List.getD (Prod.snd m) (Int.toNat i) ((0 : Int), []))),
        AV.sl 2 (Seq.map T.encN ([], []) (Prod.snd (List.getD (Prod.snd m) (Int.toNat i) ((0 : Int), [])))) Tip.none]]
        fun (r : AV) (H' : List AObj) =>
        ∃ (x : Bool),
        r = AV.bool x ∧
        H' =
        [AObj.cells [AV.str { data := List.toArray (Prod.fst m) }, AV.sl 2 (Seq.map T.encR ((0 : Int), []) (Prod.snd m)) Tip.none],
        AObj.cells
        [AV.int IntKind.i64 (Prod.fst (List.getD (Prod.snd m) (Int.toNat i) ((0 : Int), []))),
        AV.sl 2 (Seq.map T.encN ([], []) (Prod.snd (List.getD (Prod.snd m) (Int.toNat i) ((0 : Int), [])))) Tip.none]] ∧
        condP (!x)
        (Post (AV.bool false)
        [AObj.cells [AV.str { data := List.toArray (Prod.fst m) }, AV.sl 2 (Seq.map T.encR ((0 : Int), []) (Prod.snd m)) Tip.none],
        AObj.cells
        [AV.int IntKind.i64 (Prod.fst (List.getD (Prod.snd m) (Int.toNat i) ((0 : Int), []))),
        AV.sl 2 (Seq.map T.encN ([], []) (Prod.snd (List.getD (Prod.snd m) (Int.toNat i) ((0 : Int), [])))) Tip.none]])
        (condP (decide (i > (0 : Int)))
        (needP ((0 : Int) ≤ IntKind.wrap IntKind.i64 (i - (1 : Int)) ∧ IntKind.wrap IntKind.i64 (i - (1 : Int)) < (↑(List.length (Prod.snd m)) : Int))
        (condP
        (decide
        (Prod.fst (List.getD (Prod.snd m) (Int.toNat i) ((0 : Int), [])) ≤
        Prod.fst (List.getD (Prod.snd m) (Int.toNat (IntKind.wrap IntKind.i64 (i - (1 : Int)))) ((0 : Int), []))))
        (Post (AV.bool false)
        [AObj.cells [AV.str { data := List.toArray (Prod.fst m) }, AV.sl 2 (Seq.map T.encR ((0 : Int), []) (Prod.snd m)) Tip.none],
        AObj.cells
        [AV.int IntKind.i64 (Prod.fst (List.getD (Prod.snd m) (Int.toNat i) ((0 : Int), []))),
        AV.sl 2 (Seq.map T.encN ([], []) (Prod.snd (List.getD (Prod.snd m) (Int.toNat i) ((0 : Int), [])))) Tip.none]])
        (AWP Try.prog 52 n c186_2 [(1, AV.ptr 0 0), (3, AV.int IntKind.i64 (IntKind.wrap IntKind.i64 (i + (1 : Int))))]
        [AObj.cells [AV.str { data := List.toArray (Prod.fst m) }, AV.sl 2 (Seq.map T.encR ((0 : Int), []) (Prod.snd m)) Tip.none],
        AObj.cells
        [AV.int IntKind.i64 (Prod.fst (List.getD (Prod.snd m) (Int.toNat i) ((0 : Int), []))),
        AV.sl 2 (Seq.map T.encN ([], []) (Prod.snd (List.getD (Prod.snd m) (Int.toNat i) ((0 : Int), [])))) Tip.none]]
        (q186_2 n Post))))
        (AWP Try.prog 52 n c186_2 [(1, AV.ptr 0 0), (3, AV.int IntKind.i64 (IntKind.wrap IntKind.i64 (i + (1 : Int))))]
        [AObj.cells [AV.str { data := List.toArray (Prod.fst m) }, AV.sl 2 (Seq.map T.encR ((0 : Int), []) (Prod.snd m)) Tip.none],
        AObj.cells
        [AV.int IntKind.i64 (Prod.fst (List.getD (Prod.snd m) (Int.toNat i) ((0 : Int), []))),
        AV.sl 2 (Seq.map T.encN ([], []) (Prod.snd (List.getD (Prod.snd m) (Int.toNat i) ((0 : Int), [])))) Tip.none]]
        (q186_2 n Post))))))
      (ASpec Try.prog 39 [AV.str { data := List.toArray (Prod.fst m) }]
        [AObj.cells [AV.str { data := List.toArray (Prod.fst m) }, AV.sl 2 (Seq.map T.encR ((0 : Int), []) (Prod.snd m)) Tip.none]] fun (r : AV) (H' : List AObj) =>
        ∃ (x : Bool),
        r = AV.bool x ∧
        H' = [AObj.cells [AV.str { data := List.toArray (Prod.fst m) }, AV.sl 2 (Seq.map T.encR ((0 : Int), []) (Prod.snd m)) Tip.none]] ∧
        condP x
        (Post (AV.bool (decide ((↑(List.length (Prod.snd m)) : Int) ≤ (8 : Int))))
        [AObj.cells [AV.str { data := List.toArray (Prod.fst m) }, AV.sl 2 (Seq.map T.encR ((0 : Int), []) (Prod.snd m)) Tip.none]])
        (Post (AV.bool false) [AObj.cells [AV.str { data := List.toArray (Prod.fst m) }, AV.sl 2 (Seq.map T.encR ((0 : Int), []) (Prod.snd m)) Tip.none]])) →
    AWP Try.prog 52 n c186_2 [(1, AV.ptr 0 0), (3, AV.int IntKind.i64 i)] [AObj.cells (T.encM m)] (q186_2 n Post) := fun m i n Post h => Go.Ab.AWP.loop' g186 (Cfg.live g186) c186_2 (by kernel_rfl) (by kernel_rfl) (Go.Ab.kc (by kernel_rfl) h)

-- 231
noncomputable def l231 : Nat → List Nat
  | _ => []
noncomputable def u231 : Nat → Bool
  | _ => false
noncomputable def m231 : Nat → Bool
  | _ => false
noncomputable def g231 : Cfg := { N := 9, live := l231, cut := u231, mu := m231, ret := rets }
noncomputable def c231 : Go.Code := Go.Ab.bodyOf Go.Proofs.Try.f231
theorem s231 : ∀ (x : Int) (Post : AV → List AObj → Prop),
  condP (decide (x ≥ (0 : Int))) (Post (AV.bool (decide (x < (1000000000 : Int)))) []) (Post (AV.bool false) []) → ASpec Try.prog 231 [AV.int IntKind.i64 x] [] Post := fun x Post h => Go.Ab.ASpec.of_vc g231 Go.Proofs.Try.func231 (by kernel_rfl) (by kernel_rfl) (by kernel_rfl) (Go.Ab.kc (by kernel_rfl) h)

-- 130
noncomputable def l130 : Nat → List Nat
  | 4 => [0, 3]
  | _ => []
noncomputable def u130 : Nat → Bool
  | _ => false
noncomputable def m130 : Nat → Bool
  | _ => false
noncomputable def g130 : Cfg := { N := 29, live := l130, cut := u130, mu := m130, ret := rets }
noncomputable def c130 : Go.Code := Go.Ab.bodyOf Go.Proofs.Try.f130
noncomputable def q130_0 : Nat → (AV → List AObj → Prop) → AQ := fun (n : Nat) (Post : AV → List AObj → Prop) => endQ Try.prog (resultsOf Try.f130) Post
noncomputable def q130_1 : Nat → (AV → List AObj → Prop) → AQ := fun (n : Nat) (Post : AV → List AObj → Prop) => seqQ (fun (s' : Slots) (H' : List AObj) => awp Try.prog g130 n (codeSnd (codeSnd (codeSnd c130))) s' H' (q130_0 n Post)) (q130_0 n Post)
noncomputable def q130_2 : Nat → (AV → List AObj → Prop) → AQ := fun (n : Nat) (Post : AV → List AObj → Prop) => blockQ 0 (q130_1 n Post)
noncomputable def c130_4 : Go.Code := codeFst (codeSnd (codeFst (codeSnd (codeSnd c130))))
theorem s130 : ∀ (l : List T.Need) (Post : AV → List AObj → Prop),
  condP (decide ((↑(List.length l) : Int) > (40 : Int))) (Post (AV.bool true) [])
      (AWP Try.prog 29 0 c130_4 [(0, AV.sl 2 (Seq.map T.encN ([], []) l) Tip.none), (3, AV.int IntKind.i64 (0 : Int))] [] (q130_2 0 Post)) →
    ASpec Try.prog 130 [AV.sl 2 (Seq.map T.encN ([], []) l) Tip.none] [] Post := fun l Post h => Go.Ab.ASpec.of_vc g130 Go.Proofs.Try.func130 (by kernel_rfl) (by kernel_rfl) (by kernel_rfl) (Go.Ab.kc (by kernel_rfl) h)
theorem v130_4 : ∀ (l : List T.Need) (i : Int) (n : Nat) (Post : AV → List AObj → Prop),
  condP (decide (i < (↑(List.length l) : Int)))
      (needP ((0 : Int) ≤ i ∧ i < (↑(List.length l) : Int))
        (condP (decide ((↑(List.length (Prod.snd (List.getD l (Int.toNat i) ([], [])))) : Int) > (40 : Int))) (Post (AV.bool true) [])
        (needP ((0 : Int) ≤ i ∧ i < (↑(List.length l) : Int))
        (condP (decide ((↑(ByteArray.size { data := List.toArray (Prod.fst (List.getD l (Int.toNat i) ([], []))) }) : Int) > (100 : Int))) (Post (AV.bool true) [])
        (AWP Try.prog 29 n c130_4 [(0, AV.sl 2 (Seq.map T.encN ([], []) l) Tip.none), (3, AV.int IntKind.i64 (IntKind.wrap IntKind.i64 (i + (1 : Int))))] []
        (q130_2 n Post))))))
      (Post (AV.bool false) []) →
    AWP Try.prog 29 n c130_4 [(0, AV.sl 2 (Seq.map T.encN ([], []) l) Tip.none), (3, AV.int IntKind.i64 i)] [] (q130_2 n Post) := fun l i n Post h => Go.Ab.AWP.loop' g130 (Cfg.live g130) c130_4 (by kernel_rfl) (by kernel_rfl) (Go.Ab.kc (by kernel_rfl) h)

-- 66
noncomputable def l66 : Nat → List Nat
  | 4 => [1, 3]
  | _ => []
noncomputable def u66 : Nat → Bool
  | _ => false
noncomputable def m66 : Nat → Bool
  | _ => false
noncomputable def g66 : Cfg := { N := 28, live := l66, cut := u66, mu := m66, ret := rets }
noncomputable def c66 : Go.Code := Go.Ab.bodyOf Go.Proofs.Try.f66
noncomputable def q66_0 : Nat → (AV → List AObj → Prop) → AQ := fun (n : Nat) (Post : AV → List AObj → Prop) => endQ Try.prog (resultsOf Try.f66) Post
noncomputable def q66_1 : Nat → (AV → List AObj → Prop) → AQ := fun (n : Nat) (Post : AV → List AObj → Prop) => seqQ (fun (s' : Slots) (H' : List AObj) => awp Try.prog g66 n (codeSnd (codeSnd (codeSnd c66))) s' H' (q66_0 n Post)) (q66_0 n Post)
noncomputable def q66_2 : Nat → (AV → List AObj → Prop) → AQ := fun (n : Nat) (Post : AV → List AObj → Prop) => blockQ 0 (q66_1 n Post)
noncomputable def c66_4 : Go.Code := codeFst (codeSnd (codeFst (codeSnd (codeSnd c66))))
theorem s66 : ∀ (m : T.Mani) (Post : AV → List AObj → Prop),
  condP (decide ((↑(List.length (Prod.snd m)) : Int) > (30 : Int)))
      (Post (AV.bool true) [AObj.cells [AV.str { data := List.toArray (Prod.fst m) }, AV.sl 2 (Seq.map T.encR ((0 : Int), []) (Prod.snd m)) Tip.none]])
      (condP (decide ((↑(ByteArray.size { data := List.toArray (Prod.fst m) }) : Int) > (200 : Int)))
        (Post (AV.bool true) [AObj.cells [AV.str { data := List.toArray (Prod.fst m) }, AV.sl 2 (Seq.map T.encR ((0 : Int), []) (Prod.snd m)) Tip.none]])
        (AWP Try.prog 28 0 c66_4 [(1, AV.ptr 0 0), (3, AV.int IntKind.i64 (0 : Int))]
        [AObj.cells [AV.str { data := List.toArray (Prod.fst m) }, AV.sl 2 (Seq.map T.encR ((0 : Int), []) (Prod.snd m)) Tip.none]] (q66_2 0 Post))) →
    ASpec Try.prog 66 [AV.agg (T.encM m)] [] Post := fun m Post h => Go.Ab.ASpec.of_vc g66 Go.Proofs.Try.func66 (by kernel_rfl) (by kernel_rfl) (by kernel_rfl) (Go.Ab.kc (by kernel_rfl) h)
theorem v66_4 : ∀ (m : T.Mani) (i : Int) (n : Nat) (Post : AV → List AObj → Prop),
  condP (decide (i < (↑(List.length (Prod.snd m)) : Int)))
      (needP ((0 : Int) ≤ i ∧ i < (↑(List.length (Prod.snd m)) : Int))
        (ASpec Try.prog 130 [AV.sl 2 (Seq.map T.encN ([], []) (Prod.snd (List.getD (Prod.snd m) (Int.toNat i) ((0 : Int), [])))) Tip.none]
        [AObj.cells [AV.str { data := List.toArray (Prod.fst m) }, AV.sl 2 (Seq.map T.encR ((0 : Int), []) (Prod.snd m)) Tip.none]] fun (r : AV) (H' : List AObj) =>
        ∃ (x : Bool),
        r = AV.bool x ∧
        H' = [AObj.cells [AV.str { data := List.toArray (Prod.fst m) }, AV.sl 2 (Seq.map T.encR ((0 : Int), []) (Prod.snd m)) Tip.none]] ∧
        condP x (Post (AV.bool true) [AObj.cells [AV.str { data := List.toArray (Prod.fst m) }, AV.sl 2 (Seq.map T.encR ((0 : Int), []) (Prod.snd m)) Tip.none]])
        (AWP Try.prog 28 n c66_4 [(1, AV.ptr 0 0), (3, AV.int IntKind.i64 (IntKind.wrap IntKind.i64 (i + (1 : Int))))]
        [AObj.cells [AV.str { data := List.toArray (Prod.fst m) }, AV.sl 2 (Seq.map T.encR ((0 : Int), []) (Prod.snd m)) Tip.none]] (q66_2 n Post))))
      (Post (AV.bool false) [AObj.cells [AV.str { data := List.toArray (Prod.fst m) }, AV.sl 2 (Seq.map T.encR ((0 : Int), []) (Prod.snd m)) Tip.none]]) →
    AWP Try.prog 28 n c66_4 [(1, AV.ptr 0 0), (3, AV.int IntKind.i64 i)] [AObj.cells (T.encM m)] (q66_2 n Post) := fun m i n Post h => Go.Ab.AWP.loop' g66 (Cfg.live g66) c66_4 (by kernel_rfl) (by kernel_rfl) (Go.Ab.kc (by kernel_rfl) h)

-- 163
noncomputable def l163 : Nat → List Nat
  | 4 => [0, 1, 5]
  | _ => []
noncomputable def u163 : Nat → Bool
  | _ => false
noncomputable def m163 : Nat → Bool
  | _ => false
noncomputable def g163 : Cfg := { N := 26, live := l163, cut := u163, mu := m163, ret := rets }
noncomputable def c163 : Go.Code := Go.Ab.bodyOf Go.Proofs.Try.f163
noncomputable def q163_0 : Nat → (AV → List AObj → Prop) → AQ := fun (n : Nat) (Post : AV → List AObj → Prop) => endQ Try.prog (resultsOf Try.f163) Post
noncomputable def q163_1 : Nat → (AV → List AObj → Prop) → AQ := fun (n : Nat) (Post : AV → List AObj → Prop) => seqQ (fun (s' : Slots) (H' : List AObj) => awp Try.prog g163 n (codeSnd (codeSnd (codeSnd c163))) s' H' (q163_0 n Post)) (q163_0 n Post)
noncomputable def q163_2 : Nat → (AV → List AObj → Prop) → AQ := fun (n : Nat) (Post : AV → List AObj → Prop) => blockQ 0 (q163_1 n Post)
noncomputable def c163_4 : Go.Code := codeFst (codeSnd (codeFst (codeSnd (codeSnd c163))))
theorem s163 : ∀ (a b : List T.Span) (Post : AV → List AObj → Prop),
  condP ((↑(List.length a) : Int) != (↑(List.length b) : Int)) (Post (AV.bool false) [])
      (AWP Try.prog 26 0 c163_4
        [(0, AV.sl 2 (Seq.map T.encS ((0 : Int), (0 : Int)) a) Tip.none), (1, AV.sl 2 (Seq.map T.encS ((0 : Int), (0 : Int)) b) Tip.none),
        (5, AV.int IntKind.i64 (0 : Int))]
        [] (q163_2 0 Post)) →
    ASpec Try.prog 163 [AV.sl 2 (Seq.map T.encS ((0 : Int), (0 : Int)) a) Tip.none, AV.sl 2 (Seq.map T.encS ((0 : Int), (0 : Int)) b) Tip.none] [] Post := fun a b Post h => Go.Ab.ASpec.of_vc g163 Go.Proofs.Try.func163 (by kernel_rfl) (by kernel_rfl) (by kernel_rfl) (Go.Ab.kc (by kernel_rfl) h)
theorem v163_4 : ∀ (a b : List T.Span) (i : Int) (n : Nat) (Post : AV → List AObj → Prop),
  condP (decide (i < (↑(List.length a) : Int)))
      (needP ((0 : Int) ≤ i ∧ i < (↑(List.length a) : Int))
        (needP ((0 : Int) ≤ i ∧ i < (↑(List.length b) : Int))
        (condP
        (!(Prod.fst (List.getD a (Int.toNat i) ((0 : Int), (0 : Int))) == Prod.fst (List.getD b (Int.toNat i) ((0 : Int), (0 : Int))) &&
        (Prod.snd (List.getD a (Int.toNat i) ((0 : Int), (0 : Int))) == Prod.snd (List.getD b (Int.toNat i) ((0 : Int), (0 : Int))) && true)))
        (Post (AV.bool false) [])
        (AWP Try.prog 26 n c163_4
        [(0, AV.sl 2 (Seq.map T.encS ((0 : Int), (0 : Int)) a) Tip.none), (1, AV.sl 2 (Seq.map T.encS ((0 : Int), (0 : Int)) b) Tip.none),
        (5, AV.int IntKind.i64 (IntKind.wrap IntKind.i64 (i + (1 : Int))))]
        [] (q163_2 n Post)))))
      (Post (AV.bool true) []) →
    AWP Try.prog 26 n c163_4
      [(0, AV.sl 2 (Seq.map T.encS ((0 : Int), (0 : Int)) a) Tip.none), (1, AV.sl 2 (Seq.map T.encS ((0 : Int), (0 : Int)) b) Tip.none),
        (5, AV.int IntKind.i64 i)]
      [] (q163_2 n Post) := fun a b i n Post h => Go.Ab.AWP.loop' g163 (Cfg.live g163) c163_4 (by kernel_rfl) (by kernel_rfl) (Go.Ab.kc (by kernel_rfl) h)

-- 173
noncomputable def l173 : Nat → List Nat
  | 4 => [0, 1, 5]
  | _ => []
noncomputable def u173 : Nat → Bool
  | _ => false
noncomputable def m173 : Nat → Bool
  | _ => false
noncomputable def g173 : Cfg := { N := 42, live := l173, cut := u173, mu := m173, ret := rets }
noncomputable def c173 : Go.Code := Go.Ab.bodyOf Go.Proofs.Try.f173
noncomputable def q173_0 : Nat → (AV → List AObj → Prop) → AQ := fun (n : Nat) (Post : AV → List AObj → Prop) => endQ Try.prog (resultsOf Try.f173) Post
noncomputable def q173_1 : Nat → (AV → List AObj → Prop) → AQ := fun (n : Nat) (Post : AV → List AObj → Prop) => seqQ (fun (s' : Slots) (H' : List AObj) => awp Try.prog g173 n (codeSnd (codeSnd (codeSnd c173))) s' H' (q173_0 n Post)) (q173_0 n Post)
noncomputable def q173_2 : Nat → (AV → List AObj → Prop) → AQ := fun (n : Nat) (Post : AV → List AObj → Prop) => blockQ 0 (q173_1 n Post)
noncomputable def c173_4 : Go.Code := codeFst (codeSnd (codeFst (codeSnd (codeSnd c173))))
theorem s173 : ∀ (a b : List T.Need) (Post : AV → List AObj → Prop),
  condP ((↑(List.length a) : Int) != (↑(List.length b) : Int)) (Post (AV.bool false) [])
      (AWP Try.prog 42 0 c173_4
        [(0, AV.sl 2 (Seq.map T.encN ([], []) a) Tip.none), (1, AV.sl 2 (Seq.map T.encN ([], []) b) Tip.none), (5, AV.int IntKind.i64 (0 : Int))] []
        (q173_2 0 Post)) →
    ASpec Try.prog 173 [AV.sl 2 (Seq.map T.encN ([], []) a) Tip.none, AV.sl 2 (Seq.map T.encN ([], []) b) Tip.none] [] Post := fun a b Post h => Go.Ab.ASpec.of_vc g173 Go.Proofs.Try.func173 (by kernel_rfl) (by kernel_rfl) (by kernel_rfl) (Go.Ab.kc (by kernel_rfl) h)
theorem v173_4 : ∀ (a b : List T.Need) (i : Int) (n : Nat) (Post : AV → List AObj → Prop),
  condP (decide (i < (↑(List.length a) : Int)))
      (needP ((0 : Int) ≤ i ∧ i < (↑(List.length a) : Int))
        (needP ((0 : Int) ≤ i ∧ i < (↑(List.length b) : Int))
        (condP
        (!ByteArray.toList { data := List.toArray (Prod.fst (List.getD a (Int.toNat i) ([], []))) } == ByteArray.toList { data := List.toArray (Prod.fst (List.getD b (Int.toNat i) ([], []))) })
        (Post (AV.bool false) [])
        (needP ((0 : Int) ≤ i ∧ i < (↑(List.length a) : Int))
        (needP ((0 : Int) ≤ i ∧ i < (↑(List.length b) : Int))
        (ASpec Try.prog 163
        [AV.sl 2 (Seq.map T.encS ((0 : Int), (0 : Int)) (Prod.snd (List.getD a (Int.toNat i) ([], [])))) Tip.none,
        AV.sl 2 (Seq.map T.encS ((0 : Int), (0 : Int)) (Prod.snd (List.getD b (Int.toNat i) ([], [])))) Tip.none]
        [] fun (r : AV) (H' : List AObj) =>
        ∃ (x : Bool),
        r = AV.bool x ∧
        H' = [] ∧
        condP (!x) (Post (AV.bool false) [])
        (AWP Try.prog 42 n c173_4
        [(0, AV.sl 2 (Seq.map T.encN ([], []) a) Tip.none), (1, AV.sl 2 (Seq.map T.encN ([], []) b) Tip.none),
        (5, AV.int IntKind.i64 (IntKind.wrap IntKind.i64 (i + (1 : Int))))]
        [] (q173_2 n Post))))))))
      (Post (AV.bool true) []) →
    AWP Try.prog 42 n c173_4
      [(0, AV.sl 2 (Seq.map T.encN ([], []) a) Tip.none), (1, AV.sl 2 (Seq.map T.encN ([], []) b) Tip.none), (5, AV.int IntKind.i64 i)] [] (q173_2 n Post) := fun a b i n Post h => Go.Ab.AWP.loop' g173 (Cfg.live g173) c173_4 (by kernel_rfl) (by kernel_rfl) (Go.Ab.kc (by kernel_rfl) h)

-- 62
noncomputable def l62 : Nat → List Nat
  | 4 => [2, 3, 5]
  | _ => []
noncomputable def u62 : Nat → Bool
  | _ => false
noncomputable def m62 : Nat → Bool
  | _ => false
noncomputable def g62 : Cfg := { N := 56, live := l62, cut := u62, mu := m62, ret := rets }
noncomputable def c62 : Go.Code := Go.Ab.bodyOf Go.Proofs.Try.f62
noncomputable def q62_0 : Nat → (AV → List AObj → Prop) → AQ := fun (n : Nat) (Post : AV → List AObj → Prop) => endQ Try.prog (resultsOf Try.f62) Post
noncomputable def q62_1 : Nat → (AV → List AObj → Prop) → AQ := fun (n : Nat) (Post : AV → List AObj → Prop) => seqQ (fun (s' : Slots) (H' : List AObj) => awp Try.prog g62 n (codeSnd (codeSnd (codeSnd c62))) s' H' (q62_0 n Post)) (q62_0 n Post)
noncomputable def q62_2 : Nat → (AV → List AObj → Prop) → AQ := fun (n : Nat) (Post : AV → List AObj → Prop) => blockQ 0 (q62_1 n Post)
noncomputable def c62_4 : Go.Code := codeFst (codeSnd (codeFst (codeSnd (codeSnd c62))))
theorem s62 : ∀ (a b : T.Mani) (Post : AV → List AObj → Prop),
  condP (!ByteArray.toList { data := List.toArray (Prod.fst a) } == ByteArray.toList { data := List.toArray (Prod.fst b) })
      (Post (AV.bool false)
        [AObj.cells [AV.str { data := List.toArray (Prod.fst a) }, AV.sl 2 (Seq.map T.encR ((0 : Int), []) (Prod.snd a)) Tip.none],
        AObj.cells [AV.str { data := List.toArray (Prod.fst b) }, AV.sl 2 (Seq.map T.encR ((0 : Int), []) (Prod.snd b)) Tip.none]])
      (condP ((↑(List.length (Prod.snd a)) : Int) != (↑(List.length (Prod.snd b)) : Int))
        (Post (AV.bool false)
        [AObj.cells [AV.str { data := List.toArray (Prod.fst a) }, AV.sl 2 (Seq.map T.encR ((0 : Int), []) (Prod.snd a)) Tip.none],
        AObj.cells [AV.str { data := List.toArray (Prod.fst b) }, AV.sl 2 (Seq.map T.encR ((0 : Int), []) (Prod.snd b)) Tip.none]])
        (AWP Try.prog 56 0 c62_4 [(2, AV.ptr 0 0), (3, AV.ptr 1 0), (5, AV.int IntKind.i64 (0 : Int))]
        [AObj.cells [AV.str { data := List.toArray (Prod.fst a) }, AV.sl 2 (Seq.map T.encR ((0 : Int), []) (Prod.snd a)) Tip.none],
        AObj.cells [AV.str { data := List.toArray (Prod.fst b) }, AV.sl 2 (Seq.map T.encR ((0 : Int), []) (Prod.snd b)) Tip.none]]
        (q62_2 0 Post))) →
    ASpec Try.prog 62 [AV.agg (T.encM a), AV.agg (T.encM b)] [] Post := fun a b Post h => Go.Ab.ASpec.of_vc g62 Go.Proofs.Try.func62 (by kernel_rfl) (by kernel_rfl) (by kernel_rfl) (Go.Ab.kc (by kernel_rfl) h)
theorem v62_4 : ∀ (a b : T.Mani) (i : Int) (n : Nat) (Post : AV → List AObj → Prop),
  condP (decide (i < (↑(List.length (Prod.snd a)) : Int)))
      (needP ((0 : Int) ≤ i ∧ i < (↑(List.length (Prod.snd a)) : Int))
        (needP ((0 : Int) ≤ i ∧ i < (↑(List.length (Prod.snd b)) : Int))
        (condP (Prod.fst (List.getD (Prod.snd a) (Int.toNat i) ((0 : Int), [])) != Prod.fst (List.getD (Prod.snd b) (Int.toNat i) ((0 : Int), [])))
        (Post (AV.bool false)
        [AObj.cells [AV.str { data := List.toArray (Prod.fst a) }, AV.sl 2 (Seq.map T.encR ((0 : Int), []) (Prod.snd a)) Tip.none],
        AObj.cells [AV.str { data := List.toArray (Prod.fst b) }, AV.sl 2 (Seq.map T.encR ((0 : Int), []) (Prod.snd b)) Tip.none]])
        (needP ((0 : Int) ≤ i ∧ i < (↑(List.length (Prod.snd a)) : Int))
        (needP ((0 : Int) ≤ i ∧ i < (↑(List.length (Prod.snd b)) : Int))
        (ASpec Try.prog 173
        [AV.sl 2 (Seq.map T.encN ([], []) (Prod.snd (List.getD (Prod.snd a) (Int.toNat i) ((0 : Int), [])))) Tip.none,
        AV.sl 2 (Seq.map T.encN ([], []) (Prod.snd (List.getD (Prod.snd b) (Int.toNat i) ((0 : Int), [])))) Tip.none]
        [AObj.cells [AV.str { data := List.toArray (Prod.fst a) }, AV.sl 2 (Seq.map T.encR ((0 : Int), []) (Prod.snd a)) Tip.none],
        AObj.cells [AV.str { data := List.toArray (Prod.fst b) }, AV.sl 2 (Seq.map T.encR ((0 : Int), []) (Prod.snd b)) Tip.none]]
        fun (r : AV) (H' : List AObj) =>
        ∃ (x : Bool),
        r = AV.bool x ∧
        H' =
        [AObj.cells [AV.str { data := List.toArray (Prod.fst a) }, AV.sl 2 (Seq.map T.encR ((0 : Int), []) (Prod.snd a)) Tip.none],
        AObj.cells [AV.str { data := List.toArray (Prod.fst b) }, AV.sl 2 (Seq.map T.encR ((0 : Int), []) (Prod.snd b)) Tip.none]] ∧
        condP (!x)
        (Post (AV.bool false)
        [AObj.cells [AV.str { data := List.toArray (Prod.fst a) }, AV.sl 2 (Seq.map T.encR ((0 : Int), []) (Prod.snd a)) Tip.none],
        AObj.cells [AV.str { data := List.toArray (Prod.fst b) }, AV.sl 2 (Seq.map T.encR ((0 : Int), []) (Prod.snd b)) Tip.none]])
        (AWP Try.prog 56 n c62_4
        [(2, AV.ptr 0 0), (3, AV.ptr 1 0), (5, AV.int IntKind.i64 (IntKind.wrap IntKind.i64 (i + (1 : Int))))]
        [AObj.cells [AV.str { data := List.toArray (Prod.fst a) }, AV.sl 2 (Seq.map T.encR ((0 : Int), []) (Prod.snd a)) Tip.none],
        AObj.cells [AV.str { data := List.toArray (Prod.fst b) }, AV.sl 2 (Seq.map T.encR ((0 : Int), []) (Prod.snd b)) Tip.none]]
        (q62_2 n Post))))))))
      (Post (AV.bool true)
        [AObj.cells [AV.str { data := List.toArray (Prod.fst a) }, AV.sl 2 (Seq.map T.encR ((0 : Int), []) (Prod.snd a)) Tip.none],
        AObj.cells [AV.str { data := List.toArray (Prod.fst b) }, AV.sl 2 (Seq.map T.encR ((0 : Int), []) (Prod.snd b)) Tip.none]]) →
    AWP Try.prog 56 n c62_4 [(2, AV.ptr 0 0), (3, AV.ptr 1 0), (5, AV.int IntKind.i64 i)] [AObj.cells (T.encM a), AObj.cells (T.encM b)]
      (q62_2 n Post) := fun a b i n Post h => Go.Ab.AWP.loop' g62 (Cfg.live g62) c62_4 (by kernel_rfl) (by kernel_rfl) (Go.Ab.kc (by kernel_rfl) h)

end
end C
end

section
/- Events as cells. -/

open Go Go.Ab Go.Proofs
namespace T
/-- kind, needs, ticks, ticket, body -/
abbrev Ev := Int × List Need × Int × Int × List UInt8
noncomputable def encE (x : Ev) : List AV := [.int .i64 x.1, .sl 2 (.map encN ([], []) x.2.1) .none, .int .i64 x.2.2.1, .int .i64 x.2.2.2.1, .sl 1 (.map encB 0 x.2.2.2.2) .none]
abbrev noEv : Ev := (0, [], 0, 0, [])
end T
end

section
/- Printed: what the code of functions 328, 329, 375, 376, 377, 394, 282, 48, 330, 190, 283, 189, 194, 70, 188, 187, 281, 415, 72, 71 asks for, by the framework's own reading of it; each line is checked against the code. -/

set_option linter.unusedVariables false
set_option maxRecDepth 100000
set_option maxHeartbeats 4000000
open Go Go.Ab Go.Proofs
namespace E
noncomputable section

noncomputable def retE : List (Nat × Ret) := [
  (71, ⟨Unit, fun _ _ _ => .bool true, fun _ H _ => H⟩),
  (190, ⟨Int × List T.Need, fun _ _ x => .iface 337 (.agg [.int .i64 x.1, .sl 2 (.map T.encN ([], []) x.2) .none]), fun _ H _ => H⟩),
  (190, ⟨Unit, fun _ _ _ => .iface 333 (.agg []), fun _ H _ => H⟩),
  (190, ⟨Int × List UInt8, fun _ _ x => .iface 339 (.agg [.int .i64 x.1, .sl 1 (.map encB 0 x.2) .none]), fun _ H _ => H⟩),
  (190, ⟨Int, fun _ _ x => .iface 341 (.agg [.int .i64 x]), fun _ H _ => H⟩),
  (190, ⟨Unit, fun _ _ _ => .nili, fun _ H _ => H⟩),
  (283, ⟨T.Ev × Bool, fun _ _ x => .tup [.agg (T.encE x.1), .bool x.2], fun _ H _ => H⟩),
  (281, ⟨Int, fun _ _ x => .int .i64 x, fun _ H _ => H⟩),
  (70, ⟨Bool, fun _ _ x => .bool x, fun _ H _ => H⟩),
  (189, ⟨Bool, fun _ _ x => .bool x, fun _ H _ => H⟩),
  (194, ⟨Bool, fun _ _ x => .bool x, fun _ H _ => H⟩),
  (282, ⟨Bool, fun _ _ x => .bool x, fun _ H _ => H⟩),
  (48, ⟨Bool, fun _ _ x => .bool x, fun _ H _ => H⟩),
  (328, ⟨Bool, fun _ _ x => .bool x, fun _ H _ => H⟩),
  (329, ⟨Bool, fun _ _ x => .bool x, fun _ H _ => H⟩),
  (187, ⟨Bool, fun _ _ x => .bool x, fun _ H _ => H⟩),
  (188, ⟨Bool, fun _ _ x => .bool x, fun _ H _ => H⟩),
  (330, ⟨Bool, fun _ _ x => .bool x, fun _ H _ => H⟩),
  (375, ⟨Bool, fun _ _ x => .bool x, fun _ H _ => H⟩),
  (376, ⟨Bool, fun _ _ x => .bool x, fun _ H _ => H⟩),
  (377, ⟨Bool, fun _ _ x => .bool x, fun _ H _ => H⟩),
  (394, ⟨Bool, fun _ _ x => .bool x, fun _ H _ => H⟩),
  (72, ⟨List UInt8, fun _ _ x => .sl 1 (.map encB 0 x) .none, fun _ H _ => H⟩),
  (415, ⟨List UInt8, fun _ _ x => .sl 1 (.map encB 0 x) .none, fun _ H _ => H⟩),
  (416, ⟨List UInt8, fun _ _ x => .sl 1 (.map encB 0 x) .none, fun _ H _ => H⟩),
  (417, ⟨List UInt8, fun _ _ x => .sl 1 (.map encB 0 x) .none, fun _ H _ => H⟩),
  (418, ⟨List UInt8, fun _ _ x => .sl 1 (.map encB 0 x) .none, fun _ H _ => H⟩)
  ]
noncomputable def rets : FuncId → List Ret := lookupR (retE ++ C.retC ++ V.retL)

-- 328
noncomputable def l328 : Nat → List Nat
  | _ => []
noncomputable def u328 : Nat → Bool
  | _ => false
noncomputable def m328 : Nat → Bool
  | _ => false
noncomputable def g328 : Cfg := { N := 10, live := l328, cut := u328, mu := m328, ret := rets }
noncomputable def c328 : Go.Code := Go.Ab.bodyOf Go.Proofs.Try.f328
theorem s328 : ∀ (a b : List UInt8) (Post : AV → List AObj → Prop),
  needP (allBytes (Seq.map encB (0 : UInt8) a))
      (needP (allBytes (Seq.map encB (0 : UInt8) b)) (Post (AV.bool (ByteArray.toList (bytesOf (Seq.map encB (0 : UInt8) a)) == ByteArray.toList (bytesOf (Seq.map encB (0 : UInt8) b)))) [])) →
    ASpec Try.prog 328 [AV.sl 1 (Seq.map encB (0 : UInt8) a) Tip.none, AV.sl 1 (Seq.map encB (0 : UInt8) b) Tip.none] [] Post := fun a b Post h => Go.Ab.ASpec.of_vc g328 Go.Proofs.Try.func328 (by kernel_rfl) (by kernel_rfl) (by kernel_rfl) (Go.Ab.kc (by kernel_rfl) h)

-- 329
noncomputable def l329 : Nat → List Nat
  | _ => []
noncomputable def u329 : Nat → Bool
  | _ => false
noncomputable def m329 : Nat → Bool
  | _ => false
noncomputable def g329 : Cfg := { N := 8, live := l329, cut := u329, mu := m329, ret := rets }
noncomputable def c329 : Go.Code := Go.Ab.bodyOf Go.Proofs.Try.f329
theorem s329 : ∀ (a b : List T.Need) (Post : AV → List AObj → Prop),
  (ASpec Try.prog 375 [AV.sl 2 (Seq.map T.encN ([], []) a) Tip.none, AV.sl 2 (Seq.map T.encN ([], []) b) Tip.none, AV.fn 376 []] [] fun (r : AV) (H' : List AObj) =>
      ∃ (x : Bool), r = AV.bool x ∧ H' = [] ∧ Post (AV.bool x) []) →
    ASpec Try.prog 329 [AV.sl 2 (Seq.map T.encN ([], []) a) Tip.none, AV.sl 2 (Seq.map T.encN ([], []) b) Tip.none] [] Post := fun a b Post h => Go.Ab.ASpec.of_vc g329 Go.Proofs.Try.func329 (by kernel_rfl) (by kernel_rfl) (by kernel_rfl) (Go.Ab.kc (by kernel_rfl) h)

-- 375
noncomputable def l375 : Nat → List Nat
  | 4 => [1, 2, 15, 16, 17]
  | _ => []
noncomputable def u375 : Nat → Bool
  | _ => false
noncomputable def m375 : Nat → Bool
  | _ => false
noncomputable def g375 : Cfg := { N := 32, live := l375, cut := u375, mu := m375, ret := rets }
noncomputable def c375 : Go.Code := Go.Ab.bodyOf Go.Proofs.Try.f375
noncomputable def q375_0 : Nat → (AV → List AObj → Prop) → AQ := fun (n : Nat) (Post : AV → List AObj → Prop) => endQ Try.prog (resultsOf Try.f375) Post
noncomputable def q375_1 : Nat → (AV → List AObj → Prop) → AQ := fun (n : Nat) (Post : AV → List AObj → Prop) => seqQ (fun (s' : Slots) (H' : List AObj) => awp Try.prog g375 n (codeSnd (codeSnd (codeSnd c375))) s' H' (q375_0 n Post)) (q375_0 n Post)
noncomputable def q375_2 : Nat → (AV → List AObj → Prop) → AQ := fun (n : Nat) (Post : AV → List AObj → Prop) => blockQ 0 (q375_1 n Post)
noncomputable def c375_4 : Go.Code := codeFst (codeSnd (codeFst (codeSnd (codeSnd c375))))
theorem s375 : ∀ (a b : List T.Need) (Post : AV → List AObj → Prop),
  condP ((↑(List.length a) : Int) != (↑(List.length b) : Int)) (Post (AV.bool false) [])
      (AWP Try.prog 32 0 c375_4
        [(1, AV.sl 2 (Seq.map T.encN ([], []) b) Tip.none), (2, AV.fn (376 : FuncId) []), (15, AV.sl 2 (Seq.map T.encN ([], []) a) Tip.none),
        (16, AV.int IntKind.i64 (↑(List.length a) : Int)), (17, AV.int IntKind.i64 (0 : Int))]
        [] (q375_2 0 Post)) →
    ASpec Try.prog 375 [AV.sl 2 (Seq.map T.encN ([], []) a) Tip.none, AV.sl 2 (Seq.map T.encN ([], []) b) Tip.none, AV.fn (376 : FuncId) []] [] Post := fun a b Post h => Go.Ab.ASpec.of_vc g375 Go.Proofs.Try.func375 (by kernel_rfl) (by kernel_rfl) (by kernel_rfl) (Go.Ab.kc (by kernel_rfl) h)
theorem v375_4 : ∀ (a b : List T.Need) (n i : Int) (n_1 : Nat) (Post : AV → List AObj → Prop),
  condP (decide (i < n))
      (needP ((0 : Int) ≤ i ∧ i < (↑(List.length a) : Int))
        (needP ((0 : Int) ≤ i ∧ i < (↑(List.length b) : Int))
        (ASpec Try.prog 376
        [AV.agg
        [AV.str { data := List.toArray (Prod.fst (List.getD a (Int.toNat i) ([], []))) },
        AV.sl 2 (Seq.map T.encS ((0 : Int), (0 : Int)) (Prod.snd (List.getD a (Int.toNat i) ([], [])))) Tip.none],
        AV.agg
        [AV.str { data := List.toArray (Prod.fst (List.getD b (Int.toNat i) ([], []))) },
        AV.sl 2 (Seq.map T.encS ((0 : Int), (0 : Int)) (Prod.snd (List.getD b (Int.toNat i) ([], [])))) Tip.none]]
        [AObj.cells
        [AV.str { data := List.toArray (Prod.fst (List.getD a (Int.toNat i) ([], []))) },
        AV.sl 2 (Seq.map T.encS ((0 : Int), (0 : Int)) (Prod.snd (List.getD a (Int.toNat i) ([], [])))) Tip.none],
        AObj.cells
        [AV.str { data := List.toArray (Prod.fst (List.getD b (Int.toNat i) ([], []))) },
        AV.sl 2 (Seq.map T.encS ((0 : Int), (0 : Int)) (Prod.snd (List.getD b (Int.toNat i) ([], [])))) Tip.none]]
        fun (r : AV) (H' : List AObj) =>
        ∃ (x : Bool),
        r = AV.bool x ∧
        H' =
        [AObj.cells
        [AV.str { data := List.toArray (Prod.fst (List.getD a (Int.toNat i) ([], []))) },
        AV.sl 2 (Seq.map T.encS ((0 : Int), (0 : Int)) (Prod.snd (List.getD a (Int.toNat i) ([], [])))) Tip.none],
        AObj.cells
        [AV.str { data := List.toArray (Prod.fst (List.getD b (Int.toNat i) ([], []))) },
        AV.sl 2 (Seq.map T.encS ((0 : Int), (0 : Int)) (Prod.snd (List.getD b (Int.toNat i) ([], [])))) Tip.none]] ∧
        condP (!x)
        (Post (AV.bool false)
        [AObj.cells
        [AV.str { data := List.toArray (Prod.fst (List.getD a (Int.toNat i) ([], []))) },
        AV.sl 2 (Seq.map T.encS ((0 : Int), (0 : Int)) (Prod.snd (List.getD a (Int.toNat i) ([], [])))) Tip.none],
        AObj.cells
        [AV.str { data := List.toArray (Prod.fst (List.getD b (Int.toNat i) ([], []))) },
        AV.sl 2 (Seq.map T.encS ((0 : Int), (0 : Int)) (Prod.snd (List.getD b (Int.toNat i) ([], [])))) Tip.none]])
        (AWP Try.prog 32 n_1 c375_4
        [(1, AV.sl 2 (Seq.map T.encN ([], []) b) Tip.none), (2, AV.fn (376 : FuncId) []), (15, AV.sl 2 (Seq.map T.encN ([], []) a) Tip.none),
        (16, AV.int IntKind.i64 n), (17, AV.int IntKind.i64 (IntKind.wrap IntKind.i64 (i + (1 : Int))))]
        [AObj.cells
        [AV.str { data := List.toArray (Prod.fst (List.getD a (Int.toNat i) ([], []))) },
        AV.sl 2 (Seq.map T.encS ((0 : Int), (0 : Int)) (Prod.snd (List.getD a (Int.toNat i) ([], [])))) Tip.none],
        AObj.cells
        [AV.str { data := List.toArray (Prod.fst (List.getD b (Int.toNat i) ([], []))) },
        AV.sl 2 (Seq.map T.encS ((0 : Int), (0 : Int)) (Prod.snd (List.getD b (Int.toNat i) ([], [])))) Tip.none]]
        (q375_2 n_1 Post)))))
      (Post (AV.bool true) []) →
    AWP Try.prog 32 n_1 c375_4
      [(1, AV.sl 2 (Seq.map T.encN ([], []) b) Tip.none), (2, AV.fn (376 : FuncId) []), (15, AV.sl 2 (Seq.map T.encN ([], []) a) Tip.none),
        (16, AV.int IntKind.i64 n), (17, AV.int IntKind.i64 i)]
      [] (q375_2 n_1 Post) := fun a b n i n Post h => Go.Ab.AWP.loop' g375 (Cfg.live g375) c375_4 (by kernel_rfl) (by kernel_rfl) (Go.Ab.kc (by kernel_rfl) h)

-- 376
noncomputable def l376 : Nat → List Nat
  | _ => []
noncomputable def u376 : Nat → Bool
  | _ => false
noncomputable def m376 : Nat → Bool
  | _ => false
noncomputable def g376 : Cfg := { N := 17, live := l376, cut := u376, mu := m376, ret := rets }
noncomputable def c376 : Go.Code := Go.Ab.bodyOf Go.Proofs.Try.f376
theorem s376 : ∀ (a b : T.Need) (Post : AV → List AObj → Prop),
  condP (ByteArray.toList { data := List.toArray (Prod.fst a) } == ByteArray.toList { data := List.toArray (Prod.fst b) })
      (ASpec Try.prog 377 [AV.sl 2 (Seq.map T.encS ((0 : Int), (0 : Int)) (Prod.snd a)) Tip.none, AV.sl 2 (Seq.map T.encS ((0 : Int), (0 : Int)) (Prod.snd b)) Tip.none]
        [AObj.cells [AV.str { data := List.toArray (Prod.fst a) }, AV.sl 2 (Seq.map T.encS ((0 : Int), (0 : Int)) (Prod.snd a)) Tip.none],
        AObj.cells [AV.str { data := List.toArray (Prod.fst b) }, AV.sl 2 (Seq.map T.encS ((0 : Int), (0 : Int)) (Prod.snd b)) Tip.none]]
        fun (r : AV) (H' : List AObj) =>
        ∃ (x : Bool),
        r = AV.bool x ∧
        H' =
        [AObj.cells [AV.str { data := List.toArray (Prod.fst a) }, AV.sl 2 (Seq.map T.encS ((0 : Int), (0 : Int)) (Prod.snd a)) Tip.none],
        AObj.cells [AV.str { data := List.toArray (Prod.fst b) }, AV.sl 2 (Seq.map T.encS ((0 : Int), (0 : Int)) (Prod.snd b)) Tip.none]] ∧
        Post (AV.bool x)
        [AObj.cells [AV.str { data := List.toArray (Prod.fst a) }, AV.sl 2 (Seq.map T.encS ((0 : Int), (0 : Int)) (Prod.snd a)) Tip.none],
        AObj.cells [AV.str { data := List.toArray (Prod.fst b) }, AV.sl 2 (Seq.map T.encS ((0 : Int), (0 : Int)) (Prod.snd b)) Tip.none]])
      (Post (AV.bool false)
        [AObj.cells [AV.str { data := List.toArray (Prod.fst a) }, AV.sl 2 (Seq.map T.encS ((0 : Int), (0 : Int)) (Prod.snd a)) Tip.none],
        AObj.cells [AV.str { data := List.toArray (Prod.fst b) }, AV.sl 2 (Seq.map T.encS ((0 : Int), (0 : Int)) (Prod.snd b)) Tip.none]]) →
    ASpec Try.prog 376 [AV.agg (T.encN a), AV.agg (T.encN b)] [] Post := fun a b Post h => Go.Ab.ASpec.of_vc g376 Go.Proofs.Try.func376 (by kernel_rfl) (by kernel_rfl) (by kernel_rfl) (Go.Ab.kc (by kernel_rfl) h)

-- 377
noncomputable def l377 : Nat → List Nat
  | _ => []
noncomputable def u377 : Nat → Bool
  | _ => false
noncomputable def m377 : Nat → Bool
  | _ => false
noncomputable def g377 : Cfg := { N := 8, live := l377, cut := u377, mu := m377, ret := rets }
noncomputable def c377 : Go.Code := Go.Ab.bodyOf Go.Proofs.Try.f377
theorem s377 : ∀ (a b : List T.Span) (Post : AV → List AObj → Prop),
  (ASpec Try.prog 394 [AV.sl 2 (Seq.map T.encS ((0 : Int), (0 : Int)) a) Tip.none, AV.sl 2 (Seq.map T.encS ((0 : Int), (0 : Int)) b) Tip.none] []
      fun (r : AV) (H' : List AObj) => ∃ (x : Bool), r = AV.bool x ∧ H' = [] ∧ Post (AV.bool x) []) →
    ASpec Try.prog 377 [AV.sl 2 (Seq.map T.encS ((0 : Int), (0 : Int)) a) Tip.none, AV.sl 2 (Seq.map T.encS ((0 : Int), (0 : Int)) b) Tip.none] [] Post := fun a b Post h => Go.Ab.ASpec.of_vc g377 Go.Proofs.Try.func377 (by kernel_rfl) (by kernel_rfl) (by kernel_rfl) (Go.Ab.kc (by kernel_rfl) h)

-- 394
noncomputable def l394 : Nat → List Nat
  | 4 => [0, 1, 12, 13]
  | _ => []
noncomputable def u394 : Nat → Bool
  | _ => false
noncomputable def m394 : Nat → Bool
  | _ => false
noncomputable def g394 : Cfg := { N := 26, live := l394, cut := u394, mu := m394, ret := rets }
noncomputable def c394 : Go.Code := Go.Ab.bodyOf Go.Proofs.Try.f394
noncomputable def q394_0 : Nat → (AV → List AObj → Prop) → AQ := fun (n : Nat) (Post : AV → List AObj → Prop) => endQ Try.prog (resultsOf Try.f394) Post
noncomputable def q394_1 : Nat → (AV → List AObj → Prop) → AQ := fun (n : Nat) (Post : AV → List AObj → Prop) => seqQ (fun (s' : Slots) (H' : List AObj) => awp Try.prog g394 n (codeSnd (codeSnd (codeSnd c394))) s' H' (q394_0 n Post)) (q394_0 n Post)
noncomputable def q394_2 : Nat → (AV → List AObj → Prop) → AQ := fun (n : Nat) (Post : AV → List AObj → Prop) => blockQ 0 (q394_1 n Post)
noncomputable def c394_4 : Go.Code := codeFst (codeSnd (codeFst (codeSnd (codeSnd c394))))
theorem s394 : ∀ (a b : List T.Span) (Post : AV → List AObj → Prop),
  condP ((↑(List.length a) : Int) != (↑(List.length b) : Int)) (Post (AV.bool false) [])
      (AWP Try.prog 26 0 c394_4
        [(0, AV.sl 2 (Seq.map T.encS ((0 : Int), (0 : Int)) a) Tip.none), (1, AV.sl 2 (Seq.map T.encS ((0 : Int), (0 : Int)) b) Tip.none),
        (12, AV.int IntKind.i64 (↑(List.length a) : Int)), (13, AV.int IntKind.i64 (0 : Int))]
        [] (q394_2 0 Post)) →
    ASpec Try.prog 394 [AV.sl 2 (Seq.map T.encS ((0 : Int), (0 : Int)) a) Tip.none, AV.sl 2 (Seq.map T.encS ((0 : Int), (0 : Int)) b) Tip.none] [] Post := fun a b Post h => Go.Ab.ASpec.of_vc g394 Go.Proofs.Try.func394 (by kernel_rfl) (by kernel_rfl) (by kernel_rfl) (Go.Ab.kc (by kernel_rfl) h)
theorem v394_4 : ∀ (a b : List T.Span) (n i : Int) (n_1 : Nat) (Post : AV → List AObj → Prop),
  condP (decide (i < n))
      (needP ((0 : Int) ≤ i ∧ i < (↑(List.length a) : Int))
        (needP ((0 : Int) ≤ i ∧ i < (↑(List.length b) : Int))
        (condP
        (!(Prod.fst (List.getD a (Int.toNat i) ((0 : Int), (0 : Int))) == Prod.fst (List.getD b (Int.toNat i) ((0 : Int), (0 : Int))) &&
        (Prod.snd (List.getD a (Int.toNat i) ((0 : Int), (0 : Int))) == Prod.snd (List.getD b (Int.toNat i) ((0 : Int), (0 : Int))) && true)))
        (Post (AV.bool false) [])
        (AWP Try.prog 26 n_1 c394_4
        [(0, AV.sl 2 (Seq.map T.encS ((0 : Int), (0 : Int)) a) Tip.none), (1, AV.sl 2 (Seq.map T.encS ((0 : Int), (0 : Int)) b) Tip.none),
        (12, AV.int IntKind.i64 n), (13, AV.int IntKind.i64 (IntKind.wrap IntKind.i64 (i + (1 : Int))))]
        [] (q394_2 n_1 Post)))))
      (Post (AV.bool true) []) →
    AWP Try.prog 26 n_1 c394_4
      [(0, AV.sl 2 (Seq.map T.encS ((0 : Int), (0 : Int)) a) Tip.none), (1, AV.sl 2 (Seq.map T.encS ((0 : Int), (0 : Int)) b) Tip.none),
        (12, AV.int IntKind.i64 n), (13, AV.int IntKind.i64 i)]
      [] (q394_2 n_1 Post) := fun a b n i n Post h => Go.Ab.AWP.loop' g394 (Cfg.live g394) c394_4 (by kernel_rfl) (by kernel_rfl) (Go.Ab.kc (by kernel_rfl) h)

-- 282
noncomputable def l282 : Nat → List Nat
  | _ => []
noncomputable def u282 : Nat → Bool
  | _ => false
noncomputable def m282 : Nat → Bool
  | _ => false
noncomputable def g282 : Cfg := { N := 38, live := l282, cut := u282, mu := m282, ret := rets }
noncomputable def c282 : Go.Code := Go.Ab.bodyOf Go.Proofs.Try.f282
theorem s282 : ∀ (a b : T.Ev) (Post : AV → List AObj → Prop),
  condP (Prod.fst a == Prod.fst b)
      (condP (Prod.fst (Prod.snd (Prod.snd a)) == Prod.fst (Prod.snd (Prod.snd b)))
        (condP (Prod.fst (Prod.snd (Prod.snd (Prod.snd a))) == Prod.fst (Prod.snd (Prod.snd (Prod.snd b))))
        (ASpec Try.prog 328
        [AV.sl 1 (Seq.map encB (0 : UInt8) (Prod.snd (Prod.snd (Prod.snd (Prod.snd a))))) Tip.none,
        AV.sl 1 (Seq.map encB (0 : UInt8) (Prod.snd (Prod.snd (Prod.snd (Prod.snd b))))) Tip.none]
        [AObj.cells
        [AV.int IntKind.i64 (Prod.fst a), AV.sl 2 (Seq.map T.encN ([], []) (Prod.fst (Prod.snd a))) Tip.none, AV.int IntKind.i64 (Prod.fst (Prod.snd (Prod.snd a))),
        AV.int IntKind.i64 (Prod.fst (Prod.snd (Prod.snd (Prod.snd a)))), AV.sl 1 (Seq.map encB (0 : UInt8) (Prod.snd (Prod.snd (Prod.snd (Prod.snd a))))) Tip.none],
        AObj.cells
        [AV.int IntKind.i64 (Prod.fst b), AV.sl 2 (Seq.map T.encN ([], []) (Prod.fst (Prod.snd b))) Tip.none, AV.int IntKind.i64 (Prod.fst (Prod.snd (Prod.snd b))),
        AV.int IntKind.i64 (Prod.fst (Prod.snd (Prod.snd (Prod.snd b)))), AV.sl 1 (Seq.map encB (0 : UInt8) (Prod.snd (Prod.snd (Prod.snd (Prod.snd b))))) Tip.none]]
        fun (r : AV) (H' : List AObj) =>
        ∃ (x : Bool),
        r = AV.bool x ∧
        H' =
        [AObj.cells
        [AV.int IntKind.i64 (Prod.fst a), AV.sl 2 (Seq.map T.encN ([], []) (Prod.fst (Prod.snd a))) Tip.none, AV.int IntKind.i64 (Prod.fst (Prod.snd (Prod.snd a))),
        AV.int IntKind.i64 (Prod.fst (Prod.snd (Prod.snd (Prod.snd a)))), AV.sl 1 (Seq.map encB (0 : UInt8) (Prod.snd (Prod.snd (Prod.snd (Prod.snd a))))) Tip.none],
        AObj.cells
        [AV.int IntKind.i64 (Prod.fst b), AV.sl 2 (Seq.map T.encN ([], []) (Prod.fst (Prod.snd b))) Tip.none, AV.int IntKind.i64 (Prod.fst (Prod.snd (Prod.snd b))),
        AV.int IntKind.i64 (Prod.fst (Prod.snd (Prod.snd (Prod.snd b)))), AV.sl 1 (Seq.map encB (0 : UInt8) (Prod.snd (Prod.snd (Prod.snd (Prod.snd b))))) Tip.none]] ∧
        condP x
        (ASpec Try.prog 329 [AV.sl 2 (Seq.map T.encN ([], []) (Prod.fst (Prod.snd a))) Tip.none, AV.sl 2 (Seq.map T.encN ([], []) (Prod.fst (Prod.snd b))) Tip.none]
        [AObj.cells
        [AV.int IntKind.i64 (Prod.fst a), AV.sl 2 (Seq.map T.encN ([], []) (Prod.fst (Prod.snd a))) Tip.none, AV.int IntKind.i64 (Prod.fst (Prod.snd (Prod.snd a))),
        AV.int IntKind.i64 (Prod.fst (Prod.snd (Prod.snd (Prod.snd a)))), AV.sl 1 (Seq.map encB (0 : UInt8) (Prod.snd (Prod.snd (Prod.snd (Prod.snd a))))) Tip.none],
        AObj.cells
        [AV.int IntKind.i64 (Prod.fst b), AV.sl 2 (Seq.map T.encN ([], []) (Prod.fst (Prod.snd b))) Tip.none, AV.int IntKind.i64 (Prod.fst (Prod.snd (Prod.snd b))),
        AV.int IntKind.i64 (Prod.fst (Prod.snd (Prod.snd (Prod.snd b)))), AV.sl 1 (Seq.map encB (0 : UInt8) (Prod.snd (Prod.snd (Prod.snd (Prod.snd b))))) Tip.none]]
        fun (r : AV) (H' : List AObj) =>
        ∃ (x : Bool),
        r = AV.bool x ∧
        H' =
        [AObj.cells
        [AV.int IntKind.i64 (Prod.fst a), AV.sl 2 (Seq.map T.encN ([], []) (Prod.fst (Prod.snd a))) Tip.none, AV.int IntKind.i64 (Prod.fst (Prod.snd (Prod.snd a))),
        AV.int IntKind.i64 (Prod.fst (Prod.snd (Prod.snd (Prod.snd a)))),
        AV.sl 1 (Seq.map encB (0 : UInt8) (Prod.snd (Prod.snd (Prod.snd (Prod.snd a))))) Tip.none],
        AObj.cells
        [AV.int IntKind.i64 (Prod.fst b), AV.sl 2 (Seq.map T.encN ([], []) (Prod.fst (Prod.snd b))) Tip.none, AV.int IntKind.i64 (Prod.fst (Prod.snd (Prod.snd b))),
        AV.int IntKind.i64 (Prod.fst (Prod.snd (Prod.snd (Prod.snd b)))),
        AV.sl 1 (Seq.map encB (0 : UInt8) (Prod.snd (Prod.snd (Prod.snd (Prod.snd b))))) Tip.none]] ∧
        Post (AV.bool x)
        [AObj.cells
        [AV.int IntKind.i64 (Prod.fst a), AV.sl 2 (Seq.map T.encN ([], []) (Prod.fst (Prod.snd a))) Tip.none, AV.int IntKind.i64 (Prod.fst (Prod.snd (Prod.snd a))),
        AV.int IntKind.i64 (Prod.fst (Prod.snd (Prod.snd (Prod.snd a)))),
        AV.sl 1 (Seq.map encB (0 : UInt8) (Prod.snd (Prod.snd (Prod.snd (Prod.snd a))))) Tip.none],
        AObj.cells
        [AV.int IntKind.i64 (Prod.fst b), AV.sl 2 (Seq.map T.encN ([], []) (Prod.fst (Prod.snd b))) Tip.none, AV.int IntKind.i64 (Prod.fst (Prod.snd (Prod.snd b))),
        AV.int IntKind.i64 (Prod.fst (Prod.snd (Prod.snd (Prod.snd b)))),
        AV.sl 1 (Seq.map encB (0 : UInt8) (Prod.snd (Prod.snd (Prod.snd (Prod.snd b))))) Tip.none]])
        (Post (AV.bool false)
        [AObj.cells
        [AV.int IntKind.i64 (Prod.fst a), AV.sl 2 (Seq.map T.encN ([], []) (Prod.fst (Prod.snd a))) Tip.none, AV.int IntKind.i64 (Prod.fst (Prod.snd (Prod.snd a))),
        AV.int IntKind.i64 (Prod.fst (Prod.snd (Prod.snd (Prod.snd a)))), AV.sl 1 (Seq.map encB (0 : UInt8) (Prod.snd (Prod.snd (Prod.snd (Prod.snd a))))) Tip.none],
        AObj.cells
        [AV.int IntKind.i64 (Prod.fst b), AV.sl 2 (Seq.map T.encN ([], []) (Prod.fst (Prod.snd b))) Tip.none, AV.int IntKind.i64 (Prod.fst (Prod.snd (Prod.snd b))),
        AV.int IntKind.i64 (Prod.fst (Prod.snd (Prod.snd (Prod.snd b)))), AV.sl 1 (Seq.map encB (0 : UInt8) (Prod.snd (Prod.snd (Prod.snd (Prod.snd b))))) Tip.none]]))
        (Post (AV.bool false)
        [AObj.cells
        [AV.int IntKind.i64 (Prod.fst a), AV.sl 2 (Seq.map T.encN ([], []) (Prod.fst (Prod.snd a))) Tip.none, AV.int IntKind.i64 (Prod.fst (Prod.snd (Prod.snd a))),
        AV.int IntKind.i64 (Prod.fst (Prod.snd (Prod.snd (Prod.snd a)))), AV.sl 1 (Seq.map encB (0 : UInt8) (Prod.snd (Prod.snd (Prod.snd (Prod.snd a))))) Tip.none],
        AObj.cells
        [AV.int IntKind.i64 (Prod.fst b), AV.sl 2 (Seq.map T.encN ([], []) (Prod.fst (Prod.snd b))) Tip.none, AV.int IntKind.i64 (Prod.fst (Prod.snd (Prod.snd b))),
        AV.int IntKind.i64 (Prod.fst (Prod.snd (Prod.snd (Prod.snd b)))), AV.sl 1 (Seq.map encB (0 : UInt8) (Prod.snd (Prod.snd (Prod.snd (Prod.snd b))))) Tip.none]]))
        (Post (AV.bool false)
        [AObj.cells
        [AV.int IntKind.i64 (Prod.fst a), AV.sl 2 (Seq.map T.encN ([], []) (Prod.fst (Prod.snd a))) Tip.none, AV.int IntKind.i64 (Prod.fst (Prod.snd (Prod.snd a))),
        AV.int IntKind.i64 (Prod.fst (Prod.snd (Prod.snd (Prod.snd a)))), AV.sl 1 (Seq.map encB (0 : UInt8) (Prod.snd (Prod.snd (Prod.snd (Prod.snd a))))) Tip.none],
        AObj.cells
        [AV.int IntKind.i64 (Prod.fst b), AV.sl 2 (Seq.map T.encN ([], []) (Prod.fst (Prod.snd b))) Tip.none, AV.int IntKind.i64 (Prod.fst (Prod.snd (Prod.snd b))),
        AV.int IntKind.i64 (Prod.fst (Prod.snd (Prod.snd (Prod.snd b)))), AV.sl 1 (Seq.map encB (0 : UInt8) (Prod.snd (Prod.snd (Prod.snd (Prod.snd b))))) Tip.none]]))
      (Post (AV.bool false)
        [AObj.cells
        [AV.int IntKind.i64 (Prod.fst a), AV.sl 2 (Seq.map T.encN ([], []) (Prod.fst (Prod.snd a))) Tip.none, AV.int IntKind.i64 (Prod.fst (Prod.snd (Prod.snd a))),
        AV.int IntKind.i64 (Prod.fst (Prod.snd (Prod.snd (Prod.snd a)))), AV.sl 1 (Seq.map encB (0 : UInt8) (Prod.snd (Prod.snd (Prod.snd (Prod.snd a))))) Tip.none],
        AObj.cells
        [AV.int IntKind.i64 (Prod.fst b), AV.sl 2 (Seq.map T.encN ([], []) (Prod.fst (Prod.snd b))) Tip.none, AV.int IntKind.i64 (Prod.fst (Prod.snd (Prod.snd b))),
        AV.int IntKind.i64 (Prod.fst (Prod.snd (Prod.snd (Prod.snd b)))), AV.sl 1 (Seq.map encB (0 : UInt8) (Prod.snd (Prod.snd (Prod.snd (Prod.snd b))))) Tip.none]]) →
    ASpec Try.prog 282 [AV.agg (T.encE a), AV.agg (T.encE b)] [] Post := fun a b Post h => Go.Ab.ASpec.of_vc g282 Go.Proofs.Try.func282 (by kernel_rfl) (by kernel_rfl) (by kernel_rfl) (Go.Ab.kc (by kernel_rfl) h)

-- 48
noncomputable def l48 : Nat → List Nat
  | _ => []
noncomputable def u48 : Nat → Bool
  | _ => false
noncomputable def m48 : Nat → Bool
  | _ => false
noncomputable def g48 : Cfg := { N := 40, live := l48, cut := u48, mu := m48, ret := rets }
noncomputable def c48 : Go.Code := Go.Ab.bodyOf Go.Proofs.Try.f48
theorem s48 : ∀ (a b : T.Ev) (Post : AV → List AObj → Prop),
  condP (Prod.fst a == Prod.fst b)
      (ASpec Try.prog 173 [AV.sl 2 (Seq.map T.encN ([], []) (Prod.fst (Prod.snd a))) Tip.none, AV.sl 2 (Seq.map T.encN ([], []) (Prod.fst (Prod.snd b))) Tip.none]
        [AObj.cells
        [AV.int IntKind.i64 (Prod.fst a), AV.sl 2 (Seq.map T.encN ([], []) (Prod.fst (Prod.snd a))) Tip.none, AV.int IntKind.i64 (Prod.fst (Prod.snd (Prod.snd a))),
        AV.int IntKind.i64 (Prod.fst (Prod.snd (Prod.snd (Prod.snd a)))), AV.sl 1 (Seq.map encB (0 : UInt8) (Prod.snd (Prod.snd (Prod.snd (Prod.snd a))))) Tip.none],
        AObj.cells
        [AV.int IntKind.i64 (Prod.fst b), AV.sl 2 (Seq.map T.encN ([], []) (Prod.fst (Prod.snd b))) Tip.none, AV.int IntKind.i64 (Prod.fst (Prod.snd (Prod.snd b))),
        AV.int IntKind.i64 (Prod.fst (Prod.snd (Prod.snd (Prod.snd b)))), AV.sl 1 (Seq.map encB (0 : UInt8) (Prod.snd (Prod.snd (Prod.snd (Prod.snd b))))) Tip.none]]
        fun (r : AV) (H' : List AObj) =>
        ∃ (x : Bool),
        r = AV.bool x ∧
        H' =
        [AObj.cells
        [AV.int IntKind.i64 (Prod.fst a), AV.sl 2 (Seq.map T.encN ([], []) (Prod.fst (Prod.snd a))) Tip.none, AV.int IntKind.i64 (Prod.fst (Prod.snd (Prod.snd a))),
        AV.int IntKind.i64 (Prod.fst (Prod.snd (Prod.snd (Prod.snd a)))), AV.sl 1 (Seq.map encB (0 : UInt8) (Prod.snd (Prod.snd (Prod.snd (Prod.snd a))))) Tip.none],
        AObj.cells
        [AV.int IntKind.i64 (Prod.fst b), AV.sl 2 (Seq.map T.encN ([], []) (Prod.fst (Prod.snd b))) Tip.none, AV.int IntKind.i64 (Prod.fst (Prod.snd (Prod.snd b))),
        AV.int IntKind.i64 (Prod.fst (Prod.snd (Prod.snd (Prod.snd b)))), AV.sl 1 (Seq.map encB (0 : UInt8) (Prod.snd (Prod.snd (Prod.snd (Prod.snd b))))) Tip.none]] ∧
        condP x
        (condP (Prod.fst (Prod.snd (Prod.snd a)) == Prod.fst (Prod.snd (Prod.snd b)))
        (condP (Prod.fst (Prod.snd (Prod.snd (Prod.snd a))) == Prod.fst (Prod.snd (Prod.snd (Prod.snd b))))
        (needP (allBytes (Seq.map encB (0 : UInt8) (Prod.snd (Prod.snd (Prod.snd (Prod.snd a))))))
        (needP (allBytes (Seq.map encB (0 : UInt8) (Prod.snd (Prod.snd (Prod.snd (Prod.snd b))))))
        (Post
        (AV.bool
        (ByteArray.toList (bytesOf (Seq.map encB (0 : UInt8) (Prod.snd (Prod.snd (Prod.snd (Prod.snd a)))))) ==
        ByteArray.toList (bytesOf (Seq.map encB (0 : UInt8) (Prod.snd (Prod.snd (Prod.snd (Prod.snd b))))))))
        [AObj.cells
        [AV.int IntKind.i64 (Prod.fst a), AV.sl 2 (Seq.map T.encN ([], []) (Prod.fst (Prod.snd a))) Tip.none, AV.int IntKind.i64 (Prod.fst (Prod.snd (Prod.snd a))),
        AV.int IntKind.i64 (Prod.fst (Prod.snd (Prod.snd (Prod.snd a)))), AV.sl 1 (Seq.map encB (0 : UInt8) (Prod.snd (Prod.snd (Prod.snd (Prod.snd a))))) Tip.none],
        AObj.cells
        [AV.int IntKind.i64 (Prod.fst b), AV.sl 2 (Seq.map T.encN ([], []) (Prod.fst (Prod.snd b))) Tip.none, AV.int IntKind.i64 (Prod.fst (Prod.snd (Prod.snd b))),
        AV.int IntKind.i64 (Prod.fst (Prod.snd (Prod.snd (Prod.snd b)))), AV.sl 1 (Seq.map encB (0 : UInt8) (Prod.snd (Prod.snd (Prod.snd (Prod.snd b))))) Tip.none]])))
        (Post (AV.bool false)
        [AObj.cells
        [AV.int IntKind.i64 (Prod.fst a), AV.sl 2 (Seq.map T.encN ([], []) (Prod.fst (Prod.snd a))) Tip.none, AV.int IntKind.i64 (Prod.fst (Prod.snd (Prod.snd a))),
        AV.int IntKind.i64 (Prod.fst (Prod.snd (Prod.snd (Prod.snd a)))), AV.sl 1 (Seq.map encB (0 : UInt8) (Prod.snd (Prod.snd (Prod.snd (Prod.snd a))))) Tip.none],
        AObj.cells
        [AV.int IntKind.i64 (Prod.fst b), AV.sl 2 (Seq.map T.encN ([], []) (Prod.fst (Prod.snd b))) Tip.none, AV.int IntKind.i64 (Prod.fst (Prod.snd (Prod.snd b))),
        AV.int IntKind.i64 (Prod.fst (Prod.snd (Prod.snd (Prod.snd b)))), AV.sl 1 (Seq.map encB (0 : UInt8) (Prod.snd (Prod.snd (Prod.snd (Prod.snd b))))) Tip.none]]))
        (Post (AV.bool false)
        [AObj.cells
        [AV.int IntKind.i64 (Prod.fst a), AV.sl 2 (Seq.map T.encN ([], []) (Prod.fst (Prod.snd a))) Tip.none, AV.int IntKind.i64 (Prod.fst (Prod.snd (Prod.snd a))),
        AV.int IntKind.i64 (Prod.fst (Prod.snd (Prod.snd (Prod.snd a)))), AV.sl 1 (Seq.map encB (0 : UInt8) (Prod.snd (Prod.snd (Prod.snd (Prod.snd a))))) Tip.none],
        AObj.cells
        [AV.int IntKind.i64 (Prod.fst b), AV.sl 2 (Seq.map T.encN ([], []) (Prod.fst (Prod.snd b))) Tip.none, AV.int IntKind.i64 (Prod.fst (Prod.snd (Prod.snd b))),
        AV.int IntKind.i64 (Prod.fst (Prod.snd (Prod.snd (Prod.snd b)))), AV.sl 1 (Seq.map encB (0 : UInt8) (Prod.snd (Prod.snd (Prod.snd (Prod.snd b))))) Tip.none]]))
        (Post (AV.bool false)
        [AObj.cells
        [AV.int IntKind.i64 (Prod.fst a), AV.sl 2 (Seq.map T.encN ([], []) (Prod.fst (Prod.snd a))) Tip.none, AV.int IntKind.i64 (Prod.fst (Prod.snd (Prod.snd a))),
        AV.int IntKind.i64 (Prod.fst (Prod.snd (Prod.snd (Prod.snd a)))), AV.sl 1 (Seq.map encB (0 : UInt8) (Prod.snd (Prod.snd (Prod.snd (Prod.snd a))))) Tip.none],
        AObj.cells
        [AV.int IntKind.i64 (Prod.fst b), AV.sl 2 (Seq.map T.encN ([], []) (Prod.fst (Prod.snd b))) Tip.none, AV.int IntKind.i64 (Prod.fst (Prod.snd (Prod.snd b))),
        AV.int IntKind.i64 (Prod.fst (Prod.snd (Prod.snd (Prod.snd b)))), AV.sl 1 (Seq.map encB (0 : UInt8) (Prod.snd (Prod.snd (Prod.snd (Prod.snd b))))) Tip.none]]))
      (Post (AV.bool false)
        [AObj.cells
        [AV.int IntKind.i64 (Prod.fst a), AV.sl 2 (Seq.map T.encN ([], []) (Prod.fst (Prod.snd a))) Tip.none, AV.int IntKind.i64 (Prod.fst (Prod.snd (Prod.snd a))),
        AV.int IntKind.i64 (Prod.fst (Prod.snd (Prod.snd (Prod.snd a)))), AV.sl 1 (Seq.map encB (0 : UInt8) (Prod.snd (Prod.snd (Prod.snd (Prod.snd a))))) Tip.none],
        AObj.cells
        [AV.int IntKind.i64 (Prod.fst b), AV.sl 2 (Seq.map T.encN ([], []) (Prod.fst (Prod.snd b))) Tip.none, AV.int IntKind.i64 (Prod.fst (Prod.snd (Prod.snd b))),
        AV.int IntKind.i64 (Prod.fst (Prod.snd (Prod.snd (Prod.snd b)))), AV.sl 1 (Seq.map encB (0 : UInt8) (Prod.snd (Prod.snd (Prod.snd (Prod.snd b))))) Tip.none]]) →
    ASpec Try.prog 48 [AV.agg (T.encE a), AV.agg (T.encE b)] [] Post := fun a b Post h => Go.Ab.ASpec.of_vc g48 Go.Proofs.Try.func48 (by kernel_rfl) (by kernel_rfl) (by kernel_rfl) (Go.Ab.kc (by kernel_rfl) h)

-- 330
noncomputable def l330 : Nat → List Nat
  | _ => []
noncomputable def u330 : Nat → Bool
  | _ => false
noncomputable def m330 : Nat → Bool
  | _ => false
noncomputable def g330 : Cfg := { N := 9, live := l330, cut := u330, mu := m330, ret := rets }
noncomputable def c330 : Go.Code := Go.Ab.bodyOf Go.Proofs.Try.f330
theorem s330 : ∀ (x : Int) (Post : AV → List AObj → Prop),
  condP (decide (x ≥ (1 : Int))) (Post (AV.bool (decide (x ≤ (1099511627776 : Int)))) []) (Post (AV.bool false) []) → ASpec Try.prog 330 [AV.int IntKind.i64 x] [] Post := fun x Post h => Go.Ab.ASpec.of_vc g330 Go.Proofs.Try.func330 (by kernel_rfl) (by kernel_rfl) (by kernel_rfl) (Go.Ab.kc (by kernel_rfl) h)

-- 190
noncomputable def l190 : Nat → List Nat
  | _ => []
noncomputable def u190 : Nat → Bool
  | _ => false
noncomputable def m190 : Nat → Bool
  | _ => false
noncomputable def g190 : Cfg := { N := 31, live := l190, cut := u190, mu := m190, ret := rets }
noncomputable def c190 : Go.Code := Go.Ab.bodyOf Go.Proofs.Try.f190
theorem s190 : ∀ (e : T.Ev) (Post : AV → List AObj → Prop),
  condP (Prod.fst e == (1 : Int))
      (Post (AV.iface 337 (AV.agg [AV.int IntKind.i64 (Prod.fst (Prod.snd (Prod.snd e))), AV.sl 2 (Seq.map T.encN ([], []) (Prod.fst (Prod.snd e))) Tip.none]))
        [AObj.cells
        [AV.int IntKind.i64 (Prod.fst e), AV.sl 2 (Seq.map T.encN ([], []) (Prod.fst (Prod.snd e))) Tip.none, AV.int IntKind.i64 (Prod.fst (Prod.snd (Prod.snd e))),
        AV.int IntKind.i64 (Prod.fst (Prod.snd (Prod.snd (Prod.snd e)))), AV.sl 1 (Seq.map encB (0 : UInt8) (Prod.snd (Prod.snd (Prod.snd (Prod.snd e))))) Tip.none]])
      (condP (Prod.fst e == (2 : Int))
        (Post (AV.iface 333 (AV.agg []))
        [AObj.cells
        [AV.int IntKind.i64 (Prod.fst e), AV.sl 2 (Seq.map T.encN ([], []) (Prod.fst (Prod.snd e))) Tip.none, AV.int IntKind.i64 (Prod.fst (Prod.snd (Prod.snd e))),
        AV.int IntKind.i64 (Prod.fst (Prod.snd (Prod.snd (Prod.snd e)))), AV.sl 1 (Seq.map encB (0 : UInt8) (Prod.snd (Prod.snd (Prod.snd (Prod.snd e))))) Tip.none]])
        (condP (Prod.fst e == (3 : Int))
        (Post
        (AV.iface 339
        (AV.agg [AV.int IntKind.i64 (Prod.fst (Prod.snd (Prod.snd (Prod.snd e)))), AV.sl 1 (Seq.map encB (0 : UInt8) (Prod.snd (Prod.snd (Prod.snd (Prod.snd e))))) Tip.none]))
        [AObj.cells
        [AV.int IntKind.i64 (Prod.fst e), AV.sl 2 (Seq.map T.encN ([], []) (Prod.fst (Prod.snd e))) Tip.none, AV.int IntKind.i64 (Prod.fst (Prod.snd (Prod.snd e))),
        AV.int IntKind.i64 (Prod.fst (Prod.snd (Prod.snd (Prod.snd e)))), AV.sl 1 (Seq.map encB (0 : UInt8) (Prod.snd (Prod.snd (Prod.snd (Prod.snd e))))) Tip.none]])
        (condP (Prod.fst e == (4 : Int))
        (Post (AV.iface 341 (AV.agg [AV.int IntKind.i64 (Prod.fst (Prod.snd (Prod.snd (Prod.snd e))))]))
        [AObj.cells
        [AV.int IntKind.i64 (Prod.fst e), AV.sl 2 (Seq.map T.encN ([], []) (Prod.fst (Prod.snd e))) Tip.none, AV.int IntKind.i64 (Prod.fst (Prod.snd (Prod.snd e))),
        AV.int IntKind.i64 (Prod.fst (Prod.snd (Prod.snd (Prod.snd e)))), AV.sl 1 (Seq.map encB (0 : UInt8) (Prod.snd (Prod.snd (Prod.snd (Prod.snd e))))) Tip.none]])
        (Post AV.nili
        [AObj.cells
        [AV.int IntKind.i64 (Prod.fst e), AV.sl 2 (Seq.map T.encN ([], []) (Prod.fst (Prod.snd e))) Tip.none, AV.int IntKind.i64 (Prod.fst (Prod.snd (Prod.snd e))),
        AV.int IntKind.i64 (Prod.fst (Prod.snd (Prod.snd (Prod.snd e)))), AV.sl 1 (Seq.map encB (0 : UInt8) (Prod.snd (Prod.snd (Prod.snd (Prod.snd e))))) Tip.none]])))) →
    ASpec Try.prog 190 [AV.agg (T.encE e)] [] Post := fun e Post h => Go.Ab.ASpec.of_vc g190 Go.Proofs.Try.func190 (by kernel_rfl) (by kernel_rfl) (by kernel_rfl) (Go.Ab.kc (by kernel_rfl) h)

-- 283
noncomputable def l283 : Nat → List Nat
  | _ => []
noncomputable def u283 : Nat → Bool
  | _ => false
noncomputable def m283 : Nat → Bool
  | _ => false
noncomputable def g283 : Cfg := { N := 64, live := l283, cut := u283, mu := m283, ret := rets }
noncomputable def c283 : Go.Code := Go.Ab.bodyOf Go.Proofs.Try.f283
theorem s283a : ∀ (t : Int) (l : List T.Need) (Post : AV → List AObj → Prop),
  (ASpec Try.prog 232 [AV.sl 2 (Seq.map T.encN ([], []) l) Tip.none]
      [AObj.cells [AV.int IntKind.i64 (0 : Int), AV.sl 0 (Seq.raw []) Tip.nil, AV.int IntKind.i64 (0 : Int), AV.int IntKind.i64 (0 : Int), AV.sl 0 (Seq.raw []) Tip.nil],
        AObj.cells [AV.int IntKind.i64 t, AV.sl 2 (Seq.map T.encN ([], []) l) Tip.none]]
      fun (r : AV) (H' : List AObj) =>
      ∃ (x : Bool),
        r = AV.bool x ∧
        H' =
        [AObj.cells [AV.int IntKind.i64 (0 : Int), AV.sl 0 (Seq.raw []) Tip.nil, AV.int IntKind.i64 (0 : Int), AV.int IntKind.i64 (0 : Int), AV.sl 0 (Seq.raw []) Tip.nil],
        AObj.cells [AV.int IntKind.i64 t, AV.sl 2 (Seq.map T.encN ([], []) l) Tip.none]] ∧
        (AV.sl 2 (Seq.map T.encN ([], []) l) Tip.none = AV.sl 2 (Seq.map T.encN ([], []) l) Tip.none ∧
        [AObj.cells [AV.int IntKind.i64 (0 : Int), AV.sl 0 (Seq.raw []) Tip.nil, AV.int IntKind.i64 (0 : Int), AV.int IntKind.i64 (0 : Int), AV.sl 0 (Seq.raw []) Tip.nil],
        AObj.cells [AV.int IntKind.i64 t, AV.sl 2 (Seq.map T.encN ([], []) l) Tip.none]] =
        [AObj.cells [AV.int IntKind.i64 (0 : Int), AV.sl 0 (Seq.raw []) Tip.nil, AV.int IntKind.i64 (0 : Int), AV.int IntKind.i64 (0 : Int), AV.sl 0 (Seq.raw []) Tip.nil],
        AObj.cells [AV.int IntKind.i64 t, AV.sl 2 (Seq.map T.encN ([], []) l) Tip.none]]) ∧
        (AV.int IntKind.i64 t = AV.int IntKind.i64 t ∧
        [AObj.cells [AV.int IntKind.i64 (0 : Int), AV.sl 0 (Seq.raw []) Tip.nil, AV.int IntKind.i64 (0 : Int), AV.int IntKind.i64 (0 : Int), AV.sl 0 (Seq.raw []) Tip.nil],
        AObj.cells [AV.int IntKind.i64 t, AV.sl 2 (Seq.map T.encN ([], []) l) Tip.none]] =
        [AObj.cells [AV.int IntKind.i64 (0 : Int), AV.sl 0 (Seq.raw []) Tip.nil, AV.int IntKind.i64 (0 : Int), AV.int IntKind.i64 (0 : Int), AV.sl 0 (Seq.raw []) Tip.nil],
        AObj.cells [AV.int IntKind.i64 t, AV.sl 2 (Seq.map T.encN ([], []) l) Tip.none]]) ∧
        condP x
        (condP (decide (t ≥ (0 : Int)))
        ((AV.int IntKind.i64 t = AV.int IntKind.i64 t ∧
        [AObj.cells
        [AV.int IntKind.i64 (1 : Int), AV.sl 2 (Seq.map T.encN ([], []) l) Tip.none, AV.int IntKind.i64 t, AV.int IntKind.i64 (0 : Int),
        AV.sl 0 (Seq.raw []) Tip.nil],
        AObj.cells [AV.int IntKind.i64 t, AV.sl 2 (Seq.map T.encN ([], []) l) Tip.none]] =
        [AObj.cells
        [AV.int IntKind.i64 (1 : Int), AV.sl 2 (Seq.map T.encN ([], []) l) Tip.none, AV.int IntKind.i64 t, AV.int IntKind.i64 (0 : Int),
        AV.sl 0 (Seq.raw []) Tip.nil],
        AObj.cells [AV.int IntKind.i64 t, AV.sl 2 (Seq.map T.encN ([], []) l) Tip.none]]) ∧
        Post
        (AV.tup
        [AV.agg
        [AV.int IntKind.i64 (1 : Int), AV.sl 2 (Seq.map T.encN ([], []) l) Tip.none, AV.int IntKind.i64 t, AV.int IntKind.i64 (0 : Int),
        AV.sl 0 (Seq.raw []) Tip.nil],
        AV.bool (decide (t ≤ (1099511627776 : Int)))])
        [AObj.cells
        [AV.int IntKind.i64 (1 : Int), AV.sl 2 (Seq.map T.encN ([], []) l) Tip.none, AV.int IntKind.i64 t, AV.int IntKind.i64 (0 : Int),
        AV.sl 0 (Seq.raw []) Tip.nil],
        AObj.cells [AV.int IntKind.i64 t, AV.sl 2 (Seq.map T.encN ([], []) l) Tip.none]])
        (AV.tup [] = AV.tup [] ∧
        Post
        (AV.tup
        [AV.agg
        [AV.int IntKind.i64 (1 : Int), AV.sl 2 (Seq.map T.encN ([], []) l) Tip.none, AV.int IntKind.i64 t, AV.int IntKind.i64 (0 : Int),
        AV.sl 0 (Seq.raw []) Tip.nil],
        AV.bool false])
        [AObj.cells
        [AV.int IntKind.i64 (1 : Int), AV.sl 2 (Seq.map T.encN ([], []) l) Tip.none, AV.int IntKind.i64 t, AV.int IntKind.i64 (0 : Int),
        AV.sl 0 (Seq.raw []) Tip.nil],
        AObj.cells [AV.int IntKind.i64 t, AV.sl 2 (Seq.map T.encN ([], []) l) Tip.none]]))
        (AV.tup [] = AV.tup [] ∧
        Post
        (AV.tup
        [AV.agg
        [AV.int IntKind.i64 (1 : Int), AV.sl 2 (Seq.map T.encN ([], []) l) Tip.none, AV.int IntKind.i64 t, AV.int IntKind.i64 (0 : Int),
        AV.sl 0 (Seq.raw []) Tip.nil],
        AV.bool false])
        [AObj.cells
        [AV.int IntKind.i64 (1 : Int), AV.sl 2 (Seq.map T.encN ([], []) l) Tip.none, AV.int IntKind.i64 t, AV.int IntKind.i64 (0 : Int),
        AV.sl 0 (Seq.raw []) Tip.nil],
        AObj.cells [AV.int IntKind.i64 t, AV.sl 2 (Seq.map T.encN ([], []) l) Tip.none]])) →
    ASpec Try.prog 283 [AV.iface (337 : TypeId) (AV.agg [AV.int IntKind.i64 t, AV.sl 2 (Seq.map T.encN ([], []) l) Tip.none])] [] Post := fun t l Post h => Go.Ab.ASpec.of_vc g283 Go.Proofs.Try.func283 (by kernel_rfl) (by kernel_rfl) (by kernel_rfl) (Go.Ab.kc (by kernel_rfl) h)
theorem s283p : ∀ (Post : AV → List AObj → Prop),
  Post
      (AV.tup
        [AV.agg [AV.int IntKind.i64 (2 : Int), AV.sl 0 (Seq.raw []) Tip.nil, AV.int IntKind.i64 (0 : Int), AV.int IntKind.i64 (0 : Int), AV.sl 0 (Seq.raw []) Tip.nil], AV.bool true])
      [AObj.cells [AV.int IntKind.i64 (2 : Int), AV.sl 0 (Seq.raw []) Tip.nil, AV.int IntKind.i64 (0 : Int), AV.int IntKind.i64 (0 : Int), AV.sl 0 (Seq.raw []) Tip.nil],
        AObj.cells []] →
    ASpec Try.prog 283 [AV.iface (333 : TypeId) (AV.agg [])] [] Post := fun Post h => Go.Ab.ASpec.of_vc g283 Go.Proofs.Try.func283 (by kernel_rfl) (by kernel_rfl) (by kernel_rfl) (Go.Ab.kc (by kernel_rfl) h)
theorem s283r : ∀ (t : Int) (b : List UInt8) (Post : AV → List AObj → Prop),
  (ASpec Try.prog 330 [AV.int IntKind.i64 t]
      [AObj.cells [AV.int IntKind.i64 (0 : Int), AV.sl 0 (Seq.raw []) Tip.nil, AV.int IntKind.i64 (0 : Int), AV.int IntKind.i64 (0 : Int), AV.sl 0 (Seq.raw []) Tip.nil],
        AObj.cells [AV.int IntKind.i64 t, AV.sl 1 (Seq.map encB (0 : UInt8) b) Tip.none]]
      fun (r : AV) (H' : List AObj) =>
      ∃ (x : Bool),
        r = AV.bool x ∧
        H' =
        [AObj.cells [AV.int IntKind.i64 (0 : Int), AV.sl 0 (Seq.raw []) Tip.nil, AV.int IntKind.i64 (0 : Int), AV.int IntKind.i64 (0 : Int), AV.sl 0 (Seq.raw []) Tip.nil],
        AObj.cells [AV.int IntKind.i64 t, AV.sl 1 (Seq.map encB (0 : UInt8) b) Tip.none]] ∧
        (AV.sl 1 (Seq.map encB (0 : UInt8) b) Tip.none = AV.sl 1 (Seq.map encB (0 : UInt8) b) Tip.none ∧
        [AObj.cells [AV.int IntKind.i64 (0 : Int), AV.sl 0 (Seq.raw []) Tip.nil, AV.int IntKind.i64 (0 : Int), AV.int IntKind.i64 (0 : Int), AV.sl 0 (Seq.raw []) Tip.nil],
        AObj.cells [AV.int IntKind.i64 t, AV.sl 1 (Seq.map encB (0 : UInt8) b) Tip.none]] =
        [AObj.cells [AV.int IntKind.i64 (0 : Int), AV.sl 0 (Seq.raw []) Tip.nil, AV.int IntKind.i64 (0 : Int), AV.int IntKind.i64 (0 : Int), AV.sl 0 (Seq.raw []) Tip.nil],
        AObj.cells [AV.int IntKind.i64 t, AV.sl 1 (Seq.map encB (0 : UInt8) b) Tip.none]]) ∧
        (AV.int IntKind.i64 t = AV.int IntKind.i64 t ∧
        [AObj.cells [AV.int IntKind.i64 (0 : Int), AV.sl 0 (Seq.raw []) Tip.nil, AV.int IntKind.i64 (0 : Int), AV.int IntKind.i64 (0 : Int), AV.sl 0 (Seq.raw []) Tip.nil],
        AObj.cells [AV.int IntKind.i64 t, AV.sl 1 (Seq.map encB (0 : UInt8) b) Tip.none]] =
        [AObj.cells [AV.int IntKind.i64 (0 : Int), AV.sl 0 (Seq.raw []) Tip.nil, AV.int IntKind.i64 (0 : Int), AV.int IntKind.i64 (0 : Int), AV.sl 0 (Seq.raw []) Tip.nil],
        AObj.cells [AV.int IntKind.i64 t, AV.sl 1 (Seq.map encB (0 : UInt8) b) Tip.none]]) ∧
        condP x
        ((AV.int IntKind.i64 (↑(List.length b) : Int) = AV.int IntKind.i64 (↑(List.length b) : Int) ∧
        [AObj.cells
        [AV.int IntKind.i64 (3 : Int), AV.sl 0 (Seq.raw []) Tip.nil, AV.int IntKind.i64 (0 : Int), AV.int IntKind.i64 t,
        AV.sl 1 (Seq.map encB (0 : UInt8) b) Tip.none],
        AObj.cells [AV.int IntKind.i64 t, AV.sl 1 (Seq.map encB (0 : UInt8) b) Tip.none]] =
        [AObj.cells
        [AV.int IntKind.i64 (3 : Int), AV.sl 0 (Seq.raw []) Tip.nil, AV.int IntKind.i64 (0 : Int), AV.int IntKind.i64 t,
        AV.sl 1 (Seq.map encB (0 : UInt8) b) Tip.none],
        AObj.cells [AV.int IntKind.i64 t, AV.sl 1 (Seq.map encB (0 : UInt8) b) Tip.none]]) ∧
        (AV.sl 1 (Seq.map encB (0 : UInt8) b) Tip.none = AV.sl 1 (Seq.map encB (0 : UInt8) b) Tip.none ∧
        [AObj.cells
        [AV.int IntKind.i64 (3 : Int), AV.sl 0 (Seq.raw []) Tip.nil, AV.int IntKind.i64 (0 : Int), AV.int IntKind.i64 t,
        AV.sl 1 (Seq.map encB (0 : UInt8) b) Tip.none],
        AObj.cells [AV.int IntKind.i64 t, AV.sl 1 (Seq.map encB (0 : UInt8) b) Tip.none]] =
        [AObj.cells
        [AV.int IntKind.i64 (3 : Int), AV.sl 0 (Seq.raw []) Tip.nil, AV.int IntKind.i64 (0 : Int), AV.int IntKind.i64 t,
        AV.sl 1 (Seq.map encB (0 : UInt8) b) Tip.none],
        AObj.cells [AV.int IntKind.i64 t, AV.sl 1 (Seq.map encB (0 : UInt8) b) Tip.none]]) ∧
        Post
        (AV.tup
        [AV.agg
        [AV.int IntKind.i64 (3 : Int), AV.sl 0 (Seq.raw []) Tip.nil, AV.int IntKind.i64 (0 : Int), AV.int IntKind.i64 t,
        AV.sl 1 (Seq.map encB (0 : UInt8) b) Tip.none],
        AV.bool (decide ((↑(List.length b) : Int) ≤ (9000 : Int)))])
        [AObj.cells
        [AV.int IntKind.i64 (3 : Int), AV.sl 0 (Seq.raw []) Tip.nil, AV.int IntKind.i64 (0 : Int), AV.int IntKind.i64 t,
        AV.sl 1 (Seq.map encB (0 : UInt8) b) Tip.none],
        AObj.cells [AV.int IntKind.i64 t, AV.sl 1 (Seq.map encB (0 : UInt8) b) Tip.none]])
        (AV.tup [] = AV.tup [] ∧
        AV.tup [] = AV.tup [] ∧
        Post
        (AV.tup
        [AV.agg
        [AV.int IntKind.i64 (3 : Int), AV.sl 0 (Seq.raw []) Tip.nil, AV.int IntKind.i64 (0 : Int), AV.int IntKind.i64 t,
        AV.sl 1 (Seq.map encB (0 : UInt8) b) Tip.none],
        AV.bool false])
        [AObj.cells
        [AV.int IntKind.i64 (3 : Int), AV.sl 0 (Seq.raw []) Tip.nil, AV.int IntKind.i64 (0 : Int), AV.int IntKind.i64 t,
        AV.sl 1 (Seq.map encB (0 : UInt8) b) Tip.none],
        AObj.cells [AV.int IntKind.i64 t, AV.sl 1 (Seq.map encB (0 : UInt8) b) Tip.none]])) →
    ASpec Try.prog 283 [AV.iface (339 : TypeId) (AV.agg [AV.int IntKind.i64 t, AV.sl 1 (Seq.map encB (0 : UInt8) b) Tip.none])] [] Post := fun t b Post h => Go.Ab.ASpec.of_vc g283 Go.Proofs.Try.func283 (by kernel_rfl) (by kernel_rfl) (by kernel_rfl) (Go.Ab.kc (by kernel_rfl) h)
theorem s283f : ∀ (t : Int) (Post : AV → List AObj → Prop),
  (ASpec Try.prog 330 [AV.int IntKind.i64 t]
      [AObj.cells [AV.int IntKind.i64 (0 : Int), AV.sl 0 (Seq.raw []) Tip.nil, AV.int IntKind.i64 (0 : Int), AV.int IntKind.i64 (0 : Int), AV.sl 0 (Seq.raw []) Tip.nil],
        AObj.cells [AV.int IntKind.i64 t]]
      fun (r : AV) (H' : List AObj) =>
      ∃ (x : Bool),
        r = AV.bool x ∧
        H' =
        [AObj.cells [AV.int IntKind.i64 (0 : Int), AV.sl 0 (Seq.raw []) Tip.nil, AV.int IntKind.i64 (0 : Int), AV.int IntKind.i64 (0 : Int), AV.sl 0 (Seq.raw []) Tip.nil],
        AObj.cells [AV.int IntKind.i64 t]] ∧
        (AV.int IntKind.i64 t = AV.int IntKind.i64 t ∧
        [AObj.cells [AV.int IntKind.i64 (0 : Int), AV.sl 0 (Seq.raw []) Tip.nil, AV.int IntKind.i64 (0 : Int), AV.int IntKind.i64 (0 : Int), AV.sl 0 (Seq.raw []) Tip.nil],
        AObj.cells [AV.int IntKind.i64 t]] =
        [AObj.cells [AV.int IntKind.i64 (0 : Int), AV.sl 0 (Seq.raw []) Tip.nil, AV.int IntKind.i64 (0 : Int), AV.int IntKind.i64 (0 : Int), AV.sl 0 (Seq.raw []) Tip.nil],
        AObj.cells [AV.int IntKind.i64 t]]) ∧
        Post
        (AV.tup
        [AV.agg [AV.int IntKind.i64 (4 : Int), AV.sl 0 (Seq.raw []) Tip.nil, AV.int IntKind.i64 (0 : Int), AV.int IntKind.i64 t, AV.sl 0 (Seq.raw []) Tip.nil], AV.bool x])
        [AObj.cells [AV.int IntKind.i64 (4 : Int), AV.sl 0 (Seq.raw []) Tip.nil, AV.int IntKind.i64 (0 : Int), AV.int IntKind.i64 t, AV.sl 0 (Seq.raw []) Tip.nil],
        AObj.cells [AV.int IntKind.i64 t]]) →
    ASpec Try.prog 283 [AV.iface (341 : TypeId) (AV.agg [AV.int IntKind.i64 t])] [] Post := fun t Post h => Go.Ab.ASpec.of_vc g283 Go.Proofs.Try.func283 (by kernel_rfl) (by kernel_rfl) (by kernel_rfl) (Go.Ab.kc (by kernel_rfl) h)
theorem s283n : ∀ (Post : AV → List AObj → Prop),
  Post
      (AV.tup
        [AV.agg [AV.int IntKind.i64 (0 : Int), AV.sl 0 (Seq.raw []) Tip.nil, AV.int IntKind.i64 (0 : Int), AV.int IntKind.i64 (0 : Int), AV.sl 0 (Seq.raw []) Tip.nil], AV.bool false])
      [AObj.cells [AV.int IntKind.i64 (0 : Int), AV.sl 0 (Seq.raw []) Tip.nil, AV.int IntKind.i64 (0 : Int), AV.int IntKind.i64 (0 : Int), AV.sl 0 (Seq.raw []) Tip.nil]] →
    ASpec Try.prog 283 [AV.nili] [] Post := fun Post h => Go.Ab.ASpec.of_vc g283 Go.Proofs.Try.func283 (by kernel_rfl) (by kernel_rfl) (by kernel_rfl) (Go.Ab.kc (by kernel_rfl) h)

-- 189
noncomputable def l189 : Nat → List Nat
  | _ => []
noncomputable def u189 : Nat → Bool
  | _ => false
noncomputable def m189 : Nat → Bool
  | _ => false
noncomputable def g189 : Cfg := { N := 33, live := l189, cut := u189, mu := m189, ret := rets }
noncomputable def c189 : Go.Code := Go.Ab.bodyOf Go.Proofs.Try.f189
theorem s189 : ∀ (e : T.Ev) (Post : AV → List AObj → Prop),
  (ASpec Try.prog 190
      [AV.agg
        [AV.int IntKind.i64 (Prod.fst e), AV.sl 2 (Seq.map T.encN ([], []) (Prod.fst (Prod.snd e))) Tip.none, AV.int IntKind.i64 (Prod.fst (Prod.snd (Prod.snd e))),
        AV.int IntKind.i64 (Prod.fst (Prod.snd (Prod.snd (Prod.snd e)))), AV.sl 1 (Seq.map encB (0 : UInt8) (Prod.snd (Prod.snd (Prod.snd (Prod.snd e))))) Tip.none]]
      [AObj.cells
        [AV.int IntKind.i64 (Prod.fst e), AV.sl 2 (Seq.map T.encN ([], []) (Prod.fst (Prod.snd e))) Tip.none, AV.int IntKind.i64 (Prod.fst (Prod.snd (Prod.snd e))),
        AV.int IntKind.i64 (Prod.fst (Prod.snd (Prod.snd (Prod.snd e)))), AV.sl 1 (Seq.map encB (0 : UInt8) (Prod.snd (Prod.snd (Prod.snd (Prod.snd e))))) Tip.none]]
      fun (r : AV) (H' : List AObj) =>
      (∃ (x : Int × List T.Need),
        r = AV.iface (337 : TypeId) (AV.agg [AV.int IntKind.i64 (Prod.fst x), AV.sl 2 (Seq.map T.encN ([], []) (Prod.snd x)) Tip.none]) ∧
        H' =
        [AObj.cells
        [AV.int IntKind.i64 (Prod.fst e), AV.sl 2 (Seq.map T.encN ([], []) (Prod.fst (Prod.snd e))) Tip.none, AV.int IntKind.i64 (Prod.fst (Prod.snd (Prod.snd e))),
        AV.int IntKind.i64 (Prod.fst (Prod.snd (Prod.snd (Prod.snd e)))), AV.sl 1 (Seq.map encB (0 : UInt8) (Prod.snd (Prod.snd (Prod.snd (Prod.snd e))))) Tip.none]] ∧
        ASpec Try.prog 283 [AV.iface (337 : TypeId) (AV.agg [AV.int IntKind.i64 (Prod.fst x), AV.sl 2 (Seq.map T.encN ([], []) (Prod.snd x)) Tip.none])]
        [AObj.cells
        [AV.int IntKind.i64 (Prod.fst e), AV.sl 2 (Seq.map T.encN ([], []) (Prod.fst (Prod.snd e))) Tip.none, AV.int IntKind.i64 (Prod.fst (Prod.snd (Prod.snd e))),
        AV.int IntKind.i64 (Prod.fst (Prod.snd (Prod.snd (Prod.snd e)))), AV.sl 1 (Seq.map encB (0 : UInt8) (Prod.snd (Prod.snd (Prod.snd (Prod.snd e))))) Tip.none],
        AObj.cells []]
        fun (r : AV) (H' : List AObj) =>
        ∃ (x : T.Ev × Bool),
        r =
        AV.tup
        [AV.agg
        [AV.int IntKind.i64 (Prod.fst (Prod.fst x)), AV.sl 2 (Seq.map T.encN ([], []) (Prod.fst (Prod.snd (Prod.fst x)))) Tip.none,
        AV.int IntKind.i64 (Prod.fst (Prod.snd (Prod.snd (Prod.fst x)))), AV.int IntKind.i64 (Prod.fst (Prod.snd (Prod.snd (Prod.snd (Prod.fst x))))),
        AV.sl 1 (Seq.map encB (0 : UInt8) (Prod.snd (Prod.snd (Prod.snd (Prod.snd (Prod.fst x)))))) Tip.none],
        AV.bool (Prod.snd x)] ∧
        H' =
        [AObj.cells
        [AV.int IntKind.i64 (Prod.fst e), AV.sl 2 (Seq.map T.encN ([], []) (Prod.fst (Prod.snd e))) Tip.none, AV.int IntKind.i64 (Prod.fst (Prod.snd (Prod.snd e))),
        AV.int IntKind.i64 (Prod.fst (Prod.snd (Prod.snd (Prod.snd e)))), AV.sl 1 (Seq.map encB (0 : UInt8) (Prod.snd (Prod.snd (Prod.snd (Prod.snd e))))) Tip.none],
        AObj.cells []] ∧
        condP (Prod.snd x)
        (ASpec Try.prog 282
        [AV.agg
        [AV.int IntKind.i64 (Prod.fst (Prod.fst x)), AV.sl 2 (Seq.map T.encN ([], []) (Prod.fst (Prod.snd (Prod.fst x)))) Tip.none,
        AV.int IntKind.i64 (Prod.fst (Prod.snd (Prod.snd (Prod.fst x)))), AV.int IntKind.i64 (Prod.fst (Prod.snd (Prod.snd (Prod.snd (Prod.fst x))))),
        AV.sl 1 (Seq.map encB (0 : UInt8) (Prod.snd (Prod.snd (Prod.snd (Prod.snd (Prod.fst x)))))) Tip.none],
        AV.agg
        [AV.int IntKind.i64 (Prod.fst e), AV.sl 2 (Seq.map T.encN ([], []) (Prod.fst (Prod.snd e))) Tip.none, AV.int IntKind.i64 (Prod.fst (Prod.snd (Prod.snd e))),
        AV.int IntKind.i64 (Prod.fst (Prod.snd (Prod.snd (Prod.snd e)))), AV.sl 1 (Seq.map encB (0 : UInt8) (Prod.snd (Prod.snd (Prod.snd (Prod.snd e))))) Tip.none]]
        [AObj.cells
        [AV.int IntKind.i64 (Prod.fst e), AV.sl 2 (Seq.map T.encN ([], []) (Prod.fst (Prod.snd e))) Tip.none, AV.int IntKind.i64 (Prod.fst (Prod.snd (Prod.snd e))),
        AV.int IntKind.i64 (Prod.fst (Prod.snd (Prod.snd (Prod.snd e)))), AV.sl 1 (Seq.map encB (0 : UInt8) (Prod.snd (Prod.snd (Prod.snd (Prod.snd e))))) Tip.none],
        AObj.cells [],
        AObj.cells
        [AV.int IntKind.i64 (Prod.fst (Prod.fst x)), AV.sl 2 (Seq.map T.encN ([], []) (Prod.fst (Prod.snd (Prod.fst x)))) Tip.none,
        AV.int IntKind.i64 (Prod.fst (Prod.snd (Prod.snd (Prod.fst x)))), AV.int IntKind.i64 (Prod.fst (Prod.snd (Prod.snd (Prod.snd (Prod.fst x))))),
        AV.sl 1 (Seq.map encB (0 : UInt8) (Prod.snd (Prod.snd (Prod.snd (Prod.snd (Prod.fst x)))))) Tip.none]]
        fun (r : AV) (H' : List AObj) =>
        ∃ (x_1 : Bool),
        r = AV.bool x_1 ∧
        H' =
        [AObj.cells
        [AV.int IntKind.i64 (Prod.fst e), AV.sl 2 (Seq.map T.encN ([], []) (Prod.fst (Prod.snd e))) Tip.none,
        AV.int IntKind.i64 (Prod.fst (Prod.snd (Prod.snd e))), AV.int IntKind.i64 (Prod.fst (Prod.snd (Prod.snd (Prod.snd e)))),
        AV.sl 1 (Seq.map encB (0 : UInt8) (Prod.snd (Prod.snd (Prod.snd (Prod.snd e))))) Tip.none],
        AObj.cells [],
        AObj.cells
        [AV.int IntKind.i64 (Prod.fst (Prod.fst x)), AV.sl 2 (Seq.map T.encN ([], []) (Prod.fst (Prod.snd (Prod.fst x)))) Tip.none,
        AV.int IntKind.i64 (Prod.fst (Prod.snd (Prod.snd (Prod.fst x)))), AV.int IntKind.i64 (Prod.fst (Prod.snd (Prod.snd (Prod.snd (Prod.fst x))))),
        AV.sl 1 (Seq.map encB (0 : UInt8) (Prod.snd (Prod.snd (Prod.snd (Prod.snd (Prod.fst x)))))) Tip.none]] ∧
        Post (AV.bool x_1)
        [AObj.cells
        [AV.int IntKind.i64 (Prod.fst e), AV.sl 2 (Seq.map T.encN ([], []) (Prod.fst (Prod.snd e))) Tip.none,
        AV.int IntKind.i64 (Prod.fst (Prod.snd (Prod.snd e))), AV.int IntKind.i64 (Prod.fst (Prod.snd (Prod.snd (Prod.snd e)))),
        AV.sl 1 (Seq.map encB (0 : UInt8) (Prod.snd (Prod.snd (Prod.snd (Prod.snd e))))) Tip.none],
        AObj.cells [],
        AObj.cells
        [AV.int IntKind.i64 (Prod.fst (Prod.fst x)), AV.sl 2 (Seq.map T.encN ([], []) (Prod.fst (Prod.snd (Prod.fst x)))) Tip.none,
        AV.int IntKind.i64 (Prod.fst (Prod.snd (Prod.snd (Prod.fst x)))), AV.int IntKind.i64 (Prod.fst (Prod.snd (Prod.snd (Prod.snd (Prod.fst x))))),
        AV.sl 1 (Seq.map encB (0 : UInt8) (Prod.snd (Prod.snd (Prod.snd (Prod.snd (Prod.fst x)))))) Tip.none]])
        (Post (AV.bool false)
        [AObj.cells
        [AV.int IntKind.i64 (Prod.fst e), AV.sl 2 (Seq.map T.encN ([], []) (Prod.fst (Prod.snd e))) Tip.none, AV.int IntKind.i64 (Prod.fst (Prod.snd (Prod.snd e))),
        AV.int IntKind.i64 (Prod.fst (Prod.snd (Prod.snd (Prod.snd e)))), AV.sl 1 (Seq.map encB (0 : UInt8) (Prod.snd (Prod.snd (Prod.snd (Prod.snd e))))) Tip.none],
        AObj.cells [],
        AObj.cells
        [AV.int IntKind.i64 (Prod.fst (Prod.fst x)), AV.sl 2 (Seq.map T.encN ([], []) (Prod.fst (Prod.snd (Prod.fst x)))) Tip.none,
        AV.int IntKind.i64 (Prod.fst (Prod.snd (Prod.snd (Prod.fst x)))), AV.int IntKind.i64 (Prod.fst (Prod.snd (Prod.snd (Prod.snd (Prod.fst x))))),
        AV.sl 1 (Seq.map encB (0 : UInt8) (Prod.snd (Prod.snd (Prod.snd (Prod.snd (Prod.fst x)))))) Tip.none]])) ∨
        (∃ (x : Unit),
        r = AV.iface (333 : TypeId) (AV.agg []) ∧
        H' =
        [AObj.cells
        [AV.int IntKind.i64 (Prod.fst e), AV.sl 2 (Seq.map T.encN ([], []) (Prod.fst (Prod.snd e))) Tip.none, AV.int IntKind.i64 (Prod.fst (Prod.snd (Prod.snd e))),
        AV.int IntKind.i64 (Prod.fst (Prod.snd (Prod.snd (Prod.snd e)))), AV.sl 1 (Seq.map encB (0 : UInt8) (Prod.snd (Prod.snd (Prod.snd (Prod.snd e))))) Tip.none]] ∧
        ASpec Try.prog 282
        [AV.agg
        [AV.int IntKind.i64 (Prod.fst e), AV.sl 2 (Seq.map T.encN ([], []) (Prod.fst (Prod.snd e))) Tip.none, AV.int IntKind.i64 (Prod.fst (Prod.snd (Prod.snd e))),
        AV.int IntKind.i64 (Prod.fst (Prod.snd (Prod.snd (Prod.snd e)))), AV.sl 1 (Seq.map encB (0 : UInt8) (Prod.snd (Prod.snd (Prod.snd (Prod.snd e))))) Tip.none],
        AV.agg [AV.int IntKind.i64 (2 : Int), AV.sl 0 (Seq.raw []) Tip.nil, AV.int IntKind.i64 (0 : Int), AV.int IntKind.i64 (0 : Int), AV.sl 0 (Seq.raw []) Tip.nil]]
        [AObj.cells
        [AV.int IntKind.i64 (Prod.fst e), AV.sl 2 (Seq.map T.encN ([], []) (Prod.fst (Prod.snd e))) Tip.none, AV.int IntKind.i64 (Prod.fst (Prod.snd (Prod.snd e))),
        AV.int IntKind.i64 (Prod.fst (Prod.snd (Prod.snd (Prod.snd e)))), AV.sl 1 (Seq.map encB (0 : UInt8) (Prod.snd (Prod.snd (Prod.snd (Prod.snd e))))) Tip.none],
        AObj.cells []]
        fun (r : AV) (H' : List AObj) =>
        ∃ (x : Bool),
        r = AV.bool x ∧
        H' =
        [AObj.cells
        [AV.int IntKind.i64 (Prod.fst e), AV.sl 2 (Seq.map T.encN ([], []) (Prod.fst (Prod.snd e))) Tip.none, AV.int IntKind.i64 (Prod.fst (Prod.snd (Prod.snd e))),
        AV.int IntKind.i64 (Prod.fst (Prod.snd (Prod.snd (Prod.snd e)))), AV.sl 1 (Seq.map encB (0 : UInt8) (Prod.snd (Prod.snd (Prod.snd (Prod.snd e))))) Tip.none],
        AObj.cells []] ∧
        condP (!x)
        (Post (AV.bool false)
        [AObj.cells
        [AV.int IntKind.i64 (Prod.fst e), AV.sl 2 (Seq.map T.encN ([], []) (Prod.fst (Prod.snd e))) Tip.none, AV.int IntKind.i64 (Prod.fst (Prod.snd (Prod.snd e))),
        AV.int IntKind.i64 (Prod.fst (Prod.snd (Prod.snd (Prod.snd e)))), AV.sl 1 (Seq.map encB (0 : UInt8) (Prod.snd (Prod.snd (Prod.snd (Prod.snd e))))) Tip.none],
        AObj.cells []])
        (ASpec Try.prog 283 [AV.iface (333 : TypeId) (AV.agg [])]
        [AObj.cells
        [AV.int IntKind.i64 (Prod.fst e), AV.sl 2 (Seq.map T.encN ([], []) (Prod.fst (Prod.snd e))) Tip.none, AV.int IntKind.i64 (Prod.fst (Prod.snd (Prod.snd e))),
        AV.int IntKind.i64 (Prod.fst (Prod.snd (Prod.snd (Prod.snd e)))), AV.sl 1 (Seq.map encB (0 : UInt8) (Prod.snd (Prod.snd (Prod.snd (Prod.snd e))))) Tip.none],
        AObj.cells []]
        fun (r : AV) (H' : List AObj) =>
        ∃ (x : T.Ev × Bool),
        r =
        AV.tup
        [AV.agg
        [AV.int IntKind.i64 (Prod.fst (Prod.fst x)), AV.sl 2 (Seq.map T.encN ([], []) (Prod.fst (Prod.snd (Prod.fst x)))) Tip.none,
        AV.int IntKind.i64 (Prod.fst (Prod.snd (Prod.snd (Prod.fst x)))), AV.int IntKind.i64 (Prod.fst (Prod.snd (Prod.snd (Prod.snd (Prod.fst x))))),
        AV.sl 1 (Seq.map encB (0 : UInt8) (Prod.snd (Prod.snd (Prod.snd (Prod.snd (Prod.fst x)))))) Tip.none],
        AV.bool (Prod.snd x)] ∧
        H' =
        [AObj.cells
        [AV.int IntKind.i64 (Prod.fst e), AV.sl 2 (Seq.map T.encN ([], []) (Prod.fst (Prod.snd e))) Tip.none,
        AV.int IntKind.i64 (Prod.fst (Prod.snd (Prod.snd e))), AV.int IntKind.i64 (Prod.fst (Prod.snd (Prod.snd (Prod.snd e)))),
        AV.sl 1 (Seq.map encB (0 : UInt8) (Prod.snd (Prod.snd (Prod.snd (Prod.snd e))))) Tip.none],
        AObj.cells []] ∧
        condP (Prod.snd x)
        (ASpec Try.prog 282
        [AV.agg
        [AV.int IntKind.i64 (Prod.fst (Prod.fst x)), AV.sl 2 (Seq.map T.encN ([], []) (Prod.fst (Prod.snd (Prod.fst x)))) Tip.none,
        AV.int IntKind.i64 (Prod.fst (Prod.snd (Prod.snd (Prod.fst x)))), AV.int IntKind.i64 (Prod.fst (Prod.snd (Prod.snd (Prod.snd (Prod.fst x))))),
        AV.sl 1 (Seq.map encB (0 : UInt8) (Prod.snd (Prod.snd (Prod.snd (Prod.snd (Prod.fst x)))))) Tip.none],
        AV.agg
        [AV.int IntKind.i64 (Prod.fst e), AV.sl 2 (Seq.map T.encN ([], []) (Prod.fst (Prod.snd e))) Tip.none,
        AV.int IntKind.i64 (Prod.fst (Prod.snd (Prod.snd e))), AV.int IntKind.i64 (Prod.fst (Prod.snd (Prod.snd (Prod.snd e)))),
        AV.sl 1 (Seq.map encB (0 : UInt8) (Prod.snd (Prod.snd (Prod.snd (Prod.snd e))))) Tip.none]]
        [AObj.cells
        [AV.int IntKind.i64 (Prod.fst e), AV.sl 2 (Seq.map T.encN ([], []) (Prod.fst (Prod.snd e))) Tip.none,
        AV.int IntKind.i64 (Prod.fst (Prod.snd (Prod.snd e))), AV.int IntKind.i64 (Prod.fst (Prod.snd (Prod.snd (Prod.snd e)))),
        AV.sl 1 (Seq.map encB (0 : UInt8) (Prod.snd (Prod.snd (Prod.snd (Prod.snd e))))) Tip.none],
        AObj.cells [],
        AObj.cells
        [AV.int IntKind.i64 (Prod.fst (Prod.fst x)), AV.sl 2 (Seq.map T.encN ([], []) (Prod.fst (Prod.snd (Prod.fst x)))) Tip.none,
        AV.int IntKind.i64 (Prod.fst (Prod.snd (Prod.snd (Prod.fst x)))), AV.int IntKind.i64 (Prod.fst (Prod.snd (Prod.snd (Prod.snd (Prod.fst x))))),
        AV.sl 1 (Seq.map encB (0 : UInt8) (Prod.snd (Prod.snd (Prod.snd (Prod.snd (Prod.fst x)))))) Tip.none]]
        fun (r : AV) (H' : List AObj) =>
        ∃ (x_1 : Bool),
        r = AV.bool x_1 ∧
        H' =
        [AObj.cells
        [AV.int IntKind.i64 (Prod.fst e), AV.sl 2 (Seq.map T.encN ([], []) (Prod.fst (Prod.snd e))) Tip.none,
        AV.int IntKind.i64 (Prod.fst (Prod.snd (Prod.snd e))), AV.int IntKind.i64 (Prod.fst (Prod.snd (Prod.snd (Prod.snd e)))),
        AV.sl 1 (Seq.map encB (0 : UInt8) (Prod.snd (Prod.snd (Prod.snd (Prod.snd e))))) Tip.none],
        AObj.cells [],
        AObj.cells
        [AV.int IntKind.i64 (Prod.fst (Prod.fst x)), AV.sl 2 (Seq.map T.encN ([], []) (Prod.fst (Prod.snd (Prod.fst x)))) Tip.none,
        AV.int IntKind.i64 (Prod.fst (Prod.snd (Prod.snd (Prod.fst x)))), AV.int IntKind.i64 (Prod.fst (Prod.snd (Prod.snd (Prod.snd (Prod.fst x))))),
        AV.sl 1 (Seq.map encB (0 : UInt8) (Prod.snd (Prod.snd (Prod.snd (Prod.snd (Prod.fst x)))))) Tip.none]] ∧
        Post (AV.bool x_1)
        [AObj.cells
        [AV.int IntKind.i64 (Prod.fst e), AV.sl 2 (Seq.map T.encN ([], []) (Prod.fst (Prod.snd e))) Tip.none,
        AV.int IntKind.i64 (Prod.fst (Prod.snd (Prod.snd e))), AV.int IntKind.i64 (Prod.fst (Prod.snd (Prod.snd (Prod.snd e)))),
        AV.sl 1 (Seq.map encB (0 : UInt8) (Prod.snd (Prod.snd (Prod.snd (Prod.snd e))))) Tip.none],
        AObj.cells [],
        AObj.cells
        [AV.int IntKind.i64 (Prod.fst (Prod.fst x)), AV.sl 2 (Seq.map T.encN ([], []) (Prod.fst (Prod.snd (Prod.fst x)))) Tip.none,
        AV.int IntKind.i64 (Prod.fst (Prod.snd (Prod.snd (Prod.fst x)))), AV.int IntKind.i64 (Prod.fst (Prod.snd (Prod.snd (Prod.snd (Prod.fst x))))),
        AV.sl 1 (Seq.map encB (0 : UInt8) (Prod.snd (Prod.snd (Prod.snd (Prod.snd (Prod.fst x)))))) Tip.none]])
        (Post (AV.bool false)
        [AObj.cells
        [AV.int IntKind.i64 (Prod.fst e), AV.sl 2 (Seq.map T.encN ([], []) (Prod.fst (Prod.snd e))) Tip.none,
        AV.int IntKind.i64 (Prod.fst (Prod.snd (Prod.snd e))), AV.int IntKind.i64 (Prod.fst (Prod.snd (Prod.snd (Prod.snd e)))),
        AV.sl 1 (Seq.map encB (0 : UInt8) (Prod.snd (Prod.snd (Prod.snd (Prod.snd e))))) Tip.none],
        AObj.cells [],
        AObj.cells
        [AV.int IntKind.i64 (Prod.fst (Prod.fst x)), AV.sl 2 (Seq.map T.encN ([], []) (Prod.fst (Prod.snd (Prod.fst x)))) Tip.none,
        AV.int IntKind.i64 (Prod.fst (Prod.snd (Prod.snd (Prod.fst x)))), AV.int IntKind.i64 (Prod.fst (Prod.snd (Prod.snd (Prod.snd (Prod.fst x))))),
        AV.sl 1 (Seq.map encB (0 : UInt8) (Prod.snd (Prod.snd (Prod.snd (Prod.snd (Prod.fst x)))))) Tip.none]]))) ∨
        (∃ (x : Int × List UInt8),
        r = AV.iface (339 : TypeId) (AV.agg [AV.int IntKind.i64 (Prod.fst x), AV.sl 1 (Seq.map encB (0 : UInt8) (Prod.snd x)) Tip.none]) ∧
        H' =
        [AObj.cells
        [AV.int IntKind.i64 (Prod.fst e), AV.sl 2 (Seq.map T.encN ([], []) (Prod.fst (Prod.snd e))) Tip.none, AV.int IntKind.i64 (Prod.fst (Prod.snd (Prod.snd e))),
        AV.int IntKind.i64 (Prod.fst (Prod.snd (Prod.snd (Prod.snd e)))), AV.sl 1 (Seq.map encB (0 : UInt8) (Prod.snd (Prod.snd (Prod.snd (Prod.snd e))))) Tip.none]] ∧
        ASpec Try.prog 283 [AV.iface (339 : TypeId) (AV.agg [AV.int IntKind.i64 (Prod.fst x), AV.sl 1 (Seq.map encB (0 : UInt8) (Prod.snd x)) Tip.none])]
        [AObj.cells
        [AV.int IntKind.i64 (Prod.fst e), AV.sl 2 (Seq.map T.encN ([], []) (Prod.fst (Prod.snd e))) Tip.none, AV.int IntKind.i64 (Prod.fst (Prod.snd (Prod.snd e))),
        AV.int IntKind.i64 (Prod.fst (Prod.snd (Prod.snd (Prod.snd e)))), AV.sl 1 (Seq.map encB (0 : UInt8) (Prod.snd (Prod.snd (Prod.snd (Prod.snd e))))) Tip.none],
        AObj.cells []]
        fun (r : AV) (H' : List AObj) =>
        ∃ (x : T.Ev × Bool),
        r =
        AV.tup
        [AV.agg
        [AV.int IntKind.i64 (Prod.fst (Prod.fst x)), AV.sl 2 (Seq.map T.encN ([], []) (Prod.fst (Prod.snd (Prod.fst x)))) Tip.none,
        AV.int IntKind.i64 (Prod.fst (Prod.snd (Prod.snd (Prod.fst x)))), AV.int IntKind.i64 (Prod.fst (Prod.snd (Prod.snd (Prod.snd (Prod.fst x))))),
        AV.sl 1 (Seq.map encB (0 : UInt8) (Prod.snd (Prod.snd (Prod.snd (Prod.snd (Prod.fst x)))))) Tip.none],
        AV.bool (Prod.snd x)] ∧
        H' =
        [AObj.cells
        [AV.int IntKind.i64 (Prod.fst e), AV.sl 2 (Seq.map T.encN ([], []) (Prod.fst (Prod.snd e))) Tip.none, AV.int IntKind.i64 (Prod.fst (Prod.snd (Prod.snd e))),
        AV.int IntKind.i64 (Prod.fst (Prod.snd (Prod.snd (Prod.snd e)))), AV.sl 1 (Seq.map encB (0 : UInt8) (Prod.snd (Prod.snd (Prod.snd (Prod.snd e))))) Tip.none],
        AObj.cells []] ∧
        condP (Prod.snd x)
        (ASpec Try.prog 282
        [AV.agg
        [AV.int IntKind.i64 (Prod.fst (Prod.fst x)), AV.sl 2 (Seq.map T.encN ([], []) (Prod.fst (Prod.snd (Prod.fst x)))) Tip.none,
        AV.int IntKind.i64 (Prod.fst (Prod.snd (Prod.snd (Prod.fst x)))), AV.int IntKind.i64 (Prod.fst (Prod.snd (Prod.snd (Prod.snd (Prod.fst x))))),
        AV.sl 1 (Seq.map encB (0 : UInt8) (Prod.snd (Prod.snd (Prod.snd (Prod.snd (Prod.fst x)))))) Tip.none],
        AV.agg
        [AV.int IntKind.i64 (Prod.fst e), AV.sl 2 (Seq.map T.encN ([], []) (Prod.fst (Prod.snd e))) Tip.none, AV.int IntKind.i64 (Prod.fst (Prod.snd (Prod.snd e))),
        AV.int IntKind.i64 (Prod.fst (Prod.snd (Prod.snd (Prod.snd e)))),
        AV.sl 1 (Seq.map encB (0 : UInt8) (Prod.snd (Prod.snd (Prod.snd (Prod.snd e))))) Tip.none]]
        [AObj.cells
        [AV.int IntKind.i64 (Prod.fst e), AV.sl 2 (Seq.map T.encN ([], []) (Prod.fst (Prod.snd e))) Tip.none, AV.int IntKind.i64 (Prod.fst (Prod.snd (Prod.snd e))),
        AV.int IntKind.i64 (Prod.fst (Prod.snd (Prod.snd (Prod.snd e)))),
        AV.sl 1 (Seq.map encB (0 : UInt8) (Prod.snd (Prod.snd (Prod.snd (Prod.snd e))))) Tip.none],
        AObj.cells [],
        AObj.cells
        [AV.int IntKind.i64 (Prod.fst (Prod.fst x)), AV.sl 2 (Seq.map T.encN ([], []) (Prod.fst (Prod.snd (Prod.fst x)))) Tip.none,
        AV.int IntKind.i64 (Prod.fst (Prod.snd (Prod.snd (Prod.fst x)))), AV.int IntKind.i64 (Prod.fst (Prod.snd (Prod.snd (Prod.snd (Prod.fst x))))),
        AV.sl 1 (Seq.map encB (0 : UInt8) (Prod.snd (Prod.snd (Prod.snd (Prod.snd (Prod.fst x)))))) Tip.none]]
        fun (r : AV) (H' : List AObj) =>
        ∃ (x_1 : Bool),
        r = AV.bool x_1 ∧
        H' =
        [AObj.cells
        [AV.int IntKind.i64 (Prod.fst e), AV.sl 2 (Seq.map T.encN ([], []) (Prod.fst (Prod.snd e))) Tip.none,
        AV.int IntKind.i64 (Prod.fst (Prod.snd (Prod.snd e))), AV.int IntKind.i64 (Prod.fst (Prod.snd (Prod.snd (Prod.snd e)))),
        AV.sl 1 (Seq.map encB (0 : UInt8) (Prod.snd (Prod.snd (Prod.snd (Prod.snd e))))) Tip.none],
        AObj.cells [],
        AObj.cells
        [AV.int IntKind.i64 (Prod.fst (Prod.fst x)), AV.sl 2 (Seq.map T.encN ([], []) (Prod.fst (Prod.snd (Prod.fst x)))) Tip.none,
        AV.int IntKind.i64 (Prod.fst (Prod.snd (Prod.snd (Prod.fst x)))), AV.int IntKind.i64 (Prod.fst (Prod.snd (Prod.snd (Prod.snd (Prod.fst x))))),
        AV.sl 1 (Seq.map encB (0 : UInt8) (Prod.snd (Prod.snd (Prod.snd (Prod.snd (Prod.fst x)))))) Tip.none]] ∧
        Post (AV.bool x_1)
        [AObj.cells
        [AV.int IntKind.i64 (Prod.fst e), AV.sl 2 (Seq.map T.encN ([], []) (Prod.fst (Prod.snd e))) Tip.none,
        AV.int IntKind.i64 (Prod.fst (Prod.snd (Prod.snd e))), AV.int IntKind.i64 (Prod.fst (Prod.snd (Prod.snd (Prod.snd e)))),
        AV.sl 1 (Seq.map encB (0 : UInt8) (Prod.snd (Prod.snd (Prod.snd (Prod.snd e))))) Tip.none],
        AObj.cells [],
        AObj.cells
        [AV.int IntKind.i64 (Prod.fst (Prod.fst x)), AV.sl 2 (Seq.map T.encN ([], []) (Prod.fst (Prod.snd (Prod.fst x)))) Tip.none,
        AV.int IntKind.i64 (Prod.fst (Prod.snd (Prod.snd (Prod.fst x)))), AV.int IntKind.i64 (Prod.fst (Prod.snd (Prod.snd (Prod.snd (Prod.fst x))))),
        AV.sl 1 (Seq.map encB (0 : UInt8) (Prod.snd (Prod.snd (Prod.snd (Prod.snd (Prod.fst x)))))) Tip.none]])
        (Post (AV.bool false)
        [AObj.cells
        [AV.int IntKind.i64 (Prod.fst e), AV.sl 2 (Seq.map T.encN ([], []) (Prod.fst (Prod.snd e))) Tip.none, AV.int IntKind.i64 (Prod.fst (Prod.snd (Prod.snd e))),
        AV.int IntKind.i64 (Prod.fst (Prod.snd (Prod.snd (Prod.snd e)))),
        AV.sl 1 (Seq.map encB (0 : UInt8) (Prod.snd (Prod.snd (Prod.snd (Prod.snd e))))) Tip.none],
        AObj.cells [],
        AObj.cells
        [AV.int IntKind.i64 (Prod.fst (Prod.fst x)), AV.sl 2 (Seq.map T.encN ([], []) (Prod.fst (Prod.snd (Prod.fst x)))) Tip.none,
        AV.int IntKind.i64 (Prod.fst (Prod.snd (Prod.snd (Prod.fst x)))), AV.int IntKind.i64 (Prod.fst (Prod.snd (Prod.snd (Prod.snd (Prod.fst x))))),
        AV.sl 1 (Seq.map encB (0 : UInt8) (Prod.snd (Prod.snd (Prod.snd (Prod.snd (Prod.fst x)))))) Tip.none]])) ∨
        (∃ (x : Int),
        r = AV.iface (341 : TypeId) (AV.agg [AV.int IntKind.i64 x]) ∧
        H' =
        [AObj.cells
        [AV.int IntKind.i64 (Prod.fst e), AV.sl 2 (Seq.map T.encN ([], []) (Prod.fst (Prod.snd e))) Tip.none, AV.int IntKind.i64 (Prod.fst (Prod.snd (Prod.snd e))),
        AV.int IntKind.i64 (Prod.fst (Prod.snd (Prod.snd (Prod.snd e)))), AV.sl 1 (Seq.map encB (0 : UInt8) (Prod.snd (Prod.snd (Prod.snd (Prod.snd e))))) Tip.none]] ∧
        ASpec Try.prog 283 [AV.iface (341 : TypeId) (AV.agg [AV.int IntKind.i64 x])]
        [AObj.cells
        [AV.int IntKind.i64 (Prod.fst e), AV.sl 2 (Seq.map T.encN ([], []) (Prod.fst (Prod.snd e))) Tip.none, AV.int IntKind.i64 (Prod.fst (Prod.snd (Prod.snd e))),
        AV.int IntKind.i64 (Prod.fst (Prod.snd (Prod.snd (Prod.snd e)))), AV.sl 1 (Seq.map encB (0 : UInt8) (Prod.snd (Prod.snd (Prod.snd (Prod.snd e))))) Tip.none],
        AObj.cells []]
        fun (r : AV) (H' : List AObj) =>
        ∃ (x : T.Ev × Bool),
        r =
        AV.tup
        [AV.agg
        [AV.int IntKind.i64 (Prod.fst (Prod.fst x)), AV.sl 2 (Seq.map T.encN ([], []) (Prod.fst (Prod.snd (Prod.fst x)))) Tip.none,
        AV.int IntKind.i64 (Prod.fst (Prod.snd (Prod.snd (Prod.fst x)))), AV.int IntKind.i64 (Prod.fst (Prod.snd (Prod.snd (Prod.snd (Prod.fst x))))),
        AV.sl 1 (Seq.map encB (0 : UInt8) (Prod.snd (Prod.snd (Prod.snd (Prod.snd (Prod.fst x)))))) Tip.none],
        AV.bool (Prod.snd x)] ∧
        H' =
        [AObj.cells
        [AV.int IntKind.i64 (Prod.fst e), AV.sl 2 (Seq.map T.encN ([], []) (Prod.fst (Prod.snd e))) Tip.none, AV.int IntKind.i64 (Prod.fst (Prod.snd (Prod.snd e))),
        AV.int IntKind.i64 (Prod.fst (Prod.snd (Prod.snd (Prod.snd e)))),
        AV.sl 1 (Seq.map encB (0 : UInt8) (Prod.snd (Prod.snd (Prod.snd (Prod.snd e))))) Tip.none],
        AObj.cells []] ∧
        condP (Prod.snd x)
        (ASpec Try.prog 282
        [AV.agg
        [AV.int IntKind.i64 (Prod.fst (Prod.fst x)), AV.sl 2 (Seq.map T.encN ([], []) (Prod.fst (Prod.snd (Prod.fst x)))) Tip.none,
        AV.int IntKind.i64 (Prod.fst (Prod.snd (Prod.snd (Prod.fst x)))), AV.int IntKind.i64 (Prod.fst (Prod.snd (Prod.snd (Prod.snd (Prod.fst x))))),
        AV.sl 1 (Seq.map encB (0 : UInt8) (Prod.snd (Prod.snd (Prod.snd (Prod.snd (Prod.fst x)))))) Tip.none],
        AV.agg
        [AV.int IntKind.i64 (Prod.fst e), AV.sl 2 (Seq.map T.encN ([], []) (Prod.fst (Prod.snd e))) Tip.none, AV.int IntKind.i64 (Prod.fst (Prod.snd (Prod.snd e))),
        AV.int IntKind.i64 (Prod.fst (Prod.snd (Prod.snd (Prod.snd e)))),
        AV.sl 1 (Seq.map encB (0 : UInt8) (Prod.snd (Prod.snd (Prod.snd (Prod.snd e))))) Tip.none]]
        [AObj.cells
        [AV.int IntKind.i64 (Prod.fst e), AV.sl 2 (Seq.map T.encN ([], []) (Prod.fst (Prod.snd e))) Tip.none, AV.int IntKind.i64 (Prod.fst (Prod.snd (Prod.snd e))),
        AV.int IntKind.i64 (Prod.fst (Prod.snd (Prod.snd (Prod.snd e)))),
        AV.sl 1 (Seq.map encB (0 : UInt8) (Prod.snd (Prod.snd (Prod.snd (Prod.snd e))))) Tip.none],
        AObj.cells [],
        AObj.cells
        [AV.int IntKind.i64 (Prod.fst (Prod.fst x)), AV.sl 2 (Seq.map T.encN ([], []) (Prod.fst (Prod.snd (Prod.fst x)))) Tip.none,
        AV.int IntKind.i64 (Prod.fst (Prod.snd (Prod.snd (Prod.fst x)))), AV.int IntKind.i64 (Prod.fst (Prod.snd (Prod.snd (Prod.snd (Prod.fst x))))),
        AV.sl 1 (Seq.map encB (0 : UInt8) (Prod.snd (Prod.snd (Prod.snd (Prod.snd (Prod.fst x)))))) Tip.none]]
        fun (r : AV) (H' : List AObj) =>
        ∃ (x_1 : Bool),
        r = AV.bool x_1 ∧
        H' =
        [AObj.cells
        [AV.int IntKind.i64 (Prod.fst e), AV.sl 2 (Seq.map T.encN ([], []) (Prod.fst (Prod.snd e))) Tip.none,
        AV.int IntKind.i64 (Prod.fst (Prod.snd (Prod.snd e))), AV.int IntKind.i64 (Prod.fst (Prod.snd (Prod.snd (Prod.snd e)))),
        AV.sl 1 (Seq.map encB (0 : UInt8) (Prod.snd (Prod.snd (Prod.snd (Prod.snd e))))) Tip.none],
        AObj.cells [],
        AObj.cells
        [AV.int IntKind.i64 (Prod.fst (Prod.fst x)), AV.sl 2 (Seq.map T.encN ([], []) (Prod.fst (Prod.snd (Prod.fst x)))) Tip.none,
        AV.int IntKind.i64 (Prod.fst (Prod.snd (Prod.snd (Prod.fst x)))), AV.int IntKind.i64 (Prod.fst (Prod.snd (Prod.snd (Prod.snd (Prod.fst x))))),
        AV.sl 1 (Seq.map encB (0 : UInt8) (Prod.snd (Prod.snd (Prod.snd (Prod.snd (Prod.fst x)))))) Tip.none]] ∧
        Post (AV.bool x_1)
        [AObj.cells
        [AV.int IntKind.i64 (Prod.fst e), AV.sl 2 (Seq.map T.encN ([], []) (Prod.fst (Prod.snd e))) Tip.none,
        AV.int IntKind.i64 (Prod.fst (Prod.snd (Prod.snd e))), AV.int IntKind.i64 (Prod.fst (Prod.snd (Prod.snd (Prod.snd e)))),
        AV.sl 1 (Seq.map encB (0 : UInt8) (Prod.snd (Prod.snd (Prod.snd (Prod.snd e))))) Tip.none],
        AObj.cells [],
        AObj.cells
        [AV.int IntKind.i64 (Prod.fst (Prod.fst x)), AV.sl 2 (Seq.map T.encN ([], []) (Prod.fst (Prod.snd (Prod.fst x)))) Tip.none,
        AV.int IntKind.i64 (Prod.fst (Prod.snd (Prod.snd (Prod.fst x)))), AV.int IntKind.i64 (Prod.fst (Prod.snd (Prod.snd (Prod.snd (Prod.fst x))))),
        AV.sl 1 (Seq.map encB (0 : UInt8) (Prod.snd (Prod.snd (Prod.snd (Prod.snd (Prod.fst x)))))) Tip.none]])
        (Post (AV.bool false)
        [AObj.cells
        [AV.int IntKind.i64 (Prod.fst e), AV.sl 2 (Seq.map T.encN ([], []) (Prod.fst (Prod.snd e))) Tip.none, AV.int IntKind.i64 (Prod.fst (Prod.snd (Prod.snd e))),
        AV.int IntKind.i64 (Prod.fst (Prod.snd (Prod.snd (Prod.snd e)))),
        AV.sl 1 (Seq.map encB (0 : UInt8) (Prod.snd (Prod.snd (Prod.snd (Prod.snd e))))) Tip.none],
        AObj.cells [],
        AObj.cells
        [AV.int IntKind.i64 (Prod.fst (Prod.fst x)), AV.sl 2 (Seq.map T.encN ([], []) (Prod.fst (Prod.snd (Prod.fst x)))) Tip.none,
        AV.int IntKind.i64 (Prod.fst (Prod.snd (Prod.snd (Prod.fst x)))), AV.int IntKind.i64 (Prod.fst (Prod.snd (Prod.snd (Prod.snd (Prod.fst x))))),
        AV.sl 1 (Seq.map encB (0 : UInt8) (Prod.snd (Prod.snd (Prod.snd (Prod.snd (Prod.fst x)))))) Tip.none]])) ∨
        ∃ (x : Unit),
        r = AV.nili ∧
        H' =
        [AObj.cells
        [AV.int IntKind.i64 (Prod.fst e), AV.sl 2 (Seq.map T.encN ([], []) (Prod.fst (Prod.snd e))) Tip.none, AV.int IntKind.i64 (Prod.fst (Prod.snd (Prod.snd e))),
        AV.int IntKind.i64 (Prod.fst (Prod.snd (Prod.snd (Prod.snd e)))), AV.sl 1 (Seq.map encB (0 : UInt8) (Prod.snd (Prod.snd (Prod.snd (Prod.snd e))))) Tip.none]] ∧
        ASpec Try.prog 283 [AV.nili]
        [AObj.cells
        [AV.int IntKind.i64 (Prod.fst e), AV.sl 2 (Seq.map T.encN ([], []) (Prod.fst (Prod.snd e))) Tip.none, AV.int IntKind.i64 (Prod.fst (Prod.snd (Prod.snd e))),
        AV.int IntKind.i64 (Prod.fst (Prod.snd (Prod.snd (Prod.snd e)))), AV.sl 1 (Seq.map encB (0 : UInt8) (Prod.snd (Prod.snd (Prod.snd (Prod.snd e))))) Tip.none],
        AObj.cells []]
        fun (r : AV) (H' : List AObj) =>
        ∃ (x : T.Ev × Bool),
        r =
        AV.tup
        [AV.agg
        [AV.int IntKind.i64 (Prod.fst (Prod.fst x)), AV.sl 2 (Seq.map T.encN ([], []) (Prod.fst (Prod.snd (Prod.fst x)))) Tip.none,
        AV.int IntKind.i64 (Prod.fst (Prod.snd (Prod.snd (Prod.fst x)))), AV.int IntKind.i64 (Prod.fst (Prod.snd (Prod.snd (Prod.snd (Prod.fst x))))),
        AV.sl 1 (Seq.map encB (0 : UInt8) (Prod.snd (Prod.snd (Prod.snd (Prod.snd (Prod.fst x)))))) Tip.none],
        AV.bool (Prod.snd x)] ∧
        H' =
        [AObj.cells
        [AV.int IntKind.i64 (Prod.fst e), AV.sl 2 (Seq.map T.encN ([], []) (Prod.fst (Prod.snd e))) Tip.none, AV.int IntKind.i64 (Prod.fst (Prod.snd (Prod.snd e))),
        AV.int IntKind.i64 (Prod.fst (Prod.snd (Prod.snd (Prod.snd e)))),
        AV.sl 1 (Seq.map encB (0 : UInt8) (Prod.snd (Prod.snd (Prod.snd (Prod.snd e))))) Tip.none],
        AObj.cells []] ∧
        condP (Prod.snd x)
        (ASpec Try.prog 282
        [AV.agg
        [AV.int IntKind.i64 (Prod.fst (Prod.fst x)), AV.sl 2 (Seq.map T.encN ([], []) (Prod.fst (Prod.snd (Prod.fst x)))) Tip.none,
        AV.int IntKind.i64 (Prod.fst (Prod.snd (Prod.snd (Prod.fst x)))), AV.int IntKind.i64 (Prod.fst (Prod.snd (Prod.snd (Prod.snd (Prod.fst x))))),
        AV.sl 1 (Seq.map encB (0 : UInt8) (Prod.snd (Prod.snd (Prod.snd (Prod.snd (Prod.fst x)))))) Tip.none],
        AV.agg
        [AV.int IntKind.i64 (Prod.fst e), AV.sl 2 (Seq.map T.encN ([], []) (Prod.fst (Prod.snd e))) Tip.none, AV.int IntKind.i64 (Prod.fst (Prod.snd (Prod.snd e))),
        AV.int IntKind.i64 (Prod.fst (Prod.snd (Prod.snd (Prod.snd e)))),
        AV.sl 1 (Seq.map encB (0 : UInt8) (Prod.snd (Prod.snd (Prod.snd (Prod.snd e))))) Tip.none]]
        [AObj.cells
        [AV.int IntKind.i64 (Prod.fst e), AV.sl 2 (Seq.map T.encN ([], []) (Prod.fst (Prod.snd e))) Tip.none, AV.int IntKind.i64 (Prod.fst (Prod.snd (Prod.snd e))),
        AV.int IntKind.i64 (Prod.fst (Prod.snd (Prod.snd (Prod.snd e)))),
        AV.sl 1 (Seq.map encB (0 : UInt8) (Prod.snd (Prod.snd (Prod.snd (Prod.snd e))))) Tip.none],
        AObj.cells [],
        AObj.cells
        [AV.int IntKind.i64 (Prod.fst (Prod.fst x)), AV.sl 2 (Seq.map T.encN ([], []) (Prod.fst (Prod.snd (Prod.fst x)))) Tip.none,
        AV.int IntKind.i64 (Prod.fst (Prod.snd (Prod.snd (Prod.fst x)))), AV.int IntKind.i64 (Prod.fst (Prod.snd (Prod.snd (Prod.snd (Prod.fst x))))),
        AV.sl 1 (Seq.map encB (0 : UInt8) (Prod.snd (Prod.snd (Prod.snd (Prod.snd (Prod.fst x)))))) Tip.none]]
        fun (r : AV) (H' : List AObj) =>
        ∃ (x_1 : Bool),
        r = AV.bool x_1 ∧
        H' =
        [AObj.cells
        [AV.int IntKind.i64 (Prod.fst e), AV.sl 2 (Seq.map T.encN ([], []) (Prod.fst (Prod.snd e))) Tip.none,
        AV.int IntKind.i64 (Prod.fst (Prod.snd (Prod.snd e))), AV.int IntKind.i64 (Prod.fst (Prod.snd (Prod.snd (Prod.snd e)))),
        AV.sl 1 (Seq.map encB (0 : UInt8) (Prod.snd (Prod.snd (Prod.snd (Prod.snd e))))) Tip.none],
        AObj.cells [],
        AObj.cells
        [AV.int IntKind.i64 (Prod.fst (Prod.fst x)), AV.sl 2 (Seq.map T.encN ([], []) (Prod.fst (Prod.snd (Prod.fst x)))) Tip.none,
        AV.int IntKind.i64 (Prod.fst (Prod.snd (Prod.snd (Prod.fst x)))), AV.int IntKind.i64 (Prod.fst (Prod.snd (Prod.snd (Prod.snd (Prod.fst x))))),
        AV.sl 1 (Seq.map encB (0 : UInt8) (Prod.snd (Prod.snd (Prod.snd (Prod.snd (Prod.fst x)))))) Tip.none]] ∧
        Post (AV.bool x_1)
        [AObj.cells
        [AV.int IntKind.i64 (Prod.fst e), AV.sl 2 (Seq.map T.encN ([], []) (Prod.fst (Prod.snd e))) Tip.none,
        AV.int IntKind.i64 (Prod.fst (Prod.snd (Prod.snd e))), AV.int IntKind.i64 (Prod.fst (Prod.snd (Prod.snd (Prod.snd e)))),
        AV.sl 1 (Seq.map encB (0 : UInt8) (Prod.snd (Prod.snd (Prod.snd (Prod.snd e))))) Tip.none],
        AObj.cells [],
        AObj.cells
        [AV.int IntKind.i64 (Prod.fst (Prod.fst x)), AV.sl 2 (Seq.map T.encN ([], []) (Prod.fst (Prod.snd (Prod.fst x)))) Tip.none,
        AV.int IntKind.i64 (Prod.fst (Prod.snd (Prod.snd (Prod.fst x)))), AV.int IntKind.i64 (Prod.fst (Prod.snd (Prod.snd (Prod.snd (Prod.fst x))))),
        AV.sl 1 (Seq.map encB (0 : UInt8) (Prod.snd (Prod.snd (Prod.snd (Prod.snd (Prod.fst x)))))) Tip.none]])
        (Post (AV.bool false)
        [AObj.cells
        [AV.int IntKind.i64 (Prod.fst e), AV.sl 2 (Seq.map T.encN ([], []) (Prod.fst (Prod.snd e))) Tip.none, AV.int IntKind.i64 (Prod.fst (Prod.snd (Prod.snd e))),
        AV.int IntKind.i64 (Prod.fst (Prod.snd (Prod.snd (Prod.snd e)))),
        AV.sl 1 (Seq.map encB (0 : UInt8) (Prod.snd (Prod.snd (Prod.snd (Prod.snd e))))) Tip.none],
        AObj.cells [],
        AObj.cells
        [AV.int IntKind.i64 (Prod.fst (Prod.fst x)), AV.sl 2 (Seq.map T.encN ([], []) (Prod.fst (Prod.snd (Prod.fst x)))) Tip.none,
        AV.int IntKind.i64 (Prod.fst (Prod.snd (Prod.snd (Prod.fst x)))), AV.int IntKind.i64 (Prod.fst (Prod.snd (Prod.snd (Prod.snd (Prod.fst x))))),
        AV.sl 1 (Seq.map encB (0 : UInt8) (Prod.snd (Prod.snd (Prod.snd (Prod.snd (Prod.fst x)))))) Tip.none]])) →
    ASpec Try.prog 189 [AV.agg (T.encE e)] [] Post := fun e Post h => Go.Ab.ASpec.of_vc g189 Go.Proofs.Try.func189 (by kernel_rfl) (by kernel_rfl) (by kernel_rfl) (Go.Ab.kc (by kernel_rfl) h)

-- 194
noncomputable def l194 : Nat → List Nat
  | _ => []
noncomputable def u194 : Nat → Bool
  | _ => false
noncomputable def m194 : Nat → Bool
  | _ => false
noncomputable def g194 : Cfg := { N := 86, live := l194, cut := u194, mu := m194, ret := rets }
noncomputable def c194 : Go.Code := Go.Ab.bodyOf Go.Proofs.Try.f194
theorem s194 : ∀ (e : T.Ev) (Post : AV → List AObj → Prop),
  (ASpec Try.prog 239 [AV.sl 2 (Seq.map T.encN ([], []) (Prod.fst (Prod.snd e))) Tip.none]
      [AObj.cells
        [AV.int IntKind.i64 (Prod.fst e), AV.sl 2 (Seq.map T.encN ([], []) (Prod.fst (Prod.snd e))) Tip.none, AV.int IntKind.i64 (Prod.fst (Prod.snd (Prod.snd e))),
        AV.int IntKind.i64 (Prod.fst (Prod.snd (Prod.snd (Prod.snd e)))), AV.sl 1 (Seq.map encB (0 : UInt8) (Prod.snd (Prod.snd (Prod.snd (Prod.snd e))))) Tip.none]]
      fun (r : AV) (H' : List AObj) =>
      ∃ (x : Bool),
        r = AV.bool x ∧
        H' =
        [AObj.cells
        [AV.int IntKind.i64 (Prod.fst e), AV.sl 2 (Seq.map T.encN ([], []) (Prod.fst (Prod.snd e))) Tip.none, AV.int IntKind.i64 (Prod.fst (Prod.snd (Prod.snd e))),
        AV.int IntKind.i64 (Prod.fst (Prod.snd (Prod.snd (Prod.snd e)))), AV.sl 1 (Seq.map encB (0 : UInt8) (Prod.snd (Prod.snd (Prod.snd (Prod.snd e))))) Tip.none]] ∧
        condP (!x)
        (Post (AV.bool false)
        [AObj.cells
        [AV.int IntKind.i64 (Prod.fst e), AV.sl 2 (Seq.map T.encN ([], []) (Prod.fst (Prod.snd e))) Tip.none, AV.int IntKind.i64 (Prod.fst (Prod.snd (Prod.snd e))),
        AV.int IntKind.i64 (Prod.fst (Prod.snd (Prod.snd (Prod.snd e)))), AV.sl 1 (Seq.map encB (0 : UInt8) (Prod.snd (Prod.snd (Prod.snd (Prod.snd e))))) Tip.none]])
        (condP (decide (Prod.fst (Prod.snd (Prod.snd e)) < (0 : Int)))
        (Post (AV.bool false)
        [AObj.cells
        [AV.int IntKind.i64 (Prod.fst e), AV.sl 2 (Seq.map T.encN ([], []) (Prod.fst (Prod.snd e))) Tip.none, AV.int IntKind.i64 (Prod.fst (Prod.snd (Prod.snd e))),
        AV.int IntKind.i64 (Prod.fst (Prod.snd (Prod.snd (Prod.snd e)))), AV.sl 1 (Seq.map encB (0 : UInt8) (Prod.snd (Prod.snd (Prod.snd (Prod.snd e))))) Tip.none]])
        (condP (decide (Prod.fst (Prod.snd (Prod.snd e)) > (1099511627776 : Int)))
        (Post (AV.bool false)
        [AObj.cells
        [AV.int IntKind.i64 (Prod.fst e), AV.sl 2 (Seq.map T.encN ([], []) (Prod.fst (Prod.snd e))) Tip.none, AV.int IntKind.i64 (Prod.fst (Prod.snd (Prod.snd e))),
        AV.int IntKind.i64 (Prod.fst (Prod.snd (Prod.snd (Prod.snd e)))), AV.sl 1 (Seq.map encB (0 : UInt8) (Prod.snd (Prod.snd (Prod.snd (Prod.snd e))))) Tip.none]])
        (condP (!Prod.fst e == (1 : Int))
        (condP (decide ((↑(List.length (Prod.fst (Prod.snd e))) : Int) > (0 : Int)))
        (Post (AV.bool false)
        [AObj.cells
        [AV.int IntKind.i64 (Prod.fst e), AV.sl 2 (Seq.map T.encN ([], []) (Prod.fst (Prod.snd e))) Tip.none, AV.int IntKind.i64 (Prod.fst (Prod.snd (Prod.snd e))),
        AV.int IntKind.i64 (Prod.fst (Prod.snd (Prod.snd (Prod.snd e)))), AV.sl 1 (Seq.map encB (0 : UInt8) (Prod.snd (Prod.snd (Prod.snd (Prod.snd e))))) Tip.none]])
        (condP (Prod.fst (Prod.snd (Prod.snd e)) != (0 : Int))
        (Post (AV.bool false)
        [AObj.cells
        [AV.int IntKind.i64 (Prod.fst e), AV.sl 2 (Seq.map T.encN ([], []) (Prod.fst (Prod.snd e))) Tip.none, AV.int IntKind.i64 (Prod.fst (Prod.snd (Prod.snd e))),
        AV.int IntKind.i64 (Prod.fst (Prod.snd (Prod.snd (Prod.snd e)))), AV.sl 1 (Seq.map encB (0 : UInt8) (Prod.snd (Prod.snd (Prod.snd (Prod.snd e))))) Tip.none]])
        (condP (Prod.fst e == (3 : Int))
        (condP (decide (Prod.fst (Prod.snd (Prod.snd (Prod.snd e))) ≥ (1 : Int)))
        (condP (decide (Prod.fst (Prod.snd (Prod.snd (Prod.snd e))) ≤ (1099511627776 : Int)))
        (condP (decide ((↑(List.length (Prod.snd (Prod.snd (Prod.snd (Prod.snd e))))) : Int) ≤ (9000 : Int)))
        (condP (Prod.fst e == (3 : Int))
        (Post (AV.bool true)
        [AObj.cells
        [AV.int IntKind.i64 (Prod.fst e), AV.sl 2 (Seq.map T.encN ([], []) (Prod.fst (Prod.snd e))) Tip.none,
        AV.int IntKind.i64 (Prod.fst (Prod.snd (Prod.snd e))), AV.int IntKind.i64 (Prod.fst (Prod.snd (Prod.snd (Prod.snd e)))),
        AV.sl 1 (Seq.map encB (0 : UInt8) (Prod.snd (Prod.snd (Prod.snd (Prod.snd e))))) Tip.none]])
        (Post (AV.bool ((↑(List.length (Prod.snd (Prod.snd (Prod.snd (Prod.snd e))))) : Int) == (0 : Int)))
        [AObj.cells
        [AV.int IntKind.i64 (Prod.fst e), AV.sl 2 (Seq.map T.encN ([], []) (Prod.fst (Prod.snd e))) Tip.none,
        AV.int IntKind.i64 (Prod.fst (Prod.snd (Prod.snd e))), AV.int IntKind.i64 (Prod.fst (Prod.snd (Prod.snd (Prod.snd e)))),
        AV.sl 1 (Seq.map encB (0 : UInt8) (Prod.snd (Prod.snd (Prod.snd (Prod.snd e))))) Tip.none]]))
        (Post (AV.bool false)
        [AObj.cells
        [AV.int IntKind.i64 (Prod.fst e), AV.sl 2 (Seq.map T.encN ([], []) (Prod.fst (Prod.snd e))) Tip.none,
        AV.int IntKind.i64 (Prod.fst (Prod.snd (Prod.snd e))), AV.int IntKind.i64 (Prod.fst (Prod.snd (Prod.snd (Prod.snd e)))),
        AV.sl 1 (Seq.map encB (0 : UInt8) (Prod.snd (Prod.snd (Prod.snd (Prod.snd e))))) Tip.none]]))
        (Post (AV.bool false)
        [AObj.cells
        [AV.int IntKind.i64 (Prod.fst e), AV.sl 2 (Seq.map T.encN ([], []) (Prod.fst (Prod.snd e))) Tip.none, AV.int IntKind.i64 (Prod.fst (Prod.snd (Prod.snd e))),
        AV.int IntKind.i64 (Prod.fst (Prod.snd (Prod.snd (Prod.snd e)))),
        AV.sl 1 (Seq.map encB (0 : UInt8) (Prod.snd (Prod.snd (Prod.snd (Prod.snd e))))) Tip.none]]))
        (Post (AV.bool false)
        [AObj.cells
        [AV.int IntKind.i64 (Prod.fst e), AV.sl 2 (Seq.map T.encN ([], []) (Prod.fst (Prod.snd e))) Tip.none, AV.int IntKind.i64 (Prod.fst (Prod.snd (Prod.snd e))),
        AV.int IntKind.i64 (Prod.fst (Prod.snd (Prod.snd (Prod.snd e)))),
        AV.sl 1 (Seq.map encB (0 : UInt8) (Prod.snd (Prod.snd (Prod.snd (Prod.snd e))))) Tip.none]]))
        (condP (Prod.fst e == (4 : Int))
        (condP (decide (Prod.fst (Prod.snd (Prod.snd (Prod.snd e))) ≥ (1 : Int)))
        (condP (decide (Prod.fst (Prod.snd (Prod.snd (Prod.snd e))) ≤ (1099511627776 : Int)))
        (condP (decide ((↑(List.length (Prod.snd (Prod.snd (Prod.snd (Prod.snd e))))) : Int) ≤ (9000 : Int)))
        (condP (Prod.fst e == (3 : Int))
        (Post (AV.bool true)
        [AObj.cells
        [AV.int IntKind.i64 (Prod.fst e), AV.sl 2 (Seq.map T.encN ([], []) (Prod.fst (Prod.snd e))) Tip.none,
        AV.int IntKind.i64 (Prod.fst (Prod.snd (Prod.snd e))), AV.int IntKind.i64 (Prod.fst (Prod.snd (Prod.snd (Prod.snd e)))),
        AV.sl 1 (Seq.map encB (0 : UInt8) (Prod.snd (Prod.snd (Prod.snd (Prod.snd e))))) Tip.none]])
        (Post (AV.bool ((↑(List.length (Prod.snd (Prod.snd (Prod.snd (Prod.snd e))))) : Int) == (0 : Int)))
        [AObj.cells
        [AV.int IntKind.i64 (Prod.fst e), AV.sl 2 (Seq.map T.encN ([], []) (Prod.fst (Prod.snd e))) Tip.none,
        AV.int IntKind.i64 (Prod.fst (Prod.snd (Prod.snd e))), AV.int IntKind.i64 (Prod.fst (Prod.snd (Prod.snd (Prod.snd e)))),
        AV.sl 1 (Seq.map encB (0 : UInt8) (Prod.snd (Prod.snd (Prod.snd (Prod.snd e))))) Tip.none]]))
        (Post (AV.bool false)
        [AObj.cells
        [AV.int IntKind.i64 (Prod.fst e), AV.sl 2 (Seq.map T.encN ([], []) (Prod.fst (Prod.snd e))) Tip.none,
        AV.int IntKind.i64 (Prod.fst (Prod.snd (Prod.snd e))), AV.int IntKind.i64 (Prod.fst (Prod.snd (Prod.snd (Prod.snd e)))),
        AV.sl 1 (Seq.map encB (0 : UInt8) (Prod.snd (Prod.snd (Prod.snd (Prod.snd e))))) Tip.none]]))
        (Post (AV.bool false)
        [AObj.cells
        [AV.int IntKind.i64 (Prod.fst e), AV.sl 2 (Seq.map T.encN ([], []) (Prod.fst (Prod.snd e))) Tip.none,
        AV.int IntKind.i64 (Prod.fst (Prod.snd (Prod.snd e))), AV.int IntKind.i64 (Prod.fst (Prod.snd (Prod.snd (Prod.snd e)))),
        AV.sl 1 (Seq.map encB (0 : UInt8) (Prod.snd (Prod.snd (Prod.snd (Prod.snd e))))) Tip.none]]))
        (Post (AV.bool false)
        [AObj.cells
        [AV.int IntKind.i64 (Prod.fst e), AV.sl 2 (Seq.map T.encN ([], []) (Prod.fst (Prod.snd e))) Tip.none, AV.int IntKind.i64 (Prod.fst (Prod.snd (Prod.snd e))),
        AV.int IntKind.i64 (Prod.fst (Prod.snd (Prod.snd (Prod.snd e)))),
        AV.sl 1 (Seq.map encB (0 : UInt8) (Prod.snd (Prod.snd (Prod.snd (Prod.snd e))))) Tip.none]]))
        (condP (Prod.fst (Prod.snd (Prod.snd (Prod.snd e))) == (0 : Int))
        (condP ((↑(List.length (Prod.snd (Prod.snd (Prod.snd (Prod.snd e))))) : Int) == (0 : Int))
        (condP (Prod.fst e == (1 : Int))
        (Post (AV.bool true)
        [AObj.cells
        [AV.int IntKind.i64 (Prod.fst e), AV.sl 2 (Seq.map T.encN ([], []) (Prod.fst (Prod.snd e))) Tip.none,
        AV.int IntKind.i64 (Prod.fst (Prod.snd (Prod.snd e))), AV.int IntKind.i64 (Prod.fst (Prod.snd (Prod.snd (Prod.snd e)))),
        AV.sl 1 (Seq.map encB (0 : UInt8) (Prod.snd (Prod.snd (Prod.snd (Prod.snd e))))) Tip.none]])
        (Post (AV.bool (Prod.fst e == (2 : Int)))
        [AObj.cells
        [AV.int IntKind.i64 (Prod.fst e), AV.sl 2 (Seq.map T.encN ([], []) (Prod.fst (Prod.snd e))) Tip.none,
        AV.int IntKind.i64 (Prod.fst (Prod.snd (Prod.snd e))), AV.int IntKind.i64 (Prod.fst (Prod.snd (Prod.snd (Prod.snd e)))),
        AV.sl 1 (Seq.map encB (0 : UInt8) (Prod.snd (Prod.snd (Prod.snd (Prod.snd e))))) Tip.none]]))
        (Post (AV.bool false)
        [AObj.cells
        [AV.int IntKind.i64 (Prod.fst e), AV.sl 2 (Seq.map T.encN ([], []) (Prod.fst (Prod.snd e))) Tip.none,
        AV.int IntKind.i64 (Prod.fst (Prod.snd (Prod.snd e))), AV.int IntKind.i64 (Prod.fst (Prod.snd (Prod.snd (Prod.snd e)))),
        AV.sl 1 (Seq.map encB (0 : UInt8) (Prod.snd (Prod.snd (Prod.snd (Prod.snd e))))) Tip.none]]))
        (Post (AV.bool false)
        [AObj.cells
        [AV.int IntKind.i64 (Prod.fst e), AV.sl 2 (Seq.map T.encN ([], []) (Prod.fst (Prod.snd e))) Tip.none, AV.int IntKind.i64 (Prod.fst (Prod.snd (Prod.snd e))),
        AV.int IntKind.i64 (Prod.fst (Prod.snd (Prod.snd (Prod.snd e)))),
        AV.sl 1 (Seq.map encB (0 : UInt8) (Prod.snd (Prod.snd (Prod.snd (Prod.snd e))))) Tip.none]]))))))
        (condP (Prod.fst e == (3 : Int))
        (condP (decide (Prod.fst (Prod.snd (Prod.snd (Prod.snd e))) ≥ (1 : Int)))
        (condP (decide (Prod.fst (Prod.snd (Prod.snd (Prod.snd e))) ≤ (1099511627776 : Int)))
        (condP (decide ((↑(List.length (Prod.snd (Prod.snd (Prod.snd (Prod.snd e))))) : Int) ≤ (9000 : Int)))
        (condP (Prod.fst e == (3 : Int))
        (Post (AV.bool true)
        [AObj.cells
        [AV.int IntKind.i64 (Prod.fst e), AV.sl 2 (Seq.map T.encN ([], []) (Prod.fst (Prod.snd e))) Tip.none, AV.int IntKind.i64 (Prod.fst (Prod.snd (Prod.snd e))),
        AV.int IntKind.i64 (Prod.fst (Prod.snd (Prod.snd (Prod.snd e)))),
        AV.sl 1 (Seq.map encB (0 : UInt8) (Prod.snd (Prod.snd (Prod.snd (Prod.snd e))))) Tip.none]])
        (Post (AV.bool ((↑(List.length (Prod.snd (Prod.snd (Prod.snd (Prod.snd e))))) : Int) == (0 : Int)))
        [AObj.cells
        [AV.int IntKind.i64 (Prod.fst e), AV.sl 2 (Seq.map T.encN ([], []) (Prod.fst (Prod.snd e))) Tip.none, AV.int IntKind.i64 (Prod.fst (Prod.snd (Prod.snd e))),
        AV.int IntKind.i64 (Prod.fst (Prod.snd (Prod.snd (Prod.snd e)))),
        AV.sl 1 (Seq.map encB (0 : UInt8) (Prod.snd (Prod.snd (Prod.snd (Prod.snd e))))) Tip.none]]))
        (Post (AV.bool false)
        [AObj.cells
        [AV.int IntKind.i64 (Prod.fst e), AV.sl 2 (Seq.map T.encN ([], []) (Prod.fst (Prod.snd e))) Tip.none, AV.int IntKind.i64 (Prod.fst (Prod.snd (Prod.snd e))),
        AV.int IntKind.i64 (Prod.fst (Prod.snd (Prod.snd (Prod.snd e)))),
        AV.sl 1 (Seq.map encB (0 : UInt8) (Prod.snd (Prod.snd (Prod.snd (Prod.snd e))))) Tip.none]]))
        (Post (AV.bool false)
        [AObj.cells
        [AV.int IntKind.i64 (Prod.fst e), AV.sl 2 (Seq.map T.encN ([], []) (Prod.fst (Prod.snd e))) Tip.none, AV.int IntKind.i64 (Prod.fst (Prod.snd (Prod.snd e))),
        AV.int IntKind.i64 (Prod.fst (Prod.snd (Prod.snd (Prod.snd e)))),
        AV.sl 1 (Seq.map encB (0 : UInt8) (Prod.snd (Prod.snd (Prod.snd (Prod.snd e))))) Tip.none]]))
        (Post (AV.bool false)
        [AObj.cells
        [AV.int IntKind.i64 (Prod.fst e), AV.sl 2 (Seq.map T.encN ([], []) (Prod.fst (Prod.snd e))) Tip.none, AV.int IntKind.i64 (Prod.fst (Prod.snd (Prod.snd e))),
        AV.int IntKind.i64 (Prod.fst (Prod.snd (Prod.snd (Prod.snd e)))), AV.sl 1 (Seq.map encB (0 : UInt8) (Prod.snd (Prod.snd (Prod.snd (Prod.snd e))))) Tip.none]]))
        (condP (Prod.fst e == (4 : Int))
        (condP (decide (Prod.fst (Prod.snd (Prod.snd (Prod.snd e))) ≥ (1 : Int)))
        (condP (decide (Prod.fst (Prod.snd (Prod.snd (Prod.snd e))) ≤ (1099511627776 : Int)))
        (condP (decide ((↑(List.length (Prod.snd (Prod.snd (Prod.snd (Prod.snd e))))) : Int) ≤ (9000 : Int)))
        (condP (Prod.fst e == (3 : Int))
        (Post (AV.bool true)
        [AObj.cells
        [AV.int IntKind.i64 (Prod.fst e), AV.sl 2 (Seq.map T.encN ([], []) (Prod.fst (Prod.snd e))) Tip.none,
        AV.int IntKind.i64 (Prod.fst (Prod.snd (Prod.snd e))), AV.int IntKind.i64 (Prod.fst (Prod.snd (Prod.snd (Prod.snd e)))),
        AV.sl 1 (Seq.map encB (0 : UInt8) (Prod.snd (Prod.snd (Prod.snd (Prod.snd e))))) Tip.none]])
        (Post (AV.bool ((↑(List.length (Prod.snd (Prod.snd (Prod.snd (Prod.snd e))))) : Int) == (0 : Int)))
        [AObj.cells
        [AV.int IntKind.i64 (Prod.fst e), AV.sl 2 (Seq.map T.encN ([], []) (Prod.fst (Prod.snd e))) Tip.none,
        AV.int IntKind.i64 (Prod.fst (Prod.snd (Prod.snd e))), AV.int IntKind.i64 (Prod.fst (Prod.snd (Prod.snd (Prod.snd e)))),
        AV.sl 1 (Seq.map encB (0 : UInt8) (Prod.snd (Prod.snd (Prod.snd (Prod.snd e))))) Tip.none]]))
        (Post (AV.bool false)
        [AObj.cells
        [AV.int IntKind.i64 (Prod.fst e), AV.sl 2 (Seq.map T.encN ([], []) (Prod.fst (Prod.snd e))) Tip.none, AV.int IntKind.i64 (Prod.fst (Prod.snd (Prod.snd e))),
        AV.int IntKind.i64 (Prod.fst (Prod.snd (Prod.snd (Prod.snd e)))),
        AV.sl 1 (Seq.map encB (0 : UInt8) (Prod.snd (Prod.snd (Prod.snd (Prod.snd e))))) Tip.none]]))
        (Post (AV.bool false)
        [AObj.cells
        [AV.int IntKind.i64 (Prod.fst e), AV.sl 2 (Seq.map T.encN ([], []) (Prod.fst (Prod.snd e))) Tip.none, AV.int IntKind.i64 (Prod.fst (Prod.snd (Prod.snd e))),
        AV.int IntKind.i64 (Prod.fst (Prod.snd (Prod.snd (Prod.snd e)))),
        AV.sl 1 (Seq.map encB (0 : UInt8) (Prod.snd (Prod.snd (Prod.snd (Prod.snd e))))) Tip.none]]))
        (Post (AV.bool false)
        [AObj.cells
        [AV.int IntKind.i64 (Prod.fst e), AV.sl 2 (Seq.map T.encN ([], []) (Prod.fst (Prod.snd e))) Tip.none, AV.int IntKind.i64 (Prod.fst (Prod.snd (Prod.snd e))),
        AV.int IntKind.i64 (Prod.fst (Prod.snd (Prod.snd (Prod.snd e)))),
        AV.sl 1 (Seq.map encB (0 : UInt8) (Prod.snd (Prod.snd (Prod.snd (Prod.snd e))))) Tip.none]]))
        (condP (Prod.fst (Prod.snd (Prod.snd (Prod.snd e))) == (0 : Int))
        (condP ((↑(List.length (Prod.snd (Prod.snd (Prod.snd (Prod.snd e))))) : Int) == (0 : Int))
        (condP (Prod.fst e == (1 : Int))
        (Post (AV.bool true)
        [AObj.cells
        [AV.int IntKind.i64 (Prod.fst e), AV.sl 2 (Seq.map T.encN ([], []) (Prod.fst (Prod.snd e))) Tip.none, AV.int IntKind.i64 (Prod.fst (Prod.snd (Prod.snd e))),
        AV.int IntKind.i64 (Prod.fst (Prod.snd (Prod.snd (Prod.snd e)))),
        AV.sl 1 (Seq.map encB (0 : UInt8) (Prod.snd (Prod.snd (Prod.snd (Prod.snd e))))) Tip.none]])
        (Post (AV.bool (Prod.fst e == (2 : Int)))
        [AObj.cells
        [AV.int IntKind.i64 (Prod.fst e), AV.sl 2 (Seq.map T.encN ([], []) (Prod.fst (Prod.snd e))) Tip.none, AV.int IntKind.i64 (Prod.fst (Prod.snd (Prod.snd e))),
        AV.int IntKind.i64 (Prod.fst (Prod.snd (Prod.snd (Prod.snd e)))),
        AV.sl 1 (Seq.map encB (0 : UInt8) (Prod.snd (Prod.snd (Prod.snd (Prod.snd e))))) Tip.none]]))
        (Post (AV.bool false)
        [AObj.cells
        [AV.int IntKind.i64 (Prod.fst e), AV.sl 2 (Seq.map T.encN ([], []) (Prod.fst (Prod.snd e))) Tip.none, AV.int IntKind.i64 (Prod.fst (Prod.snd (Prod.snd e))),
        AV.int IntKind.i64 (Prod.fst (Prod.snd (Prod.snd (Prod.snd e)))),
        AV.sl 1 (Seq.map encB (0 : UInt8) (Prod.snd (Prod.snd (Prod.snd (Prod.snd e))))) Tip.none]]))
        (Post (AV.bool false)
        [AObj.cells
        [AV.int IntKind.i64 (Prod.fst e), AV.sl 2 (Seq.map T.encN ([], []) (Prod.fst (Prod.snd e))) Tip.none, AV.int IntKind.i64 (Prod.fst (Prod.snd (Prod.snd e))),
        AV.int IntKind.i64 (Prod.fst (Prod.snd (Prod.snd (Prod.snd e)))),
        AV.sl 1 (Seq.map encB (0 : UInt8) (Prod.snd (Prod.snd (Prod.snd (Prod.snd e))))) Tip.none]])))))))) →
    ASpec Try.prog 194 [AV.agg (T.encE e)] [] Post := fun e Post h => Go.Ab.ASpec.of_vc g194 Go.Proofs.Try.func194 (by kernel_rfl) (by kernel_rfl) (by kernel_rfl) (Go.Ab.kc (by kernel_rfl) h)

-- 70
noncomputable def l70 : Nat → List Nat
  | 5 => [0, 3, 4]
  | _ => []
noncomputable def u70 : Nat → Bool
  | _ => false
noncomputable def m70 : Nat → Bool
  | _ => false
noncomputable def g70 : Cfg := { N := 36, live := l70, cut := u70, mu := m70, ret := rets }
noncomputable def c70 : Go.Code := Go.Ab.bodyOf Go.Proofs.Try.f70
noncomputable def q70_0 : Nat → (AV → List AObj → Prop) → AQ := fun (n : Nat) (Post : AV → List AObj → Prop) => endQ Try.prog (resultsOf Try.f70) Post
noncomputable def q70_1 : Nat → (AV → List AObj → Prop) → AQ := fun (n : Nat) (Post : AV → List AObj → Prop) => seqQ (fun (s' : Slots) (H' : List AObj) => awp Try.prog g70 n (codeSnd (codeSnd (codeSnd (codeSnd c70)))) s' H' (q70_0 n Post)) (q70_0 n Post)
noncomputable def q70_2 : Nat → (AV → List AObj → Prop) → AQ := fun (n : Nat) (Post : AV → List AObj → Prop) => blockQ 0 (q70_1 n Post)
noncomputable def c70_5 : Go.Code := codeFst (codeSnd (codeFst (codeSnd (codeSnd (codeSnd c70)))))
theorem s70 : ∀ (l : List T.Ev) (Post : AV → List AObj → Prop),
  condP (decide ((↑(List.length l) : Int) > (403 : Int))) (Post (AV.bool true) [])
      (AWP Try.prog 36 0 c70_5 [(0, AV.sl 5 (Seq.map T.encE T.noEv l) Tip.none), (3, AV.int IntKind.i64 (0 : Int)), (4, AV.int IntKind.i64 (0 : Int))]
        [] (q70_2 0 Post)) →
    ASpec Try.prog 70 [AV.sl 5 (Seq.map T.encE T.noEv l) Tip.none] [] Post := fun l Post h => Go.Ab.ASpec.of_vc g70 Go.Proofs.Try.func70 (by kernel_rfl) (by kernel_rfl) (by kernel_rfl) (Go.Ab.kc (by kernel_rfl) h)
theorem v70_5 : ∀ (l : List T.Ev) (n i : Int) (n_1 : Nat) (Post : AV → List AObj → Prop),
  condP (decide (i < (↑(List.length l) : Int)))
      (needP ((0 : Int) ≤ i ∧ i < (↑(List.length l) : Int))
        (needP ((0 : Int) ≤ i ∧ i < (↑(List.length l) : Int))
        (ASpec Try.prog 130 [AV.sl 2 (Seq.map T.encN ([], []) (Prod.fst (Prod.snd (List.getD l (Int.toNat i) T.noEv)))) Tip.none] [] fun (r : AV) (H' : List AObj) =>
        ∃ (x : Bool),
        r = AV.bool x ∧
        H' = [] ∧
        condP x (Post (AV.bool true) [])
        (condP (decide (IntKind.wrap IntKind.i64 (n + (↑(List.length (Prod.snd (Prod.snd (Prod.snd (Prod.snd (List.getD l (Int.toNat i) T.noEv)))))) : Int)) > (12000 : Int)))
        (Post (AV.bool true) [])
        (condP (decide (IntKind.wrap IntKind.i64 (n + (↑(List.length (Prod.snd (Prod.snd (Prod.snd (Prod.snd (List.getD l (Int.toNat i) T.noEv)))))) : Int)) < (0 : Int)))
        (Post (AV.bool true) [])
        (AWP Try.prog 36 n_1 c70_5
        [(0, AV.sl 5 (Seq.map T.encE T.noEv l) Tip.none),
        (3, AV.int IntKind.i64 (IntKind.wrap IntKind.i64 (n + (↑(List.length (Prod.snd (Prod.snd (Prod.snd (Prod.snd (List.getD l (Int.toNat i) T.noEv)))))) : Int)))),
        (4, AV.int IntKind.i64 (IntKind.wrap IntKind.i64 (i + (1 : Int))))]
        [] (q70_2 n_1 Post)))))))
      (Post (AV.bool false) []) →
    AWP Try.prog 36 n_1 c70_5 [(0, AV.sl 5 (Seq.map T.encE T.noEv l) Tip.none), (3, AV.int IntKind.i64 n), (4, AV.int IntKind.i64 i)] [] (q70_2 n_1 Post) := fun l n i n Post h => Go.Ab.AWP.loop' g70 (Cfg.live g70) c70_5 (by kernel_rfl) (by kernel_rfl) (Go.Ab.kc (by kernel_rfl) h)

-- 188
noncomputable def l188 : Nat → List Nat
  | _ => []
noncomputable def u188 : Nat → Bool
  | _ => false
noncomputable def m188 : Nat → Bool
  | _ => false
noncomputable def g188 : Cfg := { N := 6, live := l188, cut := u188, mu := m188, ret := rets }
noncomputable def c188 : Go.Code := Go.Ab.bodyOf Go.Proofs.Try.f188
theorem s188 : ∀ (e : T.Ev) (Post : AV → List AObj → Prop),
  (ASpec Try.prog 189
      [AV.agg
        [AV.int IntKind.i64 (Prod.fst e), AV.sl 2 (Seq.map T.encN ([], []) (Prod.fst (Prod.snd e))) Tip.none, AV.int IntKind.i64 (Prod.fst (Prod.snd (Prod.snd e))),
        AV.int IntKind.i64 (Prod.fst (Prod.snd (Prod.snd (Prod.snd e)))), AV.sl 1 (Seq.map encB (0 : UInt8) (Prod.snd (Prod.snd (Prod.snd (Prod.snd e))))) Tip.none]]
      [AObj.cells
        [AV.int IntKind.i64 (Prod.fst e), AV.sl 2 (Seq.map T.encN ([], []) (Prod.fst (Prod.snd e))) Tip.none, AV.int IntKind.i64 (Prod.fst (Prod.snd (Prod.snd e))),
        AV.int IntKind.i64 (Prod.fst (Prod.snd (Prod.snd (Prod.snd e)))), AV.sl 1 (Seq.map encB (0 : UInt8) (Prod.snd (Prod.snd (Prod.snd (Prod.snd e))))) Tip.none]]
      fun (r : AV) (H' : List AObj) =>
      ∃ (x : Bool),
        r = AV.bool x ∧
        H' =
        [AObj.cells
        [AV.int IntKind.i64 (Prod.fst e), AV.sl 2 (Seq.map T.encN ([], []) (Prod.fst (Prod.snd e))) Tip.none, AV.int IntKind.i64 (Prod.fst (Prod.snd (Prod.snd e))),
        AV.int IntKind.i64 (Prod.fst (Prod.snd (Prod.snd (Prod.snd e)))), AV.sl 1 (Seq.map encB (0 : UInt8) (Prod.snd (Prod.snd (Prod.snd (Prod.snd e))))) Tip.none]] ∧
        Post (AV.bool !x)
        [AObj.cells
        [AV.int IntKind.i64 (Prod.fst e), AV.sl 2 (Seq.map T.encN ([], []) (Prod.fst (Prod.snd e))) Tip.none, AV.int IntKind.i64 (Prod.fst (Prod.snd (Prod.snd e))),
        AV.int IntKind.i64 (Prod.fst (Prod.snd (Prod.snd (Prod.snd e)))), AV.sl 1 (Seq.map encB (0 : UInt8) (Prod.snd (Prod.snd (Prod.snd (Prod.snd e))))) Tip.none]]) →
    ASpec Try.prog 188 [AV.agg (T.encE e)] [] Post := fun e Post h => Go.Ab.ASpec.of_vc g188 Go.Proofs.Try.func188 (by kernel_rfl) (by kernel_rfl) (by kernel_rfl) (Go.Ab.kc (by kernel_rfl) h)

-- 187
noncomputable def l187 : Nat → List Nat
  | _ => []
noncomputable def u187 : Nat → Bool
  | _ => false
noncomputable def m187 : Nat → Bool
  | _ => false
noncomputable def g187 : Cfg := { N := 9, live := l187, cut := u187, mu := m187, ret := rets }
noncomputable def c187 : Go.Code := Go.Ab.bodyOf Go.Proofs.Try.f187
theorem s187 : ∀ (l : List T.Ev) (Post : AV → List AObj → Prop),
  (ASpec Try.prog 281 [AV.sl 5 (Seq.map T.encE T.noEv l) Tip.none, AV.fn (188 : FuncId) []] [] fun (r : AV) (H' : List AObj) =>
      ∃ (x : Int), r = AV.int IntKind.i64 x ∧ H' = [] ∧ Post (AV.bool (decide (x ≥ (0 : Int)))) []) →
    ASpec Try.prog 187 [AV.sl 5 (Seq.map T.encE T.noEv l) Tip.none, AV.fn (188 : FuncId) []] [] Post := fun l Post h => Go.Ab.ASpec.of_vc g187 Go.Proofs.Try.func187 (by kernel_rfl) (by kernel_rfl) (by kernel_rfl) (Go.Ab.kc (by kernel_rfl) h)

-- 281
noncomputable def l281 : Nat → List Nat
  | 2 => [0, 1, 7, 8]
  | _ => []
noncomputable def u281 : Nat → Bool
  | _ => false
noncomputable def m281 : Nat → Bool
  | _ => false
noncomputable def g281 : Cfg := { N := 19, live := l281, cut := u281, mu := m281, ret := rets }
noncomputable def c281 : Go.Code := Go.Ab.bodyOf Go.Proofs.Try.f281
noncomputable def q281_0 : Nat → (AV → List AObj → Prop) → AQ := fun (n : Nat) (Post : AV → List AObj → Prop) => endQ Try.prog (resultsOf Try.f281) Post
noncomputable def q281_1 : Nat → (AV → List AObj → Prop) → AQ := fun (n : Nat) (Post : AV → List AObj → Prop) => seqQ (fun (s' : Slots) (H' : List AObj) => awp Try.prog g281 n (codeSnd (codeSnd c281)) s' H' (q281_0 n Post)) (q281_0 n Post)
noncomputable def q281_2 : Nat → (AV → List AObj → Prop) → AQ := fun (n : Nat) (Post : AV → List AObj → Prop) => blockQ 0 (q281_1 n Post)
noncomputable def c281_2 : Go.Code := codeFst (codeSnd (codeFst (codeSnd c281)))
theorem s281 : ∀ (l : List T.Ev) (Post : AV → List AObj → Prop),
  AWP Try.prog 19 0 c281_2
      [(0, AV.sl 5 (Seq.map T.encE T.noEv l) Tip.none), (1, AV.fn (188 : FuncId) []), (7, AV.int IntKind.i64 (↑(List.length l) : Int)),
        (8, AV.int IntKind.i64 (0 : Int))]
      [] (q281_2 0 Post) →
    ASpec Try.prog 281 [AV.sl 5 (Seq.map T.encE T.noEv l) Tip.none, AV.fn (188 : FuncId) []] [] Post := fun l Post h => Go.Ab.ASpec.of_vc g281 Go.Proofs.Try.func281 (by kernel_rfl) (by kernel_rfl) (by kernel_rfl) (Go.Ab.kc (by kernel_rfl) h)
theorem v281_2 : ∀ (l : List T.Ev) (n i : Int) (n_1 : Nat) (Post : AV → List AObj → Prop),
  condP (decide (i < n))
      (needP ((0 : Int) ≤ i ∧ i < (↑(List.length l) : Int))
        (ASpec Try.prog 188
        [AV.agg
        [AV.int IntKind.i64 (Prod.fst (List.getD l (Int.toNat i) T.noEv)), AV.sl 2 (Seq.map T.encN ([], []) (Prod.fst (Prod.snd (List.getD l (Int.toNat i) T.noEv)))) Tip.none,
        AV.int IntKind.i64 (Prod.fst (Prod.snd (Prod.snd (List.getD l (Int.toNat i) T.noEv)))),
        AV.int IntKind.i64 (Prod.fst (Prod.snd (Prod.snd (Prod.snd (List.getD l (Int.toNat i) T.noEv))))),
        AV.sl 1 (Seq.map encB (0 : UInt8) (Prod.snd (Prod.snd (Prod.snd (Prod.snd (List.getD l (Int.toNat i) T.noEv)))))) Tip.none]]
        [] fun (r : AV) (H' : List AObj) =>
        ∃ (x : Bool),
        r = AV.bool x ∧
        H' = [] ∧
        condP x (Post (AV.int IntKind.i64 i) [])
        (AWP Try.prog 19 n_1 c281_2
        [(0, AV.sl 5 (Seq.map T.encE T.noEv l) Tip.none), (1, AV.fn (188 : FuncId) []), (7, AV.int IntKind.i64 n),
        (8, AV.int IntKind.i64 (IntKind.wrap IntKind.i64 (i + (1 : Int))))]
        [] (q281_2 n_1 Post))))
      (Post (AV.int IntKind.i64 (-1 : Int)) []) →
    AWP Try.prog 19 n_1 c281_2
      [(0, AV.sl 5 (Seq.map T.encE T.noEv l) Tip.none), (1, AV.fn (188 : FuncId) []), (7, AV.int IntKind.i64 n), (8, AV.int IntKind.i64 i)] [] (q281_2 n_1 Post) := fun l n i n Post h => Go.Ab.AWP.loop' g281 (Cfg.live g281) c281_2 (by kernel_rfl) (by kernel_rfl) (Go.Ab.kc (by kernel_rfl) h)

-- 415
noncomputable def l415 : Nat → List Nat
  | _ => []
noncomputable def u415 : Nat → Bool
  | _ => false
noncomputable def m415 : Nat → Bool
  | _ => false
noncomputable def g415 : Cfg := { N := 6, live := l415, cut := u415, mu := m415, ret := rets }
noncomputable def c415 : Go.Code := Go.Ab.bodyOf Go.Proofs.Try.f415
theorem s415 : ∀ (b : List UInt8) (Post : AV → List AObj → Prop),
  Post (AV.sl 1 (Seq.map encB (0 : UInt8) b) Tip.none) [AObj.cells []] → ASpec Try.prog 415 [AV.agg [], AV.sl 1 (Seq.map encB (0 : UInt8) b) Tip.none] [] Post := fun b Post h => Go.Ab.ASpec.of_vc g415 Go.Proofs.Try.func415 (by kernel_rfl) (by kernel_rfl) (by kernel_rfl) (Go.Ab.kc (by kernel_rfl) h)

-- 72
noncomputable def l72 : Nat → List Nat
  | 5 => [3, 17, 18, 19]
  | _ => []
noncomputable def u72 : Nat → Bool
  | _ => false
noncomputable def m72 : Nat → Bool
  | _ => false
noncomputable def g72 : Cfg := { N := 36, live := l72, cut := u72, mu := m72, ret := rets }
noncomputable def c72 : Go.Code := Go.Ab.bodyOf Go.Proofs.Try.f72
noncomputable def q72_0 : Nat → (AV → List AObj → Prop) → AQ := fun (n : Nat) (Post : AV → List AObj → Prop) => endQ Try.prog (resultsOf Try.f72) Post
noncomputable def q72_1 : Nat → (AV → List AObj → Prop) → AQ := fun (n : Nat) (Post : AV → List AObj → Prop) => seqQ (fun (s' : Slots) (H' : List AObj) => awp Try.prog g72 n (codeSnd (codeSnd (codeSnd (codeSnd c72)))) s' H' (q72_0 n Post)) (q72_0 n Post)
noncomputable def q72_2 : Nat → (AV → List AObj → Prop) → AQ := fun (n : Nat) (Post : AV → List AObj → Prop) => blockQ 0 (q72_1 n Post)
noncomputable def c72_5 : Go.Code := codeFst (codeSnd (codeFst (codeSnd (codeSnd (codeSnd c72)))))
theorem s72 : ∀ (l : List T.Ev) (Post : AV → List AObj → Prop),
  condP (decide ((↑(List.length l) : Int) > (400 : Int))) (Post (AV.sl 0 (Seq.raw []) Tip.nil) [])
      (ASpec Try.prog 187 [AV.sl 5 (Seq.map T.encE T.noEv l) Tip.none, AV.fn 188 []] [] fun (r : AV) (H' : List AObj) =>
        ∃ (x : Bool),
        r = AV.bool x ∧
        H' = [] ∧
        condP x (Post (AV.sl 0 (Seq.raw []) Tip.nil) [])
        (ASpec Try.prog 140 [AV.sl 0 (Seq.raw []) Tip.nil, AV.sl 1 (Seq.raw [[AV.int IntKind.i64 (↑(List.length l) : Int)]]) Tip.full] []
        fun (r : AV) (H' : List AObj) =>
        ∃ (x : List UInt8),
        r = AV.sl 1 (Seq.map encB (0 : UInt8) x) (Tip.tok 0) ∧
        H' = [AObj.tok] ∧
        AWP Try.prog 36 0 c72_5
        [(3, AV.sl 1 (Seq.map encB (0 : UInt8) x) (Tip.tok 0)), (17, AV.sl 5 (Seq.map T.encE T.noEv l) Tip.none),
        (18, AV.int IntKind.i64 (↑(List.length l) : Int)), (19, AV.int IntKind.i64 (0 : Int))]
        [AObj.tok] (q72_2 0 Post))) →
    ASpec Try.prog 72 [AV.sl 5 (Seq.map T.encE T.noEv l) Tip.none] [] Post := fun l Post h => Go.Ab.ASpec.of_vc g72 Go.Proofs.Try.func72 (by kernel_rfl) (by kernel_rfl) (by kernel_rfl) (Go.Ab.kc (by kernel_rfl) h)
theorem v72_5 : ∀ (b : List UInt8) (l : List T.Ev) (n i : Int) (n_1 : Nat) (Post : AV → List AObj → Prop),
  condP (decide (i < n))
      (needP ((0 : Int) ≤ i ∧ i < (↑(List.length l) : Int))
        (ASpec Try.prog 190
        [AV.agg
        [AV.int IntKind.i64 (Prod.fst (List.getD l (Int.toNat i) T.noEv)), AV.sl 2 (Seq.map T.encN ([], []) (Prod.fst (Prod.snd (List.getD l (Int.toNat i) T.noEv)))) Tip.none,
        AV.int IntKind.i64 (Prod.fst (Prod.snd (Prod.snd (List.getD l (Int.toNat i) T.noEv)))),
        AV.int IntKind.i64 (Prod.fst (Prod.snd (Prod.snd (Prod.snd (List.getD l (Int.toNat i) T.noEv))))),
        AV.sl 1 (Seq.map encB (0 : UInt8) (Prod.snd (Prod.snd (Prod.snd (Prod.snd (List.getD l (Int.toNat i) T.noEv)))))) Tip.none]]
        [AObj.cells
        [AV.int IntKind.i64 (Prod.fst (List.getD l (Int.toNat i) T.noEv)), AV.sl 2 (Seq.map T.encN ([], []) (Prod.fst (Prod.snd (List.getD l (Int.toNat i) T.noEv)))) Tip.none,
        AV.int IntKind.i64 (Prod.fst (Prod.snd (Prod.snd (List.getD l (Int.toNat i) T.noEv)))),
        AV.int IntKind.i64 (Prod.fst (Prod.snd (Prod.snd (Prod.snd (List.getD l (Int.toNat i) T.noEv))))),
        AV.sl 1 (Seq.map encB (0 : UInt8) (Prod.snd (Prod.snd (Prod.snd (Prod.snd (List.getD l (Int.toNat i) T.noEv)))))) Tip.none]]
        fun (r : AV) (H' : List AObj) =>
        (∃ (x : Int × List T.Need),
        r = AV.iface (337 : TypeId) (AV.agg [AV.int IntKind.i64 (Prod.fst x), AV.sl 2 (Seq.map T.encN ([], []) (Prod.snd x)) Tip.none]) ∧
        H' =
        [AObj.cells
        [AV.int IntKind.i64 (Prod.fst (List.getD l (Int.toNat i) T.noEv)), AV.sl 2 (Seq.map T.encN ([], []) (Prod.fst (Prod.snd (List.getD l (Int.toNat i) T.noEv)))) Tip.none,
        AV.int IntKind.i64 (Prod.fst (Prod.snd (Prod.snd (List.getD l (Int.toNat i) T.noEv)))),
        AV.int IntKind.i64 (Prod.fst (Prod.snd (Prod.snd (Prod.snd (List.getD l (Int.toNat i) T.noEv))))),
        AV.sl 1 (Seq.map encB (0 : UInt8) (Prod.snd (Prod.snd (Prod.snd (Prod.snd (List.getD l (Int.toNat i) T.noEv)))))) Tip.none]] ∧
        (AV.int IntKind.i64 (Prod.fst (List.getD l (Int.toNat i) T.noEv)) = AV.int IntKind.i64 (Prod.fst (List.getD l (Int.toNat i) T.noEv)) ∧
        [AObj.cells
        [AV.int IntKind.i64 (Prod.fst (List.getD l (Int.toNat i) T.noEv)),
        AV.sl 2 (Seq.map T.encN ([], []) (Prod.fst (Prod.snd (List.getD l (Int.toNat i) T.noEv)))) Tip.none,
        AV.int IntKind.i64 (Prod.fst (Prod.snd (Prod.snd (List.getD l (Int.toNat i) T.noEv)))),
        AV.int IntKind.i64 (Prod.fst (Prod.snd (Prod.snd (Prod.snd (List.getD l (Int.toNat i) T.noEv))))),
        AV.sl 1 (Seq.map encB (0 : UInt8) (Prod.snd (Prod.snd (Prod.snd (Prod.snd (List.getD l (Int.toNat i) T.noEv)))))) Tip.none]] =
        [AObj.cells
        [AV.int IntKind.i64 (Prod.fst (List.getD l (Int.toNat i) T.noEv)),
        AV.sl 2 (Seq.map T.encN ([], []) (Prod.fst (Prod.snd (List.getD l (Int.toNat i) T.noEv)))) Tip.none,
        AV.int IntKind.i64 (Prod.fst (Prod.snd (Prod.snd (List.getD l (Int.toNat i) T.noEv)))),
        AV.int IntKind.i64 (Prod.fst (Prod.snd (Prod.snd (Prod.snd (List.getD l (Int.toNat i) T.noEv))))),
        AV.sl 1 (Seq.map encB (0 : UInt8) (Prod.snd (Prod.snd (Prod.snd (Prod.snd (List.getD l (Int.toNat i) T.noEv)))))) Tip.none]]) ∧
        ASpec Try.prog 140
        [AV.sl 1 (Seq.map encB (0 : UInt8) b) Tip.none, AV.sl 1 (Seq.raw [[AV.int IntKind.i64 (Prod.fst (List.getD l (Int.toNat i) T.noEv))]]) Tip.full]
        [AObj.cells
        [AV.int IntKind.i64 (Prod.fst (List.getD l (Int.toNat i) T.noEv)),
        AV.sl 2 (Seq.map T.encN ([], []) (Prod.fst (Prod.snd (List.getD l (Int.toNat i) T.noEv)))) Tip.none,
        AV.int IntKind.i64 (Prod.fst (Prod.snd (Prod.snd (List.getD l (Int.toNat i) T.noEv)))),
        AV.int IntKind.i64 (Prod.fst (Prod.snd (Prod.snd (Prod.snd (List.getD l (Int.toNat i) T.noEv))))),
        AV.sl 1 (Seq.map encB (0 : UInt8) (Prod.snd (Prod.snd (Prod.snd (Prod.snd (List.getD l (Int.toNat i) T.noEv)))))) Tip.none]]
        fun (r : AV) (H' : List AObj) =>
        ∃ (x_1 : List UInt8),
        r = AV.sl 1 (Seq.map encB (0 : UInt8) x_1) (Tip.tok 1) ∧
        H' =
        [AObj.cells
        [AV.int IntKind.i64 (Prod.fst (List.getD l (Int.toNat i) T.noEv)),
        AV.sl 2 (Seq.map T.encN ([], []) (Prod.fst (Prod.snd (List.getD l (Int.toNat i) T.noEv)))) Tip.none,
        AV.int IntKind.i64 (Prod.fst (Prod.snd (Prod.snd (List.getD l (Int.toNat i) T.noEv)))),
        AV.int IntKind.i64 (Prod.fst (Prod.snd (Prod.snd (Prod.snd (List.getD l (Int.toNat i) T.noEv))))),
        AV.sl 1 (Seq.map encB (0 : UInt8) (Prod.snd (Prod.snd (Prod.snd (Prod.snd (List.getD l (Int.toNat i) T.noEv)))))) Tip.none],
        AObj.tok] ∧
        ASpec Try.prog 416
        [AV.agg [AV.int IntKind.i64 (Prod.fst x), AV.sl 2 (Seq.map T.encN ([], []) (Prod.snd x)) Tip.none],
        AV.sl 1 (Seq.map encB (0 : UInt8) x_1) (Tip.tok 1)]
        [AObj.cells
        [AV.int IntKind.i64 (Prod.fst (List.getD l (Int.toNat i) T.noEv)),
        AV.sl 2 (Seq.map T.encN ([], []) (Prod.fst (Prod.snd (List.getD l (Int.toNat i) T.noEv)))) Tip.none,
        AV.int IntKind.i64 (Prod.fst (Prod.snd (Prod.snd (List.getD l (Int.toNat i) T.noEv)))),
        AV.int IntKind.i64 (Prod.fst (Prod.snd (Prod.snd (Prod.snd (List.getD l (Int.toNat i) T.noEv))))),
        AV.sl 1 (Seq.map encB (0 : UInt8) (Prod.snd (Prod.snd (Prod.snd (Prod.snd (List.getD l (Int.toNat i) T.noEv)))))) Tip.none],
        AObj.tok]
        fun (r : AV) (H' : List AObj) =>
        ∃ (x : List UInt8),
        r = AV.sl 1 (Seq.map encB (0 : UInt8) x) Tip.none ∧
        H' =
        [AObj.cells
        [AV.int IntKind.i64 (Prod.fst (List.getD l (Int.toNat i) T.noEv)),
        AV.sl 2 (Seq.map T.encN ([], []) (Prod.fst (Prod.snd (List.getD l (Int.toNat i) T.noEv)))) Tip.none,
        AV.int IntKind.i64 (Prod.fst (Prod.snd (Prod.snd (List.getD l (Int.toNat i) T.noEv)))),
        AV.int IntKind.i64 (Prod.fst (Prod.snd (Prod.snd (Prod.snd (List.getD l (Int.toNat i) T.noEv))))),
        AV.sl 1 (Seq.map encB (0 : UInt8) (Prod.snd (Prod.snd (Prod.snd (Prod.snd (List.getD l (Int.toNat i) T.noEv)))))) Tip.none],
        AObj.tok] ∧
        AWP Try.prog 36 n_1 c72_5
        [(3, AV.sl 1 (Seq.map encB (0 : UInt8) x) Tip.none), (17, AV.sl 5 (Seq.map T.encE T.noEv l) Tip.none),
        (18, AV.int IntKind.i64 n), (19, AV.int IntKind.i64 (IntKind.wrap IntKind.i64 (i + (1 : Int))))]
        [AObj.cells
        [AV.int IntKind.i64 (Prod.fst (List.getD l (Int.toNat i) T.noEv)),
        AV.sl 2 (Seq.map T.encN ([], []) (Prod.fst (Prod.snd (List.getD l (Int.toNat i) T.noEv)))) Tip.none,
        AV.int IntKind.i64 (Prod.fst (Prod.snd (Prod.snd (List.getD l (Int.toNat i) T.noEv)))),
        AV.int IntKind.i64 (Prod.fst (Prod.snd (Prod.snd (Prod.snd (List.getD l (Int.toNat i) T.noEv))))),
        AV.sl 1 (Seq.map encB (0 : UInt8) (Prod.snd (Prod.snd (Prod.snd (Prod.snd (List.getD l (Int.toNat i) T.noEv)))))) Tip.none],
        AObj.tok]
        (q72_2 n_1 Post)) ∨
        (∃ (x : Unit),
        r = AV.iface (333 : TypeId) (AV.agg []) ∧
        H' =
        [AObj.cells
        [AV.int IntKind.i64 (Prod.fst (List.getD l (Int.toNat i) T.noEv)),
        AV.sl 2 (Seq.map T.encN ([], []) (Prod.fst (Prod.snd (List.getD l (Int.toNat i) T.noEv)))) Tip.none,
        AV.int IntKind.i64 (Prod.fst (Prod.snd (Prod.snd (List.getD l (Int.toNat i) T.noEv)))),
        AV.int IntKind.i64 (Prod.fst (Prod.snd (Prod.snd (Prod.snd (List.getD l (Int.toNat i) T.noEv))))),
        AV.sl 1 (Seq.map encB (0 : UInt8) (Prod.snd (Prod.snd (Prod.snd (Prod.snd (List.getD l (Int.toNat i) T.noEv)))))) Tip.none]] ∧
        (AV.int IntKind.i64 (Prod.fst (List.getD l (Int.toNat i) T.noEv)) = AV.int IntKind.i64 (Prod.fst (List.getD l (Int.toNat i) T.noEv)) ∧
        [AObj.cells
        [AV.int IntKind.i64 (Prod.fst (List.getD l (Int.toNat i) T.noEv)),
        AV.sl 2 (Seq.map T.encN ([], []) (Prod.fst (Prod.snd (List.getD l (Int.toNat i) T.noEv)))) Tip.none,
        AV.int IntKind.i64 (Prod.fst (Prod.snd (Prod.snd (List.getD l (Int.toNat i) T.noEv)))),
        AV.int IntKind.i64 (Prod.fst (Prod.snd (Prod.snd (Prod.snd (List.getD l (Int.toNat i) T.noEv))))),
        AV.sl 1 (Seq.map encB (0 : UInt8) (Prod.snd (Prod.snd (Prod.snd (Prod.snd (List.getD l (Int.toNat i) T.noEv)))))) Tip.none]] =
        [AObj.cells
        [AV.int IntKind.i64 (Prod.fst (List.getD l (Int.toNat i) T.noEv)),
        AV.sl 2 (Seq.map T.encN ([], []) (Prod.fst (Prod.snd (List.getD l (Int.toNat i) T.noEv)))) Tip.none,
        AV.int IntKind.i64 (Prod.fst (Prod.snd (Prod.snd (List.getD l (Int.toNat i) T.noEv)))),
        AV.int IntKind.i64 (Prod.fst (Prod.snd (Prod.snd (Prod.snd (List.getD l (Int.toNat i) T.noEv))))),
        AV.sl 1 (Seq.map encB (0 : UInt8) (Prod.snd (Prod.snd (Prod.snd (Prod.snd (List.getD l (Int.toNat i) T.noEv)))))) Tip.none]]) ∧
        ASpec Try.prog 140
        [AV.sl 1 (Seq.map encB (0 : UInt8) b) Tip.none, AV.sl 1 (Seq.raw [[AV.int IntKind.i64 (Prod.fst (List.getD l (Int.toNat i) T.noEv))]]) Tip.full]
        [AObj.cells
        [AV.int IntKind.i64 (Prod.fst (List.getD l (Int.toNat i) T.noEv)),
        AV.sl 2 (Seq.map T.encN ([], []) (Prod.fst (Prod.snd (List.getD l (Int.toNat i) T.noEv)))) Tip.none,
        AV.int IntKind.i64 (Prod.fst (Prod.snd (Prod.snd (List.getD l (Int.toNat i) T.noEv)))),
        AV.int IntKind.i64 (Prod.fst (Prod.snd (Prod.snd (Prod.snd (List.getD l (Int.toNat i) T.noEv))))),
        AV.sl 1 (Seq.map encB (0 : UInt8) (Prod.snd (Prod.snd (Prod.snd (Prod.snd (List.getD l (Int.toNat i) T.noEv)))))) Tip.none]]
        fun (r : AV) (H' : List AObj) =>
        ∃ (x : List UInt8),
        r = AV.sl 1 (Seq.map encB (0 : UInt8) x) (Tip.tok 1) ∧
        H' =
        [AObj.cells
        [AV.int IntKind.i64 (Prod.fst (List.getD l (Int.toNat i) T.noEv)),
        AV.sl 2 (Seq.map T.encN ([], []) (Prod.fst (Prod.snd (List.getD l (Int.toNat i) T.noEv)))) Tip.none,
        AV.int IntKind.i64 (Prod.fst (Prod.snd (Prod.snd (List.getD l (Int.toNat i) T.noEv)))),
        AV.int IntKind.i64 (Prod.fst (Prod.snd (Prod.snd (Prod.snd (List.getD l (Int.toNat i) T.noEv))))),
        AV.sl 1 (Seq.map encB (0 : UInt8) (Prod.snd (Prod.snd (Prod.snd (Prod.snd (List.getD l (Int.toNat i) T.noEv)))))) Tip.none],
        AObj.tok] ∧
        ASpec Try.prog 415 [AV.agg [], AV.sl 1 (Seq.map encB (0 : UInt8) x) (Tip.tok 1)]
        [AObj.cells
        [AV.int IntKind.i64 (Prod.fst (List.getD l (Int.toNat i) T.noEv)),
        AV.sl 2 (Seq.map T.encN ([], []) (Prod.fst (Prod.snd (List.getD l (Int.toNat i) T.noEv)))) Tip.none,
        AV.int IntKind.i64 (Prod.fst (Prod.snd (Prod.snd (List.getD l (Int.toNat i) T.noEv)))),
        AV.int IntKind.i64 (Prod.fst (Prod.snd (Prod.snd (Prod.snd (List.getD l (Int.toNat i) T.noEv))))),
        AV.sl 1 (Seq.map encB (0 : UInt8) (Prod.snd (Prod.snd (Prod.snd (Prod.snd (List.getD l (Int.toNat i) T.noEv)))))) Tip.none],
        AObj.tok]
        fun (r : AV) (H' : List AObj) =>
        ∃ (x : List UInt8),
        r = AV.sl 1 (Seq.map encB (0 : UInt8) x) Tip.none ∧
        H' =
        [AObj.cells
        [AV.int IntKind.i64 (Prod.fst (List.getD l (Int.toNat i) T.noEv)),
        AV.sl 2 (Seq.map T.encN ([], []) (Prod.fst (Prod.snd (List.getD l (Int.toNat i) T.noEv)))) Tip.none,
        AV.int IntKind.i64 (Prod.fst (Prod.snd (Prod.snd (List.getD l (Int.toNat i) T.noEv)))),
        AV.int IntKind.i64 (Prod.fst (Prod.snd (Prod.snd (Prod.snd (List.getD l (Int.toNat i) T.noEv))))),
        AV.sl 1 (Seq.map encB (0 : UInt8) (Prod.snd (Prod.snd (Prod.snd (Prod.snd (List.getD l (Int.toNat i) T.noEv)))))) Tip.none],
        AObj.tok] ∧
        AWP Try.prog 36 n_1 c72_5
        [(3, AV.sl 1 (Seq.map encB (0 : UInt8) x) Tip.none), (17, AV.sl 5 (Seq.map T.encE T.noEv l) Tip.none),
        (18, AV.int IntKind.i64 n), (19, AV.int IntKind.i64 (IntKind.wrap IntKind.i64 (i + (1 : Int))))]
        [AObj.cells
        [AV.int IntKind.i64 (Prod.fst (List.getD l (Int.toNat i) T.noEv)),
        AV.sl 2 (Seq.map T.encN ([], []) (Prod.fst (Prod.snd (List.getD l (Int.toNat i) T.noEv)))) Tip.none,
        AV.int IntKind.i64 (Prod.fst (Prod.snd (Prod.snd (List.getD l (Int.toNat i) T.noEv)))),
        AV.int IntKind.i64 (Prod.fst (Prod.snd (Prod.snd (Prod.snd (List.getD l (Int.toNat i) T.noEv))))),
        AV.sl 1 (Seq.map encB (0 : UInt8) (Prod.snd (Prod.snd (Prod.snd (Prod.snd (List.getD l (Int.toNat i) T.noEv)))))) Tip.none],
        AObj.tok]
        (q72_2 n_1 Post)) ∨
        (∃ (x : Int × List UInt8),
        r = AV.iface (339 : TypeId) (AV.agg [AV.int IntKind.i64 (Prod.fst x), AV.sl 1 (Seq.map encB (0 : UInt8) (Prod.snd x)) Tip.none]) ∧
        H' =
        [AObj.cells
        [AV.int IntKind.i64 (Prod.fst (List.getD l (Int.toNat i) T.noEv)),
        AV.sl 2 (Seq.map T.encN ([], []) (Prod.fst (Prod.snd (List.getD l (Int.toNat i) T.noEv)))) Tip.none,
        AV.int IntKind.i64 (Prod.fst (Prod.snd (Prod.snd (List.getD l (Int.toNat i) T.noEv)))),
        AV.int IntKind.i64 (Prod.fst (Prod.snd (Prod.snd (Prod.snd (List.getD l (Int.toNat i) T.noEv))))),
        AV.sl 1 (Seq.map encB (0 : UInt8) (Prod.snd (Prod.snd (Prod.snd (Prod.snd (List.getD l (Int.toNat i) T.noEv)))))) Tip.none]] ∧
        (AV.int IntKind.i64 (Prod.fst (List.getD l (Int.toNat i) T.noEv)) = AV.int IntKind.i64 (Prod.fst (List.getD l (Int.toNat i) T.noEv)) ∧
        [AObj.cells
        [AV.int IntKind.i64 (Prod.fst (List.getD l (Int.toNat i) T.noEv)),
        AV.sl 2 (Seq.map T.encN ([], []) (Prod.fst (Prod.snd (List.getD l (Int.toNat i) T.noEv)))) Tip.none,
        AV.int IntKind.i64 (Prod.fst (Prod.snd (Prod.snd (List.getD l (Int.toNat i) T.noEv)))),
        AV.int IntKind.i64 (Prod.fst (Prod.snd (Prod.snd (Prod.snd (List.getD l (Int.toNat i) T.noEv))))),
        AV.sl 1 (Seq.map encB (0 : UInt8) (Prod.snd (Prod.snd (Prod.snd (Prod.snd (List.getD l (Int.toNat i) T.noEv)))))) Tip.none]] =
        [AObj.cells
        [AV.int IntKind.i64 (Prod.fst (List.getD l (Int.toNat i) T.noEv)),
        AV.sl 2 (Seq.map T.encN ([], []) (Prod.fst (Prod.snd (List.getD l (Int.toNat i) T.noEv)))) Tip.none,
        AV.int IntKind.i64 (Prod.fst (Prod.snd (Prod.snd (List.getD l (Int.toNat i) T.noEv)))),
        AV.int IntKind.i64 (Prod.fst (Prod.snd (Prod.snd (Prod.snd (List.getD l (Int.toNat i) T.noEv))))),
        AV.sl 1 (Seq.map encB (0 : UInt8) (Prod.snd (Prod.snd (Prod.snd (Prod.snd (List.getD l (Int.toNat i) T.noEv)))))) Tip.none]]) ∧
        ASpec Try.prog 140
        [AV.sl 1 (Seq.map encB (0 : UInt8) b) Tip.none, AV.sl 1 (Seq.raw [[AV.int IntKind.i64 (Prod.fst (List.getD l (Int.toNat i) T.noEv))]]) Tip.full]
        [AObj.cells
        [AV.int IntKind.i64 (Prod.fst (List.getD l (Int.toNat i) T.noEv)),
        AV.sl 2 (Seq.map T.encN ([], []) (Prod.fst (Prod.snd (List.getD l (Int.toNat i) T.noEv)))) Tip.none,
        AV.int IntKind.i64 (Prod.fst (Prod.snd (Prod.snd (List.getD l (Int.toNat i) T.noEv)))),
        AV.int IntKind.i64 (Prod.fst (Prod.snd (Prod.snd (Prod.snd (List.getD l (Int.toNat i) T.noEv))))),
        AV.sl 1 (Seq.map encB (0 : UInt8) (Prod.snd (Prod.snd (Prod.snd (Prod.snd (List.getD l (Int.toNat i) T.noEv)))))) Tip.none]]
        fun (r : AV) (H' : List AObj) =>
        ∃ (x_1 : List UInt8),
        r = AV.sl 1 (Seq.map encB (0 : UInt8) x_1) (Tip.tok 1) ∧
        H' =
        [AObj.cells
        [AV.int IntKind.i64 (Prod.fst (List.getD l (Int.toNat i) T.noEv)),
        AV.sl 2 (Seq.map T.encN ([], []) (Prod.fst (Prod.snd (List.getD l (Int.toNat i) T.noEv)))) Tip.none,
        AV.int IntKind.i64 (Prod.fst (Prod.snd (Prod.snd (List.getD l (Int.toNat i) T.noEv)))),
        AV.int IntKind.i64 (Prod.fst (Prod.snd (Prod.snd (Prod.snd (List.getD l (Int.toNat i) T.noEv))))),
        AV.sl 1 (Seq.map encB (0 : UInt8) (Prod.snd (Prod.snd (Prod.snd (Prod.snd (List.getD l (Int.toNat i) T.noEv)))))) Tip.none],
        AObj.tok] ∧
        ASpec Try.prog 417
        [AV.agg [AV.int IntKind.i64 (Prod.fst x), AV.sl 1 (Seq.map encB (0 : UInt8) (Prod.snd x)) Tip.none],
        AV.sl 1 (Seq.map encB (0 : UInt8) x_1) (Tip.tok 1)]
        [AObj.cells
        [AV.int IntKind.i64 (Prod.fst (List.getD l (Int.toNat i) T.noEv)),
        AV.sl 2 (Seq.map T.encN ([], []) (Prod.fst (Prod.snd (List.getD l (Int.toNat i) T.noEv)))) Tip.none,
        AV.int IntKind.i64 (Prod.fst (Prod.snd (Prod.snd (List.getD l (Int.toNat i) T.noEv)))),
        AV.int IntKind.i64 (Prod.fst (Prod.snd (Prod.snd (Prod.snd (List.getD l (Int.toNat i) T.noEv))))),
        AV.sl 1 (Seq.map encB (0 : UInt8) (Prod.snd (Prod.snd (Prod.snd (Prod.snd (List.getD l (Int.toNat i) T.noEv)))))) Tip.none],
        AObj.tok]
        fun (r : AV) (H' : List AObj) =>
        ∃ (x : List UInt8),
        r = AV.sl 1 (Seq.map encB (0 : UInt8) x) Tip.none ∧
        H' =
        [AObj.cells
        [AV.int IntKind.i64 (Prod.fst (List.getD l (Int.toNat i) T.noEv)),
        AV.sl 2 (Seq.map T.encN ([], []) (Prod.fst (Prod.snd (List.getD l (Int.toNat i) T.noEv)))) Tip.none,
        AV.int IntKind.i64 (Prod.fst (Prod.snd (Prod.snd (List.getD l (Int.toNat i) T.noEv)))),
        AV.int IntKind.i64 (Prod.fst (Prod.snd (Prod.snd (Prod.snd (List.getD l (Int.toNat i) T.noEv))))),
        AV.sl 1 (Seq.map encB (0 : UInt8) (Prod.snd (Prod.snd (Prod.snd (Prod.snd (List.getD l (Int.toNat i) T.noEv)))))) Tip.none],
        AObj.tok] ∧
        AWP Try.prog 36 n_1 c72_5
        [(3, AV.sl 1 (Seq.map encB (0 : UInt8) x) Tip.none), (17, AV.sl 5 (Seq.map T.encE T.noEv l) Tip.none),
        (18, AV.int IntKind.i64 n), (19, AV.int IntKind.i64 (IntKind.wrap IntKind.i64 (i + (1 : Int))))]
        [AObj.cells
        [AV.int IntKind.i64 (Prod.fst (List.getD l (Int.toNat i) T.noEv)),
        AV.sl 2 (Seq.map T.encN ([], []) (Prod.fst (Prod.snd (List.getD l (Int.toNat i) T.noEv)))) Tip.none,
        AV.int IntKind.i64 (Prod.fst (Prod.snd (Prod.snd (List.getD l (Int.toNat i) T.noEv)))),
        AV.int IntKind.i64 (Prod.fst (Prod.snd (Prod.snd (Prod.snd (List.getD l (Int.toNat i) T.noEv))))),
        AV.sl 1 (Seq.map encB (0 : UInt8) (Prod.snd (Prod.snd (Prod.snd (Prod.snd (List.getD l (Int.toNat i) T.noEv)))))) Tip.none],
        AObj.tok]
        (q72_2 n_1 Post)) ∨
        (∃ (x : Int),
        r = AV.iface (341 : TypeId) (AV.agg [AV.int IntKind.i64 x]) ∧
        H' =
        [AObj.cells
        [AV.int IntKind.i64 (Prod.fst (List.getD l (Int.toNat i) T.noEv)),
        AV.sl 2 (Seq.map T.encN ([], []) (Prod.fst (Prod.snd (List.getD l (Int.toNat i) T.noEv)))) Tip.none,
        AV.int IntKind.i64 (Prod.fst (Prod.snd (Prod.snd (List.getD l (Int.toNat i) T.noEv)))),
        AV.int IntKind.i64 (Prod.fst (Prod.snd (Prod.snd (Prod.snd (List.getD l (Int.toNat i) T.noEv))))),
        AV.sl 1 (Seq.map encB (0 : UInt8) (Prod.snd (Prod.snd (Prod.snd (Prod.snd (List.getD l (Int.toNat i) T.noEv)))))) Tip.none]] ∧
        (AV.int IntKind.i64 (Prod.fst (List.getD l (Int.toNat i) T.noEv)) = AV.int IntKind.i64 (Prod.fst (List.getD l (Int.toNat i) T.noEv)) ∧
        [AObj.cells
        [AV.int IntKind.i64 (Prod.fst (List.getD l (Int.toNat i) T.noEv)),
        AV.sl 2 (Seq.map T.encN ([], []) (Prod.fst (Prod.snd (List.getD l (Int.toNat i) T.noEv)))) Tip.none,
        AV.int IntKind.i64 (Prod.fst (Prod.snd (Prod.snd (List.getD l (Int.toNat i) T.noEv)))),
        AV.int IntKind.i64 (Prod.fst (Prod.snd (Prod.snd (Prod.snd (List.getD l (Int.toNat i) T.noEv))))),
        AV.sl 1 (Seq.map encB (0 : UInt8) (Prod.snd (Prod.snd (Prod.snd (Prod.snd (List.getD l (Int.toNat i) T.noEv)))))) Tip.none]] =
        [AObj.cells
        [AV.int IntKind.i64 (Prod.fst (List.getD l (Int.toNat i) T.noEv)),
        AV.sl 2 (Seq.map T.encN ([], []) (Prod.fst (Prod.snd (List.getD l (Int.toNat i) T.noEv)))) Tip.none,
        AV.int IntKind.i64 (Prod.fst (Prod.snd (Prod.snd (List.getD l (Int.toNat i) T.noEv)))),
        AV.int IntKind.i64 (Prod.fst (Prod.snd (Prod.snd (Prod.snd (List.getD l (Int.toNat i) T.noEv))))),
        AV.sl 1 (Seq.map encB (0 : UInt8) (Prod.snd (Prod.snd (Prod.snd (Prod.snd (List.getD l (Int.toNat i) T.noEv)))))) Tip.none]]) ∧
        ASpec Try.prog 140
        [AV.sl 1 (Seq.map encB (0 : UInt8) b) Tip.none, AV.sl 1 (Seq.raw [[AV.int IntKind.i64 (Prod.fst (List.getD l (Int.toNat i) T.noEv))]]) Tip.full]
        [AObj.cells
        [AV.int IntKind.i64 (Prod.fst (List.getD l (Int.toNat i) T.noEv)),
        AV.sl 2 (Seq.map T.encN ([], []) (Prod.fst (Prod.snd (List.getD l (Int.toNat i) T.noEv)))) Tip.none,
        AV.int IntKind.i64 (Prod.fst (Prod.snd (Prod.snd (List.getD l (Int.toNat i) T.noEv)))),
        AV.int IntKind.i64 (Prod.fst (Prod.snd (Prod.snd (Prod.snd (List.getD l (Int.toNat i) T.noEv))))),
        AV.sl 1 (Seq.map encB (0 : UInt8) (Prod.snd (Prod.snd (Prod.snd (Prod.snd (List.getD l (Int.toNat i) T.noEv)))))) Tip.none]]
        fun (r : AV) (H' : List AObj) =>
        ∃ (x_1 : List UInt8),
        r = AV.sl 1 (Seq.map encB (0 : UInt8) x_1) (Tip.tok 1) ∧
        H' =
        [AObj.cells
        [AV.int IntKind.i64 (Prod.fst (List.getD l (Int.toNat i) T.noEv)),
        AV.sl 2 (Seq.map T.encN ([], []) (Prod.fst (Prod.snd (List.getD l (Int.toNat i) T.noEv)))) Tip.none,
        AV.int IntKind.i64 (Prod.fst (Prod.snd (Prod.snd (List.getD l (Int.toNat i) T.noEv)))),
        AV.int IntKind.i64 (Prod.fst (Prod.snd (Prod.snd (Prod.snd (List.getD l (Int.toNat i) T.noEv))))),
        AV.sl 1 (Seq.map encB (0 : UInt8) (Prod.snd (Prod.snd (Prod.snd (Prod.snd (List.getD l (Int.toNat i) T.noEv)))))) Tip.none],
        AObj.tok] ∧
        ASpec Try.prog 418 [AV.agg [AV.int IntKind.i64 x], AV.sl 1 (Seq.map encB (0 : UInt8) x_1) (Tip.tok 1)]
        [AObj.cells
        [AV.int IntKind.i64 (Prod.fst (List.getD l (Int.toNat i) T.noEv)),
        AV.sl 2 (Seq.map T.encN ([], []) (Prod.fst (Prod.snd (List.getD l (Int.toNat i) T.noEv)))) Tip.none,
        AV.int IntKind.i64 (Prod.fst (Prod.snd (Prod.snd (List.getD l (Int.toNat i) T.noEv)))),
        AV.int IntKind.i64 (Prod.fst (Prod.snd (Prod.snd (Prod.snd (List.getD l (Int.toNat i) T.noEv))))),
        AV.sl 1 (Seq.map encB (0 : UInt8) (Prod.snd (Prod.snd (Prod.snd (Prod.snd (List.getD l (Int.toNat i) T.noEv)))))) Tip.none],
        AObj.tok]
        fun (r : AV) (H' : List AObj) =>
        ∃ (x : List UInt8),
        r = AV.sl 1 (Seq.map encB (0 : UInt8) x) Tip.none ∧
        H' =
        [AObj.cells
        [AV.int IntKind.i64 (Prod.fst (List.getD l (Int.toNat i) T.noEv)),
        AV.sl 2 (Seq.map T.encN ([], []) (Prod.fst (Prod.snd (List.getD l (Int.toNat i) T.noEv)))) Tip.none,
        AV.int IntKind.i64 (Prod.fst (Prod.snd (Prod.snd (List.getD l (Int.toNat i) T.noEv)))),
        AV.int IntKind.i64 (Prod.fst (Prod.snd (Prod.snd (Prod.snd (List.getD l (Int.toNat i) T.noEv))))),
        AV.sl 1 (Seq.map encB (0 : UInt8) (Prod.snd (Prod.snd (Prod.snd (Prod.snd (List.getD l (Int.toNat i) T.noEv)))))) Tip.none],
        AObj.tok] ∧
        AWP Try.prog 36 n_1 c72_5
        [(3, AV.sl 1 (Seq.map encB (0 : UInt8) x) Tip.none), (17, AV.sl 5 (Seq.map T.encE T.noEv l) Tip.none),
        (18, AV.int IntKind.i64 n), (19, AV.int IntKind.i64 (IntKind.wrap IntKind.i64 (i + (1 : Int))))]
        [AObj.cells
        [AV.int IntKind.i64 (Prod.fst (List.getD l (Int.toNat i) T.noEv)),
        AV.sl 2 (Seq.map T.encN ([], []) (Prod.fst (Prod.snd (List.getD l (Int.toNat i) T.noEv)))) Tip.none,
        AV.int IntKind.i64 (Prod.fst (Prod.snd (Prod.snd (List.getD l (Int.toNat i) T.noEv)))),
        AV.int IntKind.i64 (Prod.fst (Prod.snd (Prod.snd (Prod.snd (List.getD l (Int.toNat i) T.noEv))))),
        AV.sl 1 (Seq.map encB (0 : UInt8) (Prod.snd (Prod.snd (Prod.snd (Prod.snd (List.getD l (Int.toNat i) T.noEv)))))) Tip.none],
        AObj.tok]
        (q72_2 n_1 Post)) ∨
        ∃ (x : Unit),
        r = AV.nili ∧
        H' =
        [AObj.cells
        [AV.int IntKind.i64 (Prod.fst (List.getD l (Int.toNat i) T.noEv)),
        AV.sl 2 (Seq.map T.encN ([], []) (Prod.fst (Prod.snd (List.getD l (Int.toNat i) T.noEv)))) Tip.none,
        AV.int IntKind.i64 (Prod.fst (Prod.snd (Prod.snd (List.getD l (Int.toNat i) T.noEv)))),
        AV.int IntKind.i64 (Prod.fst (Prod.snd (Prod.snd (Prod.snd (List.getD l (Int.toNat i) T.noEv))))),
        AV.sl 1 (Seq.map encB (0 : UInt8) (Prod.snd (Prod.snd (Prod.snd (Prod.snd (List.getD l (Int.toNat i) T.noEv)))))) Tip.none]] ∧
        (AV.int IntKind.i64 (Prod.fst (List.getD l (Int.toNat i) T.noEv)) = AV.int IntKind.i64 (Prod.fst (List.getD l (Int.toNat i) T.noEv)) ∧
        [AObj.cells
        [AV.int IntKind.i64 (Prod.fst (List.getD l (Int.toNat i) T.noEv)),
        AV.sl 2 (Seq.map T.encN ([], []) (Prod.fst (Prod.snd (List.getD l (Int.toNat i) T.noEv)))) Tip.none,
        AV.int IntKind.i64 (Prod.fst (Prod.snd (Prod.snd (List.getD l (Int.toNat i) T.noEv)))),
        AV.int IntKind.i64 (Prod.fst (Prod.snd (Prod.snd (Prod.snd (List.getD l (Int.toNat i) T.noEv))))),
        AV.sl 1 (Seq.map encB (0 : UInt8) (Prod.snd (Prod.snd (Prod.snd (Prod.snd (List.getD l (Int.toNat i) T.noEv)))))) Tip.none]] =
        [AObj.cells
        [AV.int IntKind.i64 (Prod.fst (List.getD l (Int.toNat i) T.noEv)),
        AV.sl 2 (Seq.map T.encN ([], []) (Prod.fst (Prod.snd (List.getD l (Int.toNat i) T.noEv)))) Tip.none,
        AV.int IntKind.i64 (Prod.fst (Prod.snd (Prod.snd (List.getD l (Int.toNat i) T.noEv)))),
        AV.int IntKind.i64 (Prod.fst (Prod.snd (Prod.snd (Prod.snd (List.getD l (Int.toNat i) T.noEv))))),
        AV.sl 1 (Seq.map encB (0 : UInt8) (Prod.snd (Prod.snd (Prod.snd (Prod.snd (List.getD l (Int.toNat i) T.noEv)))))) Tip.none]]) ∧
        False))
      (Post (AV.sl 1 (Seq.map encB (0 : UInt8) b) Tip.none) []) →
    AWP Try.prog 36 n_1 c72_5
      [(3, AV.sl 1 (Seq.map encB (0 : UInt8) b) Tip.none), (17, AV.sl 5 (Seq.map T.encE T.noEv l) Tip.none), (18, AV.int IntKind.i64 n),
        (19, AV.int IntKind.i64 i)]
      [] (q72_2 n_1 Post) := fun b l n i n Post h => Go.Ab.AWP.loop' g72 (Cfg.live g72) c72_5 (by kernel_rfl) (by kernel_rfl) (Go.Ab.kc (by kernel_rfl) h)

-- 71
noncomputable def l71 : Nat → List Nat
  | _ => []
noncomputable def u71 : Nat → Bool
  | _ => false
noncomputable def m71 : Nat → Bool
  | _ => false
noncomputable def g71 : Cfg := { N := 6, live := l71, cut := u71, mu := m71, ret := rets }
noncomputable def c71 : Go.Code := Go.Ab.bodyOf Go.Proofs.Try.f71
theorem s71 : ∀ (Post : AV → List AObj → Prop),
  (ASpec Try.prog 72
      [AV.sl 5
        (Seq.raw [[AV.int IntKind.i64 (2 : Int), AV.sl 0 (Seq.raw []) Tip.nil, AV.int IntKind.i64 (0 : Int), AV.int IntKind.i64 (0 : Int), AV.sl 0 (Seq.raw []) Tip.nil]]) Tip.full]
      [] fun (r : AV) (H' : List AObj) =>
      ∃ (x : List UInt8),
        r = AV.sl 1 (Seq.map encB (0 : UInt8) x) Tip.none ∧
        H' = [] ∧
        needP (allBytes (Seq.map encB (0 : UInt8) x)) (Post (AV.bool (ByteArray.toList (bytesOf (Seq.map encB (0 : UInt8) x)) == ByteArray.toList { data := #[(1 : UInt8), (2 : UInt8)] })) [])) →
    ASpec Try.prog 71 [] [] Post := fun Post h => Go.Ab.ASpec.of_vc g71 Go.Proofs.Try.func71 (by kernel_rfl) (by kernel_rfl) (by kernel_rfl) (Go.Ab.kc (by kernel_rfl) h)

end
end E
end
