/- Q2: several of this proof's own texts, one behind the other: what each proves stands at its head. -/
import Derived.Test.YtbjcdgepclmmjaaProg
import Derived.Test.YtbjcdgepclmmjaaA1
section
/- Printed: what the code of functions 140, 141, 150, 151, 142, 143, 145, 144, 251, 146, 147, 148, 149, 250, 252 asks for, by the framework's own reading of it; each line is checked against the code. -/

set_option linter.unusedVariables false
set_option maxRecDepth 100000
set_option maxHeartbeats 4000000
open Go Go.Ab Go.Proofs
namespace V
noncomputable section

noncomputable def encR (x : Int × Int) : List AV := [.int .i64 x.1, .int .i64 x.2]
noncomputable def rd (bs : List UInt8) (p e : Int) : AObj := .cells [.sl 1 (.map encB 0 bs) .none, .int .i64 p, .int .i64 e]
noncomputable def upd3 (args : List AV) (H : List AObj) (p e : Int) : List AObj := match args with
  | .ptr id _ :: _ => match H[id]? with
    | some (.cells [b, _, _]) => H.set id (.cells [b, .int .i64 p, .int .i64 e])
    | _ => H
  | _ => H
noncomputable def upd2 (args : List AV) (H : List AObj) (s : ByteArray) (e : Int) : List AObj := match args with
  | .ptr id _ :: _ => H.set id (.cells [.str s, .int .i64 e])
  | _ => H
noncomputable def retL : List (Nat × Ret) := [
  (9016, ⟨Unit, fun _ _ _ => .bool true, fun _ H _ => H⟩),
  (140, ⟨List UInt8, fun _ H l => .sl 1 (.map encB 0 l) (.tok H.length), fun _ H _ => H ++ [.tok]⟩),
  (141, ⟨List UInt8, fun _ H l => .sl 1 (.map encB 0 l) (.tok H.length), fun _ H _ => H ++ [.tok]⟩),
  (9019, ⟨ByteArray, fun _ _ s => .str s, fun _ H _ => H⟩),
  (151, ⟨ByteArray, fun _ _ s => .str s, fun _ H _ => H⟩),
  (142, ⟨List UInt8, fun _ H _ => .ptr H.length 0, fun _ H l => H ++ [rd l 0 0]⟩),
  (143, ⟨Int × Int × Int, fun _ _ x => .int .i64 x.1, fun a H x => upd3 a H x.2.1 x.2.2⟩),
  (145, ⟨ByteArray × Int × Int, fun _ _ x => .str x.1, fun a H x => upd3 a H x.2.1 x.2.2⟩),
  (144, ⟨Int, fun _ _ x => .int .i64 x, fun _ H _ => H⟩),
  (251, ⟨Int, fun _ _ x => .int .i64 x, fun _ H _ => H⟩),
  (147, ⟨Int × ByteArray × Int, fun _ _ x => .int .i64 x.1, fun a H x => upd2 a H x.2.1 x.2.2⟩),
  (148, ⟨ByteArray × ByteArray × Int, fun _ _ x => .str x.1, fun a H x => upd2 a H x.2.1 x.2.2⟩),
  (9028, ⟨Int × Int, fun _ _ x => .tup [], fun a H x => upd3 a H x.1 x.2⟩),
  (9029, ⟨ByteArray × Int, fun _ _ x => .tup [], fun a H x => upd2 a H x.1 x.2⟩),
  (146, ⟨Int, fun _ _ x => .int .i64 x, fun _ H _ => H⟩),
  (149, ⟨Int, fun _ _ x => .int .i64 x, fun _ H _ => H⟩),
  (150, ⟨ByteArray, fun _ _ s => .str s, fun _ H _ => H⟩),
  (250, ⟨Int × Int × Int × Int, fun _ _ x => .tup [.int .i64 x.1, .int .i64 x.2.1], fun a H x => upd3 a H x.2.2.1 x.2.2.2⟩),
  (252, ⟨Int × Int × Int, fun _ _ x => .tup [.int .i64 x.1, .int .i64 x.2.1, .int .i64 x.2.2], fun _ H _ => H⟩)]
noncomputable def rets : FuncId → List Ret := lookupR retL

-- 140
noncomputable def l140 : Nat → List Nat
  | 3 => [5, 12, 13, 14]
  | 7 => [5, 7, 8, 12, 13, 14]
  | 9 => [5, 7, 8, 12, 13, 14]
  | _ => []
noncomputable def u140 : Nat → Bool
  | _ => false
noncomputable def m140 : Nat → Bool
  | _ => false
noncomputable def g140 : Cfg := { N := 48, live := l140, cut := u140, mu := m140, ret := rets }
noncomputable def c140 : Go.Code := Go.Ab.bodyOf Go.Proofs.Try.f140
noncomputable def q140_0 : Nat → (AV → List AObj → Prop) → AQ := fun (n : Nat) (Post : AV → List AObj → Prop) => endQ Try.prog (resultsOf Try.f140) Post
noncomputable def q140_1 : Nat → (AV → List AObj → Prop) → AQ := fun (n : Nat) (Post : AV → List AObj → Prop) => seqQ (fun (s' : Slots) (H' : List AObj) => awp Try.prog g140 n (codeSnd (codeSnd (codeSnd c140))) s' H' (q140_0 n Post)) (q140_0 n Post)
noncomputable def q140_2 : Nat → (AV → List AObj → Prop) → AQ := fun (n : Nat) (Post : AV → List AObj → Prop) => blockQ 0 (q140_1 n Post)
noncomputable def c140_3 : Go.Code := codeFst (codeSnd (codeFst (codeSnd (codeSnd c140))))
theorem s140 : ∀ (bs : List UInt8) (tip : Tip) (ns : List Int) (tip2 : Tip) (Post : AV → List AObj → Prop),
  needP (∀ (x : UInt8), List.all (encB x) oneAV = true)
      (needP ((0 + List.length bs) * 1 ≤ 140737488351232)
        (AWP Try.prog 48 0 c140_3
        [(5, AV.sl 1 (Seq.app (Seq.raw []) (Seq.map encB (0 : UInt8) bs)) (Tip.tok 0)), (12, AV.sl 1 (Seq.map encI (0 : Int) ns) tip2),
        (13, AV.int IntKind.i64 (↑(List.length ns) : Int)), (14, AV.int IntKind.i64 (0 : Int))]
        [AObj.tok] (q140_2 0 Post))) →
    ASpec Try.prog 140 [AV.sl 1 (Seq.map encB (0 : UInt8) bs) tip, AV.sl 1 (Seq.map encI (0 : Int) ns) tip2] [] Post := fun bs tip ns tip2 Post h => Go.Ab.ASpec.of_vc g140 Go.Proofs.Try.func140 (by kernel_rfl) (by kernel_rfl) (by kernel_rfl) (Go.Ab.kc (by kernel_rfl) h)
noncomputable def q140_3 : Nat → (AV → List AObj → Prop) → AQ := fun (n : Nat) (Post : AV → List AObj → Prop) => loopQ Try.prog 48 n c140_3 (q140_2 n Post) (Cfg.live g140)
noncomputable def q140_4 : Nat → (AV → List AObj → Prop) → AQ := fun (n : Nat) (Post : AV → List AObj → Prop) => seqQ (fun (s' : Slots) (H' : List AObj) => awp Try.prog g140 n (codeSnd (codeSnd (codeSnd (codeFst c140_3)))) s' H' (q140_3 n Post)) (q140_3 n Post)
noncomputable def q140_5 : Nat → (AV → List AObj → Prop) → AQ := fun (n : Nat) (Post : AV → List AObj → Prop) => blockQ 1 (q140_4 n Post)
noncomputable def q140_6 : Nat → (AV → List AObj → Prop) → AQ := fun (n : Nat) (Post : AV → List AObj → Prop) => seqQ (fun (s' : Slots) (H' : List AObj) => awp Try.prog g140 n (codeSnd (codeSnd (codeSnd (codeSnd (codeFst (codeFst (codeSnd (codeSnd (codeFst c140_3))))))))) s' H' (q140_5 n Post)) (q140_5 n Post)
noncomputable def q140_7 : Nat → (AV → List AObj → Prop) → AQ := fun (n : Nat) (Post : AV → List AObj → Prop) => blockQ 2 (q140_6 n Post)
noncomputable def c140_7 : Go.Code := codeFst (codeFst (codeSnd (codeSnd (codeSnd (codeFst (codeFst (codeSnd (codeSnd (codeFst c140_3)))))))))
theorem v140_3 : ∀ (l : List UInt8) (ns : List Int) (tip2 : Tip) (k : Nat) (i : Int) (n : Nat) (Post : AV → List AObj → Prop),
  condP (decide (i < (↑k : Int)))
      (needP ((0 : Int) ≤ i ∧ i < (↑(List.length ns) : Int))
        (AWP Try.prog 48 n c140_7
        [(5, AV.sl 1 (Seq.map encB (0 : UInt8) l) (Tip.tok 0)),
        (7,
        AV.int IntKind.i64
        (if (1099511627776 : Int) < if (0 : Int) > List.getD ns (Int.toNat i) (0 : Int) then (0 : Int) else List.getD ns (Int.toNat i) (0 : Int) then (1099511627776 : Int)
        else if (0 : Int) > List.getD ns (Int.toNat i) (0 : Int) then (0 : Int) else List.getD ns (Int.toNat i) (0 : Int))),
        (8, AV.int IntKind.i64 (1 : Int)), (12, AV.sl 1 (Seq.map encI (0 : Int) ns) tip2), (13, AV.int IntKind.i64 (↑k : Int)), (14, AV.int IntKind.i64 i)]
        [AObj.tok] (q140_7 n Post)))
      (Post (AV.sl 1 (Seq.map encB (0 : UInt8) l) (Tip.tok 0)) [AObj.tok]) →
    AWP Try.prog 48 n c140_3
      [(5, AV.sl 1 (Seq.map encB (0 : UInt8) l) (Tip.tok 0)), (12, AV.sl 1 (Seq.map encI (0 : Int) ns) tip2), (13, AV.int IntKind.i64 (↑k : Int)),
        (14, AV.int IntKind.i64 i)]
      [AObj.tok] (q140_2 n Post) := fun l ns tip2 k i n Post h => Go.Ab.AWP.loop' g140 (Cfg.live g140) c140_3 (by kernel_rfl) (by kernel_rfl) (Go.Ab.kc (by kernel_rfl) h)
noncomputable def q140_8 : Nat → (AV → List AObj → Prop) → AQ := fun (n : Nat) (Post : AV → List AObj → Prop) => seqQ (fun (s' : Slots) (H' : List AObj) => awp Try.prog g140 n (codeSnd (codeSnd (codeSnd (codeSnd (codeSnd (codeFst (codeFst (codeSnd (codeSnd (codeFst c140_3)))))))))) s' H' (q140_5 n Post)) (q140_5 n Post)
noncomputable def q140_9 : Nat → (AV → List AObj → Prop) → AQ := fun (n : Nat) (Post : AV → List AObj → Prop) => blockQ 4 (q140_8 n Post)
noncomputable def c140_9 : Go.Code := codeFst (codeFst (codeSnd (codeSnd (codeSnd (codeSnd (codeFst (codeFst (codeSnd (codeSnd (codeFst c140_3))))))))))
theorem v140_7 : ∀ (l : List UInt8) (v w : Int) (ns : List Int) (tip2 : Tip) (k : Nat) (i : Int) (n : Nat) (Post : AV → List AObj → Prop),
  needP (w ≠ (0 : Int))
      (condP (decide (IntKind.wrap IntKind.i64 (Int.tdiv v w) ≥ (128 : Int)))
        (AWP Try.prog 48 n c140_7
        [(5, AV.sl 1 (Seq.map encB (0 : UInt8) l) (Tip.tok 0)), (7, AV.int IntKind.i64 v),
        (8, AV.int IntKind.i64 (IntKind.wrap IntKind.i64 (w * (128 : Int)))), (12, AV.sl 1 (Seq.map encI (0 : Int) ns) tip2), (13, AV.int IntKind.i64 (↑k : Int)),
        (14, AV.int IntKind.i64 i)]
        [AObj.tok] (q140_7 n Post))
        (AWP Try.prog 48 n c140_9
        [(5, AV.sl 1 (Seq.map encB (0 : UInt8) l) (Tip.tok 0)), (7, AV.int IntKind.i64 v), (8, AV.int IntKind.i64 w),
        (12, AV.sl 1 (Seq.map encI (0 : Int) ns) tip2), (13, AV.int IntKind.i64 (↑k : Int)), (14, AV.int IntKind.i64 i)]
        [AObj.tok] (q140_9 n Post))) →
    AWP Try.prog 48 n c140_7
      [(5, AV.sl 1 (Seq.map encB (0 : UInt8) l) (Tip.tok 0)), (7, AV.int IntKind.i64 v), (8, AV.int IntKind.i64 w),
        (12, AV.sl 1 (Seq.map encI (0 : Int) ns) tip2), (13, AV.int IntKind.i64 (↑k : Int)), (14, AV.int IntKind.i64 i)]
      [AObj.tok] (q140_7 n Post) := fun l v w ns tip2 k i n Post h => Go.Ab.AWP.loop' g140 (Cfg.live g140) c140_7 (by kernel_rfl) (by kernel_rfl) (Go.Ab.kc (by kernel_rfl) h)
theorem v140_9 : ∀ (l : List UInt8) (v w : Int) (ns : List Int) (tip2 : Tip) (k : Nat) (i : Int) (n : Nat) (Post : AV → List AObj → Prop),
  condP (decide (w > (1 : Int)))
      (needP (w ≠ (0 : Int))
        (needP ((128 : Int) ≠ (0 : Int))
        (needP ((List.length l + 1) * 1 ≤ 140737488351232)
        (needP ((128 : Int) ≠ (0 : Int))
        (AWP Try.prog 48 n c140_9
        [(5,
        AV.sl 1
        (Seq.app (Seq.map encB (0 : UInt8) l)
        (Seq.raw [[AV.int IntKind.u8 (IntKind.wrap IntKind.u8 (IntKind.wrap IntKind.i64 ((128 : Int) + Int.tmod (IntKind.wrap IntKind.i64 (Int.tdiv v w)) (128 : Int))))]]))
        (Tip.tok 1)),
        (7, AV.int IntKind.i64 v), (8, AV.int IntKind.i64 (IntKind.wrap IntKind.i64 (Int.tdiv w (128 : Int)))),
        (12, AV.sl 1 (Seq.map encI (0 : Int) ns) tip2), (13, AV.int IntKind.i64 (↑k : Int)), (14, AV.int IntKind.i64 i)]
        [AObj.gone, AObj.tok] (q140_9 n Post))))))
      (needP ((128 : Int) ≠ (0 : Int))
        (needP ((List.length l + 1) * 1 ≤ 140737488351232)
        (AWP Try.prog 48 n c140_3
        [(5, AV.sl 1 (Seq.app (Seq.map encB (0 : UInt8) l) (Seq.raw [[AV.int IntKind.u8 (IntKind.wrap IntKind.u8 (Int.tmod v (128 : Int)))]])) (Tip.tok 1)),
        (12, AV.sl 1 (Seq.map encI (0 : Int) ns) tip2), (13, AV.int IntKind.i64 (↑k : Int)), (14, AV.int IntKind.i64 (IntKind.wrap IntKind.i64 (i + (1 : Int))))]
        [AObj.gone, AObj.tok] (q140_2 n Post)))) →
    AWP Try.prog 48 n c140_9
      [(5, AV.sl 1 (Seq.map encB (0 : UInt8) l) (Tip.tok 0)), (7, AV.int IntKind.i64 v), (8, AV.int IntKind.i64 w),
        (12, AV.sl 1 (Seq.map encI (0 : Int) ns) tip2), (13, AV.int IntKind.i64 (↑k : Int)), (14, AV.int IntKind.i64 i)]
      [AObj.tok] (q140_9 n Post) := fun l v w ns tip2 k i n Post h => Go.Ab.AWP.loop' g140 (Cfg.live g140) c140_9 (by kernel_rfl) (by kernel_rfl) (Go.Ab.kc (by kernel_rfl) h)

-- 141
noncomputable def l141 : Nat → List Nat
  | _ => []
noncomputable def u141 : Nat → Bool
  | _ => false
noncomputable def m141 : Nat → Bool
  | _ => false
noncomputable def g141 : Cfg := { N := 12, live := l141, cut := u141, mu := m141, ret := rets }
noncomputable def c141 : Go.Code := Go.Ab.bodyOf Go.Proofs.Try.f141
theorem s141 : ∀ (bs : List UInt8) (tip : Tip) (s : ByteArray) (Post : AV → List AObj → Prop),
  (ASpec Try.prog 140 [AV.sl 1 (Seq.map encB (0 : UInt8) bs) tip, AV.sl 1 (Seq.raw [[AV.int IntKind.i64 (↑(ByteArray.size s) : Int)]]) Tip.full] []
      fun (r : AV) (H' : List AObj) =>
      ∃ (x : List UInt8),
        r = AV.sl 1 (Seq.map encB (0 : UInt8) x) (Tip.tok 0) ∧
        H' = [AObj.tok] ∧
        needP (∀ (x : UInt8), List.all (encB x) oneAV = true)
        (needP ((List.length x + Seq.len (bytesSeq s)) * 1 ≤ 140737488351232)
        (Post (AV.sl 1 (Seq.app (Seq.map encB (0 : UInt8) x) (bytesSeq s)) (Tip.tok 1)) [AObj.gone, AObj.tok]))) →
    ASpec Try.prog 141 [AV.sl 1 (Seq.map encB (0 : UInt8) bs) tip, AV.str s] [] Post := fun bs tip s Post h => Go.Ab.ASpec.of_vc g141 Go.Proofs.Try.func141 (by kernel_rfl) (by kernel_rfl) (by kernel_rfl) (Go.Ab.kc (by kernel_rfl) h)

-- 150
noncomputable def l150 : Nat → List Nat
  | 3 => [0, 3]
  | _ => []
noncomputable def u150 : Nat → Bool
  | _ => false
noncomputable def m150 : Nat → Bool
  | _ => false
noncomputable def g150 : Cfg := { N := 25, live := l150, cut := u150, mu := m150, ret := rets }
noncomputable def c150 : Go.Code := Go.Ab.bodyOf Go.Proofs.Try.f150
noncomputable def q150_0 : Nat → (AV → List AObj → Prop) → AQ := fun (n : Nat) (Post : AV → List AObj → Prop) => endQ Try.prog (resultsOf Try.f150) Post
noncomputable def q150_1 : Nat → (AV → List AObj → Prop) → AQ := fun (n : Nat) (Post : AV → List AObj → Prop) => seqQ (fun (s' : Slots) (H' : List AObj) => awp Try.prog g150 n (codeSnd (codeSnd (codeSnd (codeSnd c150)))) s' H' (q150_0 n Post)) (q150_0 n Post)
noncomputable def q150_2 : Nat → (AV → List AObj → Prop) → AQ := fun (n : Nat) (Post : AV → List AObj → Prop) => blockQ 0 (q150_1 n Post)
noncomputable def c150_3 : Go.Code := codeFst (codeFst (codeSnd (codeSnd (codeSnd c150))))
theorem s150 : ∀ (x : Int) (Post : AV → List AObj → Prop),
  needP ((128 : Int) ≠ (0 : Int))
      (needP
        (allBytes
        (Seq.raw
        [[AV.int IntKind.u8
        (IntKind.wrap IntKind.u8
        (Int.tmod (if (1099511627776 : Int) < if (0 : Int) > x then (0 : Int) else x then (1099511627776 : Int) else if (0 : Int) > x then (0 : Int) else x) (128 : Int)))]]))
        (AWP Try.prog 25 0 c150_3
        [(0, AV.int IntKind.i64 (if (1099511627776 : Int) < if (0 : Int) > x then (0 : Int) else x then (1099511627776 : Int) else if (0 : Int) > x then (0 : Int) else x)),
        (3,
        AV.str
        (bytesOf
        (Seq.raw
        [[AV.int IntKind.u8
        (IntKind.wrap IntKind.u8
        (Int.tmod (if (1099511627776 : Int) < if (0 : Int) > x then (0 : Int) else x then (1099511627776 : Int) else if (0 : Int) > x then (0 : Int) else x) (128 : Int)))]])))]
        [] (q150_2 0 Post))) →
    ASpec Try.prog 150 [AV.int IntKind.i64 x] [] Post := fun x Post h => Go.Ab.ASpec.of_vc g150 Go.Proofs.Try.func150 (by kernel_rfl) (by kernel_rfl) (by kernel_rfl) (Go.Ab.kc (by kernel_rfl) h)
theorem v150_3 : ∀ (x : Int) (s : ByteArray) (n : Nat) (Post : AV → List AObj → Prop),
  condP (decide (x ≥ (128 : Int)))
      (needP ((128 : Int) ≠ (0 : Int))
        (needP ((128 : Int) ≠ (0 : Int))
        (needP
        (allBytes (Seq.raw [[AV.int IntKind.u8 (IntKind.wrap IntKind.u8 (IntKind.wrap IntKind.i64 ((128 : Int) + Int.tmod (IntKind.wrap IntKind.i64 (Int.tdiv x (128 : Int))) (128 : Int))))]]))
        (needP
        ((↑(ByteArray.size
        (bytesOf
        (Seq.raw
        [[AV.int IntKind.u8 (IntKind.wrap IntKind.u8 (IntKind.wrap IntKind.i64 ((128 : Int) + Int.tmod (IntKind.wrap IntKind.i64 (Int.tdiv x (128 : Int))) (128 : Int))))]])) +
        ByteArray.size s) :
        Int) ≤
        (9223372036854775807 : Int))
        (AWP Try.prog 25 n c150_3
        [(0, AV.int IntKind.i64 (IntKind.wrap IntKind.i64 (Int.tdiv x (128 : Int)))),
        (3,
        AV.str
        (bytesOf
        (Seq.raw
        [[AV.int IntKind.u8 (IntKind.wrap IntKind.u8 (IntKind.wrap IntKind.i64 ((128 : Int) + Int.tmod (IntKind.wrap IntKind.i64 (Int.tdiv x (128 : Int))) (128 : Int))))]]) ++
        s))]
        [] (q150_2 n Post))))))
      (Post (AV.str s) []) →
    AWP Try.prog 25 n c150_3 [(0, AV.int IntKind.i64 x), (3, AV.str s)] [] (q150_2 n Post) := fun x s n Post h => Go.Ab.AWP.loop' g150 (Cfg.live g150) c150_3 (by kernel_rfl) (by kernel_rfl) (Go.Ab.kc (by kernel_rfl) h)

-- 151
noncomputable def l151 : Nat → List Nat
  | _ => []
noncomputable def u151 : Nat → Bool
  | _ => false
noncomputable def m151 : Nat → Bool
  | _ => false
noncomputable def g151 : Cfg := { N := 8, live := l151, cut := u151, mu := m151, ret := rets }
noncomputable def c151 : Go.Code := Go.Ab.bodyOf Go.Proofs.Try.f151
theorem s151 : ∀ (s : ByteArray) (Post : AV → List AObj → Prop),
  (ASpec Try.prog 150 [AV.int IntKind.i64 (↑(ByteArray.size s) : Int)] [] fun (r : AV) (H' : List AObj) =>
      ∃ (x : ByteArray), r = AV.str x ∧ H' = [] ∧ needP ((↑(ByteArray.size x + ByteArray.size s) : Int) ≤ (9223372036854775807 : Int)) (Post (AV.str (x ++ s)) [])) →
    ASpec Try.prog 151 [AV.str s] [] Post := fun s Post h => Go.Ab.ASpec.of_vc g151 Go.Proofs.Try.func151 (by kernel_rfl) (by kernel_rfl) (by kernel_rfl) (Go.Ab.kc (by kernel_rfl) h)

-- 142
noncomputable def l142 : Nat → List Nat
  | 3 => [3]
  | _ => []
noncomputable def u142 : Nat → Bool
  | 3 => true
  | _ => false
noncomputable def m142 : Nat → Bool
  | _ => true
noncomputable def g142 : Cfg := { N := 13, live := l142, cut := u142, mu := m142, ret := rets }
noncomputable def c142 : Go.Code := Go.Ab.bodyOf Go.Proofs.Try.f142
noncomputable def q142_0 : Nat → (AV → List AObj → Prop) → AQ := fun (n : Nat) (Post : AV → List AObj → Prop) => endQ Try.prog (resultsOf Try.f142) Post
noncomputable def c142_3 : Go.Code := codeSnd (codeSnd (codeSnd c142))
theorem s142 : ∀ (bs : List UInt8) (tip : Tip) (Post : AV → List AObj → Prop),
  needP
      ((0 : Int) ≤ (↑(List.length bs) : Int) ∧
        (↑(List.length bs) : Int) ≤ (↑(List.length bs) : Int) ∧ (↑(List.length bs) : Int) ≤ (9223372036854775807 : Int) ∧ (1 : Int) * (↑(List.length bs) : Int) ≤ (281474976710656 : Int))
      (needP (∀ (x : UInt8), List.all (encB x) oneAV = true)
        (needP
        (0 + List.length bs ≤ List.length (List.replicate (List.length bs) (List.map ofCell (Array.toList (Value.cells (Value.int IntKind.u8 (0 : Int)))))) ∧ List.length bs ≤ List.length bs)
        (AWP Try.prog 13 0 c142_3 [(3, AV.msl 1 0 0 (List.length bs))]
        [AObj.arr 1
        (copied (Seq.raw (List.replicate (List.length bs) (List.map ofCell (Array.toList (Value.cells (Value.int IntKind.u8 (0 : Int))))))) 0 (Seq.map encB (0 : UInt8) bs))]
        (q142_0 0 Post)))) →
    ASpec Try.prog 142 [AV.sl 1 (Seq.map encB (0 : UInt8) bs) tip] [] Post := fun bs tip Post h => Go.Ab.ASpec.of_vc g142 Go.Proofs.Try.func142 (by kernel_rfl) (by kernel_rfl) (by kernel_rfl) (Go.Ab.kc (by kernel_rfl) h)
theorem v142_3 : ∀ (bs : List UInt8) (n : Nat) (Post : AV → List AObj → Prop),
  Post (AV.ptr 0 0) [AObj.cells [AV.sl 1 (Seq.map encB (0 : UInt8) bs) Tip.none, AV.int IntKind.i64 (0 : Int), AV.int IntKind.i64 (0 : Int)]] →
    AWP Try.prog 13 n c142_3 [(3, AV.sl 1 (Seq.map encB (0 : UInt8) bs) Tip.none)] [] (q142_0 n Post) := fun bs n Post h => Go.Ab.awp_sound g142 n _ _ _ _ (Go.Ab.kc (by kernel_rfl) h)

-- 143
noncomputable def l143 : Nat → List Nat
  | _ => []
noncomputable def u143 : Nat → Bool
  | _ => false
noncomputable def m143 : Nat → Bool
  | _ => false
noncomputable def g143 : Cfg := { N := 27, live := l143, cut := u143, mu := m143, ret := rets }
noncomputable def c143 : Go.Code := Go.Ab.bodyOf Go.Proofs.Try.f143
theorem s143 : ∀ (bs : List UInt8) (p e most : Int) (Post : AV → List AObj → Prop),
  condP (e != (0 : Int)) (Post (AV.int IntKind.i64 (0 : Int)) [AObj.cells [AV.sl 1 (Seq.map encB (0 : UInt8) bs) Tip.none, AV.int IntKind.i64 p, AV.int IntKind.i64 e]])
      (ASpec Try.prog 250 [AV.ptr 0 0, AV.int IntKind.i64 most]
        [AObj.cells [AV.sl 1 (Seq.map encB (0 : UInt8) bs) Tip.none, AV.int IntKind.i64 p, AV.int IntKind.i64 e]] fun (r : AV) (H' : List AObj) =>
        ∃ (x : Int × Int × Int × Int),
        r = AV.tup [AV.int IntKind.i64 (Prod.fst x), AV.int IntKind.i64 (Prod.fst (Prod.snd x))] ∧
        H' = [AObj.cells [AV.sl 1 (Seq.map encB (0 : UInt8) bs) Tip.none, AV.int IntKind.i64 (Prod.fst (Prod.snd (Prod.snd x))), AV.int IntKind.i64 (Prod.snd (Prod.snd (Prod.snd x)))]] ∧
        Post (AV.int IntKind.i64 (Prod.fst x))
        [AObj.cells [AV.sl 1 (Seq.map encB (0 : UInt8) bs) Tip.none, AV.int IntKind.i64 (Prod.fst (Prod.snd x)), AV.int IntKind.i64 (Prod.snd (Prod.snd (Prod.snd x)))]]) →
    ASpec Try.prog 143 [AV.ptr 0 0, AV.int IntKind.i64 most] [rd bs p e] Post := fun bs p e most Post h => Go.Ab.ASpec.of_vc g143 Go.Proofs.Try.func143 (by kernel_rfl) (by kernel_rfl) (by kernel_rfl) (Go.Ab.kc (by kernel_rfl) h)
theorem s143n : ∀ (most : Int) (Post : AV → List AObj → Prop), Post (AV.int IntKind.i64 (0 : Int)) [] → ASpec Try.prog 143 [AV.nilp, AV.int IntKind.i64 most] [] Post := fun most Post h => Go.Ab.ASpec.of_vc g143 Go.Proofs.Try.func143 (by kernel_rfl) (by kernel_rfl) (by kernel_rfl) (Go.Ab.kc (by kernel_rfl) h)

-- 145
noncomputable def l145 : Nat → List Nat
  | _ => []
noncomputable def u145 : Nat → Bool
  | _ => false
noncomputable def m145 : Nat → Bool
  | _ => false
noncomputable def g145 : Cfg := { N := 56, live := l145, cut := u145, mu := m145, ret := rets }
noncomputable def c145 : Go.Code := Go.Ab.bodyOf Go.Proofs.Try.f145
theorem s145 : ∀ (bs : List UInt8) (p e most : Int) (Post : AV → List AObj → Prop),
  condP (e != (0 : Int)) (Post (AV.str { data := #[] }) [AObj.cells [AV.sl 1 (Seq.map encB (0 : UInt8) bs) Tip.none, AV.int IntKind.i64 p, AV.int IntKind.i64 e]])
      (ASpec Try.prog 250 [AV.ptr 0 0, AV.int IntKind.i64 most]
        [AObj.cells [AV.sl 1 (Seq.map encB (0 : UInt8) bs) Tip.none, AV.int IntKind.i64 p, AV.int IntKind.i64 e]] fun (r : AV) (H' : List AObj) =>
        ∃ (x : Int × Int × Int × Int),
        r = AV.tup [AV.int IntKind.i64 (Prod.fst x), AV.int IntKind.i64 (Prod.fst (Prod.snd x))] ∧
        H' = [AObj.cells [AV.sl 1 (Seq.map encB (0 : UInt8) bs) Tip.none, AV.int IntKind.i64 (Prod.fst (Prod.snd (Prod.snd x))), AV.int IntKind.i64 (Prod.snd (Prod.snd (Prod.snd x)))]] ∧
        condP (Prod.snd (Prod.snd (Prod.snd x)) != (0 : Int))
        (Post (AV.str { data := #[] })
        [AObj.cells [AV.sl 1 (Seq.map encB (0 : UInt8) bs) Tip.none, AV.int IntKind.i64 (Prod.fst (Prod.snd (Prod.snd x))), AV.int IntKind.i64 (Prod.snd (Prod.snd (Prod.snd x)))]])
        (condP (decide (Prod.fst x > IntKind.wrap IntKind.i64 ((↑(List.length bs) : Int) - Prod.fst (Prod.snd x))))
        (Post (AV.str { data := #[] })
        [AObj.cells [AV.sl 1 (Seq.map encB (0 : UInt8) bs) Tip.none, AV.int IntKind.i64 (Prod.fst (Prod.snd (Prod.snd x))), AV.int IntKind.i64 (2 : Int)]])
        (needP
        ((0 : Int) ≤ Prod.fst (Prod.snd x) ∧
        Prod.fst (Prod.snd x) ≤ IntKind.wrap IntKind.i64 (Prod.fst (Prod.snd x) + Prod.fst x) ∧ IntKind.wrap IntKind.i64 (Prod.fst (Prod.snd x) + Prod.fst x) ≤ (↑(List.length bs) : Int))
        (needP
        (allBytes (Seq.map encB (0 : UInt8) (List.drop (Int.toNat (Prod.fst (Prod.snd x))) (List.take (Int.toNat (IntKind.wrap IntKind.i64 (Prod.fst (Prod.snd x) + Prod.fst x))) bs))))
        (Post
        (AV.str
        (bytesOf
        (Seq.map encB (0 : UInt8) (List.drop (Int.toNat (Prod.fst (Prod.snd x))) (List.take (Int.toNat (IntKind.wrap IntKind.i64 (Prod.fst (Prod.snd x) + Prod.fst x))) bs)))))
        [AObj.cells
        [AV.sl 1 (Seq.map encB (0 : UInt8) bs) Tip.none, AV.int IntKind.i64 (IntKind.wrap IntKind.i64 (Prod.fst (Prod.snd x) + Prod.fst x)),
        AV.int IntKind.i64 (Prod.snd (Prod.snd (Prod.snd x)))]]))))) →
    ASpec Try.prog 145 [AV.ptr 0 0, AV.int IntKind.i64 most] [rd bs p e] Post := fun bs p e most Post h => Go.Ab.ASpec.of_vc g145 Go.Proofs.Try.func145 (by kernel_rfl) (by kernel_rfl) (by kernel_rfl) (Go.Ab.kc (by kernel_rfl) h)
theorem s145n : ∀ (most : Int) (Post : AV → List AObj → Prop), Post (AV.str { data := #[] }) [] → ASpec Try.prog 145 [AV.nilp, AV.int IntKind.i64 most] [] Post := fun most Post h => Go.Ab.ASpec.of_vc g145 Go.Proofs.Try.func145 (by kernel_rfl) (by kernel_rfl) (by kernel_rfl) (Go.Ab.kc (by kernel_rfl) h)

-- 144
noncomputable def l144 : Nat → List Nat
  | _ => []
noncomputable def u144 : Nat → Bool
  | _ => false
noncomputable def m144 : Nat → Bool
  | _ => false
noncomputable def g144 : Cfg := { N := 9, live := l144, cut := u144, mu := m144, ret := rets }
noncomputable def c144 : Go.Code := Go.Ab.bodyOf Go.Proofs.Try.f144
theorem s144 : ∀ (bs : List UInt8) (p e : Int) (Post : AV → List AObj → Prop),
  Post (AV.int IntKind.i64 e) [AObj.cells [AV.sl 1 (Seq.map encB (0 : UInt8) bs) Tip.none, AV.int IntKind.i64 p, AV.int IntKind.i64 e]] →
    ASpec Try.prog 144 [AV.ptr 0 0] [rd bs p e] Post := fun bs p e Post h => Go.Ab.ASpec.of_vc g144 Go.Proofs.Try.func144 (by kernel_rfl) (by kernel_rfl) (by kernel_rfl) (Go.Ab.kc (by kernel_rfl) h)
theorem s144n : ∀ (Post : AV → List AObj → Prop), Post (AV.int IntKind.i64 (1 : Int)) [] → ASpec Try.prog 144 [AV.nilp] [] Post := fun Post h => Go.Ab.ASpec.of_vc g144 Go.Proofs.Try.func144 (by kernel_rfl) (by kernel_rfl) (by kernel_rfl) (Go.Ab.kc (by kernel_rfl) h)

-- 251
noncomputable def l251 : Nat → List Nat
  | _ => []
noncomputable def u251 : Nat → Bool
  | _ => false
noncomputable def m251 : Nat → Bool
  | _ => false
noncomputable def g251 : Cfg := { N := 15, live := l251, cut := u251, mu := m251, ret := rets }
noncomputable def c251 : Go.Code := Go.Ab.bodyOf Go.Proofs.Try.f251
theorem s251 : ∀ (bs : List UInt8) (p e : Int) (Post : AV → List AObj → Prop),
  Post (AV.int IntKind.i64 (IntKind.wrap IntKind.i64 ((↑(List.length bs) : Int) - p)))
      [AObj.cells [AV.sl 1 (Seq.map encB (0 : UInt8) bs) Tip.none, AV.int IntKind.i64 p, AV.int IntKind.i64 e]] →
    ASpec Try.prog 251 [AV.ptr 0 0] [rd bs p e] Post := fun bs p e Post h => Go.Ab.ASpec.of_vc g251 Go.Proofs.Try.func251 (by kernel_rfl) (by kernel_rfl) (by kernel_rfl) (Go.Ab.kc (by kernel_rfl) h)
theorem s251n : ∀ (Post : AV → List AObj → Prop), Post (AV.int IntKind.i64 (0 : Int)) [] → ASpec Try.prog 251 [AV.nilp] [] Post := fun Post h => Go.Ab.ASpec.of_vc g251 Go.Proofs.Try.func251 (by kernel_rfl) (by kernel_rfl) (by kernel_rfl) (Go.Ab.kc (by kernel_rfl) h)

-- 146
noncomputable def l146 : Nat → List Nat
  | _ => []
noncomputable def u146 : Nat → Bool
  | _ => false
noncomputable def m146 : Nat → Bool
  | _ => false
noncomputable def g146 : Cfg := { N := 14, live := l146, cut := u146, mu := m146, ret := rets }
noncomputable def c146 : Go.Code := Go.Ab.bodyOf Go.Proofs.Try.f146
theorem s146 : ∀ (bs : List UInt8) (p e : Int) (Post : AV → List AObj → Prop),
  (ASpec Try.prog 144 [AV.ptr 0 0] [AObj.cells [AV.sl 1 (Seq.map encB (0 : UInt8) bs) Tip.none, AV.int IntKind.i64 p, AV.int IntKind.i64 e]]
      fun (r : AV) (H' : List AObj) =>
      ∃ (x : Int),
        r = AV.int IntKind.i64 x ∧
        H' = [AObj.cells [AV.sl 1 (Seq.map encB (0 : UInt8) bs) Tip.none, AV.int IntKind.i64 p, AV.int IntKind.i64 e]] ∧
        condP (x != (0 : Int)) (Post (AV.int IntKind.i64 x) [AObj.cells [AV.sl 1 (Seq.map encB (0 : UInt8) bs) Tip.none, AV.int IntKind.i64 p, AV.int IntKind.i64 e]])
        (ASpec Try.prog 251 [AV.ptr 0 0] [AObj.cells [AV.sl 1 (Seq.map encB (0 : UInt8) bs) Tip.none, AV.int IntKind.i64 p, AV.int IntKind.i64 e]]
        fun (r : AV) (H' : List AObj) =>
        ∃ (x : Int),
        r = AV.int IntKind.i64 x ∧
        H' = [AObj.cells [AV.sl 1 (Seq.map encB (0 : UInt8) bs) Tip.none, AV.int IntKind.i64 p, AV.int IntKind.i64 e]] ∧
        condP (decide (x > (0 : Int)))
        (Post (AV.int IntKind.i64 (3 : Int)) [AObj.cells [AV.sl 1 (Seq.map encB (0 : UInt8) bs) Tip.none, AV.int IntKind.i64 p, AV.int IntKind.i64 e]])
        (Post (AV.int IntKind.i64 (0 : Int)) [AObj.cells [AV.sl 1 (Seq.map encB (0 : UInt8) bs) Tip.none, AV.int IntKind.i64 p, AV.int IntKind.i64 e]]))) →
    ASpec Try.prog 146 [AV.ptr 0 0] [rd bs p e] Post := fun bs p e Post h => Go.Ab.ASpec.of_vc g146 Go.Proofs.Try.func146 (by kernel_rfl) (by kernel_rfl) (by kernel_rfl) (Go.Ab.kc (by kernel_rfl) h)
theorem s146n : ∀ (Post : AV → List AObj → Prop),
  (ASpec Try.prog 144 [AV.nilp] [] fun (r : AV) (H' : List AObj) =>
      ∃ (x : Int),
        r = AV.int IntKind.i64 x ∧
        H' = [] ∧
        condP (x != (0 : Int)) (Post (AV.int IntKind.i64 x) [])
        (ASpec Try.prog 251 [AV.nilp] [] fun (r : AV) (H' : List AObj) =>
        ∃ (x : Int), r = AV.int IntKind.i64 x ∧ H' = [] ∧ condP (decide (x > (0 : Int))) (Post (AV.int IntKind.i64 (3 : Int)) []) (Post (AV.int IntKind.i64 (0 : Int)) []))) →
    ASpec Try.prog 146 [AV.nilp] [] Post := fun Post h => Go.Ab.ASpec.of_vc g146 Go.Proofs.Try.func146 (by kernel_rfl) (by kernel_rfl) (by kernel_rfl) (Go.Ab.kc (by kernel_rfl) h)

-- 147
noncomputable def l147 : Nat → List Nat
  | _ => []
noncomputable def u147 : Nat → Bool
  | _ => false
noncomputable def m147 : Nat → Bool
  | _ => false
noncomputable def g147 : Cfg := { N := 37, live := l147, cut := u147, mu := m147, ret := rets }
noncomputable def c147 : Go.Code := Go.Ab.bodyOf Go.Proofs.Try.f147
theorem s147 : ∀ (s : ByteArray) (e most : Int) (Post : AV → List AObj → Prop),
  condP (e != (0 : Int)) (Post (AV.int IntKind.i64 (0 : Int)) [AObj.cells [AV.str s, AV.int IntKind.i64 e]])
      (ASpec Try.prog 252 [AV.str s, AV.int IntKind.i64 most] [AObj.cells [AV.str s, AV.int IntKind.i64 e]] fun (r : AV) (H' : List AObj) =>
        ∃ (x : Int × Int × Int),
        r = AV.tup [AV.int IntKind.i64 (Prod.fst x), AV.int IntKind.i64 (Prod.fst (Prod.snd x)), AV.int IntKind.i64 (Prod.snd (Prod.snd x))] ∧
        H' = [AObj.cells [AV.str s, AV.int IntKind.i64 e]] ∧
        needP ((0 : Int) ≤ Prod.fst (Prod.snd x) ∧ Prod.fst (Prod.snd x) ≤ (↑(ByteArray.size s) : Int))
        (Post (AV.int IntKind.i64 (Prod.fst x))
        [AObj.cells [AV.str (ByteArray.extract s (Int.toNat (Prod.fst (Prod.snd x))) (ByteArray.size s)), AV.int IntKind.i64 (Prod.snd (Prod.snd x))]])) →
    ASpec Try.prog 147 [AV.ptr 0 0, AV.int IntKind.i64 most] [AObj.cells [AV.str s, AV.int IntKind.i64 e]] Post := fun s e most Post h => Go.Ab.ASpec.of_vc g147 Go.Proofs.Try.func147 (by kernel_rfl) (by kernel_rfl) (by kernel_rfl) (Go.Ab.kc (by kernel_rfl) h)

-- 148
noncomputable def l148 : Nat → List Nat
  | _ => []
noncomputable def u148 : Nat → Bool
  | _ => false
noncomputable def m148 : Nat → Bool
  | _ => false
noncomputable def g148 : Cfg := { N := 64, live := l148, cut := u148, mu := m148, ret := rets }
noncomputable def c148 : Go.Code := Go.Ab.bodyOf Go.Proofs.Try.f148
theorem s148 : ∀ (s : ByteArray) (e most : Int) (Post : AV → List AObj → Prop),
  condP (e != (0 : Int)) (Post (AV.str { data := #[] }) [AObj.cells [AV.str s, AV.int IntKind.i64 e]])
      (ASpec Try.prog 252 [AV.str s, AV.int IntKind.i64 most] [AObj.cells [AV.str s, AV.int IntKind.i64 e]] fun (r : AV) (H' : List AObj) =>
        ∃ (x : Int × Int × Int),
        r = AV.tup [AV.int IntKind.i64 (Prod.fst x), AV.int IntKind.i64 (Prod.fst (Prod.snd x)), AV.int IntKind.i64 (Prod.snd (Prod.snd x))] ∧
        H' = [AObj.cells [AV.str s, AV.int IntKind.i64 e]] ∧
        condP (Prod.snd (Prod.snd x) == (0 : Int))
        (condP (decide (Prod.fst x > IntKind.wrap IntKind.i64 ((↑(ByteArray.size s) : Int) - Prod.fst (Prod.snd x))))
        (Post (AV.str { data := #[] }) [AObj.cells [AV.str s, AV.int IntKind.i64 (2 : Int)]])
        (condP (Prod.snd (Prod.snd x) != (0 : Int)) (Post (AV.str { data := #[] }) [AObj.cells [AV.str s, AV.int IntKind.i64 (Prod.snd (Prod.snd x))]])
        (needP
        ((0 : Int) ≤ Prod.fst (Prod.snd x) ∧
        Prod.fst (Prod.snd x) ≤ IntKind.wrap IntKind.i64 (Prod.fst (Prod.snd x) + Prod.fst x) ∧
        IntKind.wrap IntKind.i64 (Prod.fst (Prod.snd x) + Prod.fst x) ≤ (↑(ByteArray.size s) : Int))
        (needP ((0 : Int) ≤ IntKind.wrap IntKind.i64 (Prod.fst (Prod.snd x) + Prod.fst x) ∧ IntKind.wrap IntKind.i64 (Prod.fst (Prod.snd x) + Prod.fst x) ≤ (↑(ByteArray.size s) : Int))
        (Post (AV.str (ByteArray.extract s (Int.toNat (Prod.fst (Prod.snd x))) (Int.toNat (IntKind.wrap IntKind.i64 (Prod.fst (Prod.snd x) + Prod.fst x)))))
        [AObj.cells
        [AV.str (ByteArray.extract s (Int.toNat (IntKind.wrap IntKind.i64 (Prod.fst (Prod.snd x) + Prod.fst x))) (ByteArray.size s)),
        AV.int IntKind.i64 (Prod.snd (Prod.snd x))]])))))
        (condP (Prod.snd (Prod.snd x) != (0 : Int)) (Post (AV.str { data := #[] }) [AObj.cells [AV.str s, AV.int IntKind.i64 (Prod.snd (Prod.snd x))]])
        (needP
        ((0 : Int) ≤ Prod.fst (Prod.snd x) ∧
        Prod.fst (Prod.snd x) ≤ IntKind.wrap IntKind.i64 (Prod.fst (Prod.snd x) + Prod.fst x) ∧
        IntKind.wrap IntKind.i64 (Prod.fst (Prod.snd x) + Prod.fst x) ≤ (↑(ByteArray.size s) : Int))
        (needP ((0 : Int) ≤ IntKind.wrap IntKind.i64 (Prod.fst (Prod.snd x) + Prod.fst x) ∧ IntKind.wrap IntKind.i64 (Prod.fst (Prod.snd x) + Prod.fst x) ≤ (↑(ByteArray.size s) : Int))
        (Post (AV.str (ByteArray.extract s (Int.toNat (Prod.fst (Prod.snd x))) (Int.toNat (IntKind.wrap IntKind.i64 (Prod.fst (Prod.snd x) + Prod.fst x)))))
        [AObj.cells
        [AV.str (ByteArray.extract s (Int.toNat (IntKind.wrap IntKind.i64 (Prod.fst (Prod.snd x) + Prod.fst x))) (ByteArray.size s)),
        AV.int IntKind.i64 (Prod.snd (Prod.snd x))]]))))) →
    ASpec Try.prog 148 [AV.ptr 0 0, AV.int IntKind.i64 most] [AObj.cells [AV.str s, AV.int IntKind.i64 e]] Post := fun s e most Post h => Go.Ab.ASpec.of_vc g148 Go.Proofs.Try.func148 (by kernel_rfl) (by kernel_rfl) (by kernel_rfl) (Go.Ab.kc (by kernel_rfl) h)

-- 149
noncomputable def l149 : Nat → List Nat
  | _ => []
noncomputable def u149 : Nat → Bool
  | _ => false
noncomputable def m149 : Nat → Bool
  | _ => false
noncomputable def g149 : Cfg := { N := 19, live := l149, cut := u149, mu := m149, ret := rets }
noncomputable def c149 : Go.Code := Go.Ab.bodyOf Go.Proofs.Try.f149
theorem s149 : ∀ (s : ByteArray) (e : Int) (Post : AV → List AObj → Prop),
  condP (e == (0 : Int))
      (condP (!ByteArray.toList s == ByteArray.toList { data := #[] }) (Post (AV.int IntKind.i64 (3 : Int)) [AObj.cells [AV.str s, AV.int IntKind.i64 e]])
        (Post (AV.int IntKind.i64 e) [AObj.cells [AV.str s, AV.int IntKind.i64 e]]))
      (Post (AV.int IntKind.i64 e) [AObj.cells [AV.str s, AV.int IntKind.i64 e]]) →
    ASpec Try.prog 149 [AV.ptr 0 0] [AObj.cells [AV.str s, AV.int IntKind.i64 e]] Post := fun s e Post h => Go.Ab.ASpec.of_vc g149 Go.Proofs.Try.func149 (by kernel_rfl) (by kernel_rfl) (by kernel_rfl) (Go.Ab.kc (by kernel_rfl) h)

-- 250
noncomputable def l250 : Nat → List Nat
  | 9 => [0, 1, 6, 44]
  | _ => []
noncomputable def u250 : Nat → Bool
  | _ => false
noncomputable def m250 : Nat → Bool
  | _ => false
noncomputable def g250 : Cfg := { N := 113, live := l250, cut := u250, mu := m250, ret := rets }
noncomputable def c250 : Go.Code := Go.Ab.bodyOf Go.Proofs.Try.f250
noncomputable def q250_0 : Nat → (AV → List AObj → Prop) → AQ := fun (n : Nat) (Post : AV → List AObj → Prop) => endQ Try.prog (resultsOf Try.f250) Post
noncomputable def q250_1 : Nat → (AV → List AObj → Prop) → AQ := fun (n : Nat) (Post : AV → List AObj → Prop) => seqQ (fun (s' : Slots) (H' : List AObj) => awp Try.prog g250 n (codeSnd (codeSnd (codeSnd (codeSnd (codeSnd c250))))) s' H' (q250_0 n Post)) (q250_0 n Post)
noncomputable def q250_2 : Nat → (AV → List AObj → Prop) → AQ := fun (n : Nat) (Post : AV → List AObj → Prop) => blockQ 0 (q250_1 n Post)
noncomputable def c250_9 : Go.Code := codeFst (codeSnd (codeFst (codeSnd (codeSnd (codeSnd (codeSnd c250))))))
theorem s250 : ∀ (bs : List UInt8) (p e most : Int) (Post : AV → List AObj → Prop),
  condP (p == (↑(List.length bs) : Int))
      ((AV.int IntKind.i64 p = AV.int IntKind.i64 p ∧
        [AObj.cells [AV.sl 1 (Seq.map encB (0 : UInt8) bs) Tip.none, AV.int IntKind.i64 p, AV.int IntKind.i64 (2 : Int)]] =
        [AObj.cells [AV.sl 1 (Seq.map encB (0 : UInt8) bs) Tip.none, AV.int IntKind.i64 p, AV.int IntKind.i64 (2 : Int)]]) ∧
        Post (AV.tup [AV.int IntKind.i64 (0 : Int), AV.int IntKind.i64 p]) [AObj.cells [AV.sl 1 (Seq.map encB (0 : UInt8) bs) Tip.none, AV.int IntKind.i64 p, AV.int IntKind.i64 (2 : Int)]])
      (needP ((0 : Int) ≤ p ∧ p < (↑(List.length bs) : Int))
        (condP ((↑(UInt8.toNat (List.getD bs (Int.toNat p) (0 : UInt8))) : Int) == (128 : Int))
        ((AV.int IntKind.i64 p = AV.int IntKind.i64 p ∧
        [AObj.cells [AV.sl 1 (Seq.map encB (0 : UInt8) bs) Tip.none, AV.int IntKind.i64 p, AV.int IntKind.i64 (3 : Int)]] =
        [AObj.cells [AV.sl 1 (Seq.map encB (0 : UInt8) bs) Tip.none, AV.int IntKind.i64 p, AV.int IntKind.i64 (3 : Int)]]) ∧
        Post (AV.tup [AV.int IntKind.i64 (0 : Int), AV.int IntKind.i64 p])
        [AObj.cells [AV.sl 1 (Seq.map encB (0 : UInt8) bs) Tip.none, AV.int IntKind.i64 p, AV.int IntKind.i64 (3 : Int)]])
        (AWP Try.prog 113 1 c250_9
        [(0, AV.ptr 0 0), (1, AV.int IntKind.i64 most), (6, AV.int IntKind.i64 (0 : Int)), (44, AV.int IntKind.i64 (0 : Int))]
        [AObj.cells [AV.sl 1 (Seq.map encB (0 : UInt8) bs) Tip.none, AV.int IntKind.i64 p, AV.int IntKind.i64 e]] (q250_2 1 Post)))) →
    ASpec Try.prog 250 [AV.ptr 0 0, AV.int IntKind.i64 most] [rd bs p e] Post := fun bs p e most Post h => Go.Ab.ASpec.of_vc g250 Go.Proofs.Try.func250 (by kernel_rfl) (by kernel_rfl) (by kernel_rfl) (Go.Ab.kc (by kernel_rfl) h)
theorem v250_9 : ∀ (bs : List UInt8) (p e most x i : Int) (n : Nat) (Post : AV → List AObj → Prop),
  condP (decide (i < (6 : Int)))
      (condP (IntKind.wrap IntKind.i64 (p + i) == (↑(List.length bs) : Int))
        ((AV.int IntKind.i64 p = AV.int IntKind.i64 p ∧
        [AObj.cells [AV.sl 1 (Seq.map encB (0 : UInt8) bs) Tip.none, AV.int IntKind.i64 p, AV.int IntKind.i64 (2 : Int)]] =
        [AObj.cells [AV.sl 1 (Seq.map encB (0 : UInt8) bs) Tip.none, AV.int IntKind.i64 p, AV.int IntKind.i64 (2 : Int)]]) ∧
        Post (AV.tup [AV.int IntKind.i64 (0 : Int), AV.int IntKind.i64 p]) [AObj.cells [AV.sl 1 (Seq.map encB (0 : UInt8) bs) Tip.none, AV.int IntKind.i64 p, AV.int IntKind.i64 (2 : Int)]])
        (needP ((0 : Int) ≤ IntKind.wrap IntKind.i64 (p + i) ∧ IntKind.wrap IntKind.i64 (p + i) < (↑(List.length bs) : Int))
        (needP ((128 : Int) ≠ (0 : Int))
        (condP (decide (IntKind.wrap IntKind.i64 (↑(UInt8.toNat (List.getD bs (Int.toNat (IntKind.wrap IntKind.i64 (p + i))) (0 : UInt8))) : Int) ≥ (128 : Int)))
        (AWP Try.prog 113 n c250_9
        [(0, AV.ptr 0 0), (1, AV.int IntKind.i64 most),
        (6,
        AV.int IntKind.i64
        (IntKind.wrap IntKind.i64
        (IntKind.wrap IntKind.i64 (x * (128 : Int)) +
        Int.tmod (IntKind.wrap IntKind.i64 (↑(UInt8.toNat (List.getD bs (Int.toNat (IntKind.wrap IntKind.i64 (p + i))) (0 : UInt8))) : Int)) (128 : Int)))),
        (44, AV.int IntKind.i64 (IntKind.wrap IntKind.i64 (i + (1 : Int))))]
        [AObj.cells [AV.sl 1 (Seq.map encB (0 : UInt8) bs) Tip.none, AV.int IntKind.i64 p, AV.int IntKind.i64 e]] (q250_2 n Post))
        (condP
        (decide
        (IntKind.wrap IntKind.i64
        (IntKind.wrap IntKind.i64 (x * (128 : Int)) +
        Int.tmod (IntKind.wrap IntKind.i64 (↑(UInt8.toNat (List.getD bs (Int.toNat (IntKind.wrap IntKind.i64 (p + i))) (0 : UInt8))) : Int)) (128 : Int)) >
        if (1099511627776 : Int) < most then (1099511627776 : Int) else most))
        ((AV.int IntKind.i64 p = AV.int IntKind.i64 p ∧
        [AObj.cells [AV.sl 1 (Seq.map encB (0 : UInt8) bs) Tip.none, AV.int IntKind.i64 p, AV.int IntKind.i64 (4 : Int)]] =
        [AObj.cells [AV.sl 1 (Seq.map encB (0 : UInt8) bs) Tip.none, AV.int IntKind.i64 p, AV.int IntKind.i64 (4 : Int)]]) ∧
        Post (AV.tup [AV.int IntKind.i64 (0 : Int), AV.int IntKind.i64 p])
        [AObj.cells [AV.sl 1 (Seq.map encB (0 : UInt8) bs) Tip.none, AV.int IntKind.i64 p, AV.int IntKind.i64 (4 : Int)]])
        ((AV.int IntKind.i64 p = AV.int IntKind.i64 p ∧
        [AObj.cells [AV.sl 1 (Seq.map encB (0 : UInt8) bs) Tip.none, AV.int IntKind.i64 p, AV.int IntKind.i64 e]] =
        [AObj.cells [AV.sl 1 (Seq.map encB (0 : UInt8) bs) Tip.none, AV.int IntKind.i64 p, AV.int IntKind.i64 e]]) ∧
        Post
        (AV.tup
        [AV.int IntKind.i64
        (IntKind.wrap IntKind.i64
        (IntKind.wrap IntKind.i64 (x * (128 : Int)) +
        Int.tmod (IntKind.wrap IntKind.i64 (↑(UInt8.toNat (List.getD bs (Int.toNat (IntKind.wrap IntKind.i64 (p + i))) (0 : UInt8))) : Int)) (128 : Int))),
        AV.int IntKind.i64 (IntKind.wrap IntKind.i64 (IntKind.wrap IntKind.i64 (p + i) + (1 : Int)))])
        [AObj.cells [AV.sl 1 (Seq.map encB (0 : UInt8) bs) Tip.none, AV.int IntKind.i64 p, AV.int IntKind.i64 e]]))))))
      ((AV.int IntKind.i64 p = AV.int IntKind.i64 p ∧
        [AObj.cells [AV.sl 1 (Seq.map encB (0 : UInt8) bs) Tip.none, AV.int IntKind.i64 p, AV.int IntKind.i64 (4 : Int)]] =
        [AObj.cells [AV.sl 1 (Seq.map encB (0 : UInt8) bs) Tip.none, AV.int IntKind.i64 p, AV.int IntKind.i64 (4 : Int)]]) ∧
        Post (AV.tup [AV.int IntKind.i64 (0 : Int), AV.int IntKind.i64 p]) [AObj.cells [AV.sl 1 (Seq.map encB (0 : UInt8) bs) Tip.none, AV.int IntKind.i64 p, AV.int IntKind.i64 (4 : Int)]]) →
    AWP Try.prog 113 n c250_9 [(0, AV.ptr 0 0), (1, AV.int IntKind.i64 most), (6, AV.int IntKind.i64 x), (44, AV.int IntKind.i64 i)] [rd bs p e]
      (q250_2 n Post) := fun bs p e most x i n Post h => Go.Ab.AWP.loop' g250 (Cfg.live g250) c250_9 (by kernel_rfl) (by kernel_rfl) (Go.Ab.kc (by kernel_rfl) h)

-- 252
noncomputable def l252 : Nat → List Nat
  | 6 => [0, 1, 7]
  | 14 => [0, 1, 7, 8, 9]
  | _ => []
noncomputable def u252 : Nat → Bool
  | _ => false
noncomputable def m252 : Nat → Bool
  | _ => false
noncomputable def g252 : Cfg := { N := 60, live := l252, cut := u252, mu := m252, ret := rets }
noncomputable def c252 : Go.Code := Go.Ab.bodyOf Go.Proofs.Try.f252
noncomputable def q252_0 : Nat → (AV → List AObj → Prop) → AQ := fun (n : Nat) (Post : AV → List AObj → Prop) => endQ Try.prog (resultsOf Try.f252) Post
noncomputable def q252_1 : Nat → (AV → List AObj → Prop) → AQ := fun (n : Nat) (Post : AV → List AObj → Prop) => seqQ (fun (s' : Slots) (H' : List AObj) => awp Try.prog g252 n (codeSnd (codeSnd (codeSnd (codeSnd (codeSnd c252))))) s' H' (q252_0 n Post)) (q252_0 n Post)
noncomputable def q252_2 : Nat → (AV → List AObj → Prop) → AQ := fun (n : Nat) (Post : AV → List AObj → Prop) => blockQ 0 (q252_1 n Post)
noncomputable def c252_6 : Go.Code := codeFst (codeFst (codeSnd (codeSnd (codeSnd (codeSnd c252)))))
theorem s252 : ∀ (s : ByteArray) (most : Int) (Post : AV → List AObj → Prop),
  condP (ByteArray.toList s == ByteArray.toList { data := #[] }) (Post (AV.tup [AV.int IntKind.i64 (0 : Int), AV.int IntKind.i64 (0 : Int), AV.int IntKind.i64 (2 : Int)]) [])
      (needP ((0 : Int) ≤ (0 : Int) ∧ (0 : Int) < (↑(ByteArray.size s) : Int))
        (condP ((↑(UInt8.toNat (List.getD (Array.toList (ByteArray.data s)) 0 (0 : UInt8))) : Int) == (128 : Int))
        (Post (AV.tup [AV.int IntKind.i64 (0 : Int), AV.int IntKind.i64 (0 : Int), AV.int IntKind.i64 (3 : Int)]) [])
        (AWP Try.prog 60 0 c252_6 [(0, AV.str s), (1, AV.int IntKind.i64 most), (7, AV.int IntKind.i64 (0 : Int))] [] (q252_2 0 Post)))) →
    ASpec Try.prog 252 [AV.str s, AV.int IntKind.i64 most] [] Post := fun s most Post h => Go.Ab.ASpec.of_vc g252 Go.Proofs.Try.func252 (by kernel_rfl) (by kernel_rfl) (by kernel_rfl) (Go.Ab.kc (by kernel_rfl) h)
noncomputable def q252_3 : Nat → (AV → List AObj → Prop) → AQ := fun (n : Nat) (Post : AV → List AObj → Prop) => seqQ (fun (s' : Slots) (H' : List AObj) => awp Try.prog g252 n (codeSnd (codeSnd (codeSnd (codeSnd (codeSnd (codeSnd (codeSnd (codeSnd (codeSnd c252))))))))) s' H' (q252_0 n Post)) (q252_0 n Post)
noncomputable def q252_4 : Nat → (AV → List AObj → Prop) → AQ := fun (n : Nat) (Post : AV → List AObj → Prop) => blockQ 2 (q252_3 n Post)
noncomputable def c252_14 : Go.Code := codeFst (codeSnd (codeFst (codeSnd (codeSnd (codeSnd (codeSnd (codeSnd (codeSnd (codeSnd (codeSnd c252))))))))))
theorem v252_6 : ∀ (s : ByteArray) (most k : Int) (n : Nat) (Post : AV → List AObj → Prop),
  condP (decide (k < (↑(ByteArray.size s) : Int)))
      (condP (decide (k < (6 : Int)))
        (needP ((0 : Int) ≤ k ∧ k < (↑(ByteArray.size s) : Int))
        (condP (decide ((↑(UInt8.toNat (List.getD (Array.toList (ByteArray.data s)) (Int.toNat k) (0 : UInt8))) : Int) ≥ (128 : Int)))
        (AWP Try.prog 60 n c252_6 [(0, AV.str s), (1, AV.int IntKind.i64 most), (7, AV.int IntKind.i64 (IntKind.wrap IntKind.i64 (k + (1 : Int))))] []
        (q252_2 n Post))
        (condP (k == (6 : Int)) (Post (AV.tup [AV.int IntKind.i64 (0 : Int), AV.int IntKind.i64 (0 : Int), AV.int IntKind.i64 (4 : Int)]) [])
        (condP (k == (↑(ByteArray.size s) : Int)) (Post (AV.tup [AV.int IntKind.i64 (0 : Int), AV.int IntKind.i64 (0 : Int), AV.int IntKind.i64 (2 : Int)]) [])
        (AWP Try.prog 60 n c252_14
        [(0, AV.str s), (1, AV.int IntKind.i64 most), (7, AV.int IntKind.i64 k), (8, AV.int IntKind.i64 (0 : Int)), (9, AV.int IntKind.i64 (0 : Int))]
        [] (q252_4 n Post))))))
        (condP (k == (6 : Int)) (Post (AV.tup [AV.int IntKind.i64 (0 : Int), AV.int IntKind.i64 (0 : Int), AV.int IntKind.i64 (4 : Int)]) [])
        (condP (k == (↑(ByteArray.size s) : Int)) (Post (AV.tup [AV.int IntKind.i64 (0 : Int), AV.int IntKind.i64 (0 : Int), AV.int IntKind.i64 (2 : Int)]) [])
        (AWP Try.prog 60 n c252_14
        [(0, AV.str s), (1, AV.int IntKind.i64 most), (7, AV.int IntKind.i64 k), (8, AV.int IntKind.i64 (0 : Int)), (9, AV.int IntKind.i64 (0 : Int))] []
        (q252_4 n Post)))))
      (condP (k == (6 : Int)) (Post (AV.tup [AV.int IntKind.i64 (0 : Int), AV.int IntKind.i64 (0 : Int), AV.int IntKind.i64 (4 : Int)]) [])
        (condP (k == (↑(ByteArray.size s) : Int)) (Post (AV.tup [AV.int IntKind.i64 (0 : Int), AV.int IntKind.i64 (0 : Int), AV.int IntKind.i64 (2 : Int)]) [])
        (AWP Try.prog 60 n c252_14
        [(0, AV.str s), (1, AV.int IntKind.i64 most), (7, AV.int IntKind.i64 k), (8, AV.int IntKind.i64 (0 : Int)), (9, AV.int IntKind.i64 (0 : Int))] []
        (q252_4 n Post)))) →
    AWP Try.prog 60 n c252_6 [(0, AV.str s), (1, AV.int IntKind.i64 most), (7, AV.int IntKind.i64 k)] [] (q252_2 n Post) := fun s most k n Post h => Go.Ab.AWP.loop' g252 (Cfg.live g252) c252_6 (by kernel_rfl) (by kernel_rfl) (Go.Ab.kc (by kernel_rfl) h)
theorem v252_14 : ∀ (s : ByteArray) (most k x i : Int) (n : Nat) (Post : AV → List AObj → Prop),
  condP (decide (i ≤ k))
      (needP ((0 : Int) ≤ i ∧ i < (↑(ByteArray.size s) : Int))
        (needP ((128 : Int) ≠ (0 : Int))
        (AWP Try.prog 60 n c252_14
        [(0, AV.str s), (1, AV.int IntKind.i64 most), (7, AV.int IntKind.i64 k),
        (8,
        AV.int IntKind.i64
        (IntKind.wrap IntKind.i64
        (IntKind.wrap IntKind.i64 (x * (128 : Int)) +
        IntKind.wrap IntKind.i64 (Int.tmod (↑(UInt8.toNat (List.getD (Array.toList (ByteArray.data s)) (Int.toNat i) (0 : UInt8))) : Int) (128 : Int))))),
        (9, AV.int IntKind.i64 (IntKind.wrap IntKind.i64 (i + (1 : Int))))]
        [] (q252_4 n Post))))
      (condP (decide (x > (1099511627776 : Int))) (Post (AV.tup [AV.int IntKind.i64 (0 : Int), AV.int IntKind.i64 (0 : Int), AV.int IntKind.i64 (4 : Int)]) [])
        (condP (decide (x > most)) (Post (AV.tup [AV.int IntKind.i64 (0 : Int), AV.int IntKind.i64 (0 : Int), AV.int IntKind.i64 (4 : Int)]) [])
        (Post (AV.tup [AV.int IntKind.i64 x, AV.int IntKind.i64 (IntKind.wrap IntKind.i64 (k + (1 : Int))), AV.int IntKind.i64 (0 : Int)]) []))) →
    AWP Try.prog 60 n c252_14
      [(0, AV.str s), (1, AV.int IntKind.i64 most), (7, AV.int IntKind.i64 k), (8, AV.int IntKind.i64 x), (9, AV.int IntKind.i64 i)] [] (q252_4 n Post) := fun s most k x i n Post h => Go.Ab.AWP.loop' g252 (Cfg.live g252) c252_14 (by kernel_rfl) (by kernel_rfl) (Go.Ab.kc (by kernel_rfl) h)

end
end V
end

section
/- Spans, needs, releases and manifests as cells. -/

open Go Go.Ab Go.Proofs
namespace T
abbrev Span := Int × Int
abbrev Need := List UInt8 × List Span
abbrev Rel := Int × List Need
abbrev Mani := List UInt8 × List Rel
noncomputable def encS (x : Span) : List AV := [.int .i64 x.1, .int .i64 x.2]
noncomputable def encN (x : Need) : List AV := [.str ⟨x.1.toArray⟩, .sl 2 (.map encS (0, 0) x.2) .none]
noncomputable def encR (x : Rel) : List AV := [.int .i64 x.1, .sl 2 (.map encN ([], []) x.2) .none]
noncomputable def encM (x : Mani) : List AV := [.str ⟨x.1.toArray⟩, .sl 2 (.map encR (0, []) x.2) .none]
end T
end

section
/- Printed: what the code of functions 256, 285, 232, 239, 185, 186, 231, 130, 66, 163, 173, 62 asks for, by the framework's own reading of it; each line is checked against the code. -/

set_option linter.unusedVariables false
set_option maxRecDepth 100000
set_option maxHeartbeats 4000000
open Go Go.Ab Go.Proofs
namespace C
noncomputable section

noncomputable def retC : List (Nat × Ret) := [
  (39, ⟨Bool, fun _ _ x => .bool x, fun _ H _ => H⟩), (66, ⟨Bool, fun _ _ x => .bool x, fun _ H _ => H⟩), (62, ⟨Bool, fun _ _ x => .bool x, fun _ H _ => H⟩), (186, ⟨Bool, fun _ _ x => .bool x, fun _ H _ => H⟩),
  (154, ⟨Bool, fun _ _ x => .bool x, fun _ H _ => H⟩), (130, ⟨Bool, fun _ _ x => .bool x, fun _ H _ => H⟩), (185, ⟨Bool, fun _ _ x => .bool x, fun _ H _ => H⟩), (173, ⟨Bool, fun _ _ x => .bool x, fun _ H _ => H⟩),
  (231, ⟨Bool, fun _ _ x => .bool x, fun _ H _ => H⟩), (239, ⟨Bool, fun _ _ x => .bool x, fun _ H _ => H⟩), (163, ⟨Bool, fun _ _ x => .bool x, fun _ H _ => H⟩), (232, ⟨Bool, fun _ _ x => .bool x, fun _ H _ => H⟩),
  (285, ⟨Bool, fun _ _ x => .bool x, fun _ H _ => H⟩), (256, ⟨Bool, fun _ _ x => .bool x, fun _ H _ => H⟩)]
noncomputable def rets : FuncId → List Ret := lookupR (retC ++ V.retL)

-- 256
noncomputable def l256 : Nat → List Nat
  | 3 => [3, 6, 7, 8]
  | _ => []
noncomputable def u256 : Nat → Bool
  | _ => false
noncomputable def m256 : Nat → Bool
  | _ => false
noncomputable def g256 : Cfg := { N := 31, live := l256, cut := u256, mu := m256, ret := rets }
noncomputable def c256 : Go.Code := Go.Ab.bodyOf Go.Proofs.Try.f256
noncomputable def q256_0 : Nat → (AV → List AObj → Prop) → AQ := fun (n : Nat) (Post : AV → List AObj → Prop) => endQ Try.prog (resultsOf Try.f256) Post
noncomputable def q256_1 : Nat → (AV → List AObj → Prop) → AQ := fun (n : Nat) (Post : AV → List AObj → Prop) => seqQ (fun (s' : Slots) (H' : List AObj) => awp Try.prog g256 n (codeSnd (codeSnd (codeSnd c256))) s' H' (q256_0 n Post)) (q256_0 n Post)
noncomputable def q256_2 : Nat → (AV → List AObj → Prop) → AQ := fun (n : Nat) (Post : AV → List AObj → Prop) => blockQ 0 (q256_1 n Post)
noncomputable def c256_3 : Go.Code := codeFst (codeSnd (codeFst (codeSnd (codeSnd c256))))
theorem s256 : ∀ (l : List T.Span) (Post : AV → List AObj → Prop),
  AWP Try.prog 31 0 c256_3
      [(3, AV.int IntKind.i64 (-1 : Int)), (6, AV.sl 2 (Seq.map T.encS ((0 : Int), (0 : Int)) l) Tip.none), (7, AV.int IntKind.i64 (↑(List.length l) : Int)),
        (8, AV.int IntKind.i64 (0 : Int))]
      [] (q256_2 0 Post) →
    ASpec Try.prog 256 [AV.sl 2 (Seq.map T.encS ((0 : Int), (0 : Int)) l) Tip.none] [] Post := fun l Post h => Go.Ab.ASpec.of_vc g256 Go.Proofs.Try.func256 (by kernel_rfl) (by kernel_rfl) (by kernel_rfl) (Go.Ab.kc (by kernel_rfl) h)
theorem v256_3 : ∀ (l : List T.Span) (e n i : Int) (n_1 : Nat) (Post : AV → List AObj → Prop),
  condP (decide (i < n))
      (needP ((0 : Int) ≤ i ∧ i < (↑(List.length l) : Int))
        (condP (decide (Prod.fst (List.getD l (Int.toNat i) ((0 : Int), (0 : Int))) ≤ e))
        (Post (AV.bool false)
        [AObj.cells [AV.int IntKind.i64 (Prod.fst (List.getD l (Int.toNat i) ((0 : Int), (0 : Int)))), AV.int IntKind.i64 (Prod.snd (List.getD l (Int.toNat i) ((0 : Int), (0 : Int))))]])
        (condP (decide (Prod.fst (List.getD l (Int.toNat i) ((0 : Int), (0 : Int))) ≥ Prod.snd (List.getD l (Int.toNat i) ((0 : Int), (0 : Int)))))
        (Post (AV.bool false)
        [AObj.cells [AV.int IntKind.i64 (Prod.fst (List.getD l (Int.toNat i) ((0 : Int), (0 : Int)))), AV.int IntKind.i64 (Prod.snd (List.getD l (Int.toNat i) ((0 : Int), (0 : Int))))]])
        (condP (decide (Prod.snd (List.getD l (Int.toNat i) ((0 : Int), (0 : Int))) > (1000000000 : Int)))
        (Post (AV.bool false)
        [AObj.cells [AV.int IntKind.i64 (Prod.fst (List.getD l (Int.toNat i) ((0 : Int), (0 : Int)))), AV.int IntKind.i64 (Prod.snd (List.getD l (Int.toNat i) ((0 : Int), (0 : Int))))]])
        (AWP Try.prog 31 n_1 c256_3
        [(3, AV.int IntKind.i64 (Prod.snd (List.getD l (Int.toNat i) ((0 : Int), (0 : Int))))), (6, AV.sl 2 (Seq.map T.encS ((0 : Int), (0 : Int)) l) Tip.none),
        (7, AV.int IntKind.i64 n), (8, AV.int IntKind.i64 (IntKind.wrap IntKind.i64 (i + (1 : Int))))]
        [AObj.cells [AV.int IntKind.i64 (Prod.fst (List.getD l (Int.toNat i) ((0 : Int), (0 : Int)))), AV.int IntKind.i64 (Prod.snd (List.getD l (Int.toNat i) ((0 : Int), (0 : Int))))]]
        (q256_2 n_1 Post))))))
      (Post (AV.bool true) []) →
    AWP Try.prog 31 n_1 c256_3
      [(3, AV.int IntKind.i64 e), (6, AV.sl 2 (Seq.map T.encS ((0 : Int), (0 : Int)) l) Tip.none), (7, AV.int IntKind.i64 n), (8, AV.int IntKind.i64 i)] []
      (q256_2 n_1 Post) := fun l e n i n Post h => Go.Ab.AWP.loop' g256 (Cfg.live g256) c256_3 (by kernel_rfl) (by kernel_rfl) (Go.Ab.kc (by kernel_rfl) h)

-- 285
noncomputable def l285 : Nat → List Nat
  | 2 => [0, 3]
  | _ => []
noncomputable def u285 : Nat → Bool
  | _ => false
noncomputable def m285 : Nat → Bool
  | _ => false
noncomputable def g285 : Cfg := { N := 55, live := l285, cut := u285, mu := m285, ret := rets }
noncomputable def c285 : Go.Code := Go.Ab.bodyOf Go.Proofs.Try.f285
noncomputable def q285_0 : Nat → (AV → List AObj → Prop) → AQ := fun (n : Nat) (Post : AV → List AObj → Prop) => endQ Try.prog (resultsOf Try.f285) Post
noncomputable def q285_1 : Nat → (AV → List AObj → Prop) → AQ := fun (n : Nat) (Post : AV → List AObj → Prop) => seqQ (fun (s' : Slots) (H' : List AObj) => awp Try.prog g285 n (codeSnd (codeSnd c285)) s' H' (q285_0 n Post)) (q285_0 n Post)
noncomputable def q285_2 : Nat → (AV → List AObj → Prop) → AQ := fun (n : Nat) (Post : AV → List AObj → Prop) => blockQ 0 (q285_1 n Post)
noncomputable def c285_2 : Go.Code := codeFst (codeSnd (codeFst (codeSnd c285)))
theorem s285 : ∀ (l : List T.Span) (Post : AV → List AObj → Prop),
  AWP Try.prog 55 0 c285_2 [(0, AV.sl 2 (Seq.map T.encS ((0 : Int), (0 : Int)) l) Tip.none), (3, AV.int IntKind.i64 (0 : Int))] [] (q285_2 0 Post) →
    ASpec Try.prog 285 [AV.sl 2 (Seq.map T.encS ((0 : Int), (0 : Int)) l) Tip.none] [] Post := fun l Post h => Go.Ab.ASpec.of_vc g285 Go.Proofs.Try.func285 (by kernel_rfl) (by kernel_rfl) (by kernel_rfl) (Go.Ab.kc (by kernel_rfl) h)
theorem v285_2 : ∀ (l : List T.Span) (i : Int) (n : Nat) (Post : AV → List AObj → Prop),
  condP (decide (i < (↑(List.length l) : Int)))
      (needP ((0 : Int) ≤ i ∧ i < (↑(List.length l) : Int))
        (condP (decide (Prod.fst (List.getD l (Int.toNat i) ((0 : Int), (0 : Int))) < (0 : Int))) (Post (AV.bool false) [])
        (needP ((0 : Int) ≤ i ∧ i < (↑(List.length l) : Int))
        (condP (decide (Prod.snd (List.getD l (Int.toNat i) ((0 : Int), (0 : Int))) > (1000000000 : Int))) (Post (AV.bool false) [])
        (needP ((0 : Int) ≤ i ∧ i < (↑(List.length l) : Int))
        (needP ((0 : Int) ≤ i ∧ i < (↑(List.length l) : Int))
        (condP (decide (Prod.fst (List.getD l (Int.toNat i) ((0 : Int), (0 : Int))) ≥ Prod.snd (List.getD l (Int.toNat i) ((0 : Int), (0 : Int))))) (Post (AV.bool false) [])
        (condP (decide (i > (0 : Int)))
        (needP ((0 : Int) ≤ i ∧ i < (↑(List.length l) : Int))
        (needP ((0 : Int) ≤ IntKind.wrap IntKind.i64 (i - (1 : Int)) ∧ IntKind.wrap IntKind.i64 (i - (1 : Int)) < (↑(List.length l) : Int))
        (condP
        (decide
        (Prod.fst (List.getD l (Int.toNat i) ((0 : Int), (0 : Int))) ≤ Prod.snd (List.getD l (Int.toNat (IntKind.wrap IntKind.i64 (i - (1 : Int)))) ((0 : Int), (0 : Int)))))
        (Post (AV.bool false) [])
        (AWP Try.prog 55 n c285_2
        [(0, AV.sl 2 (Seq.map T.encS ((0 : Int), (0 : Int)) l) Tip.none), (3, AV.int IntKind.i64 (IntKind.wrap IntKind.i64 (i + (1 : Int))))] []
        (q285_2 n Post)))))
        (AWP Try.prog 55 n c285_2
        [(0, AV.sl 2 (Seq.map T.encS ((0 : Int), (0 : Int)) l) Tip.none), (3, AV.int IntKind.i64 (IntKind.wrap IntKind.i64 (i + (1 : Int))))] []
        (q285_2 n Post))))))))))
      (Post (AV.bool true) []) →
    AWP Try.prog 55 n c285_2 [(0, AV.sl 2 (Seq.map T.encS ((0 : Int), (0 : Int)) l) Tip.none), (3, AV.int IntKind.i64 i)] [] (q285_2 n Post) := fun l i n Post h => Go.Ab.AWP.loop' g285 (Cfg.live g285) c285_2 (by kernel_rfl) (by kernel_rfl) (Go.Ab.kc (by kernel_rfl) h)

-- 232
noncomputable def l232 : Nat → List Nat
  | 3 => [0, 3, 6, 7, 8]
  | _ => []
noncomputable def u232 : Nat → Bool
  | _ => false
noncomputable def m232 : Nat → Bool
  | _ => false
noncomputable def g232 : Cfg := { N := 40, live := l232, cut := u232, mu := m232, ret := rets }
noncomputable def c232 : Go.Code := Go.Ab.bodyOf Go.Proofs.Try.f232
noncomputable def q232_0 : Nat → (AV → List AObj → Prop) → AQ := fun (n : Nat) (Post : AV → List AObj → Prop) => endQ Try.prog (resultsOf Try.f232) Post
noncomputable def q232_1 : Nat → (AV → List AObj → Prop) → AQ := fun (n : Nat) (Post : AV → List AObj → Prop) => seqQ (fun (s' : Slots) (H' : List AObj) => awp Try.prog g232 n (codeSnd (codeSnd (codeSnd c232))) s' H' (q232_0 n Post)) (q232_0 n Post)
noncomputable def q232_2 : Nat → (AV → List AObj → Prop) → AQ := fun (n : Nat) (Post : AV → List AObj → Prop) => blockQ 0 (q232_1 n Post)
noncomputable def c232_3 : Go.Code := codeFst (codeSnd (codeFst (codeSnd (codeSnd c232))))
theorem s232 : ∀ (l : List T.Need) (Post : AV → List AObj → Prop),
  AWP Try.prog 40 0 c232_3
      [(0, AV.sl 2 (Seq.map T.encN ([], []) l) Tip.none), (3, AV.str { data := #[] }), (6, AV.sl 2 (Seq.map T.encN ([], []) l) Tip.none),
        (7, AV.int IntKind.i64 (↑(List.length l) : Int)), (8, AV.int IntKind.i64 (0 : Int))]
      [] (q232_2 0 Post) →
    ASpec Try.prog 232 [AV.sl 2 (Seq.map T.encN ([], []) l) Tip.none] [] Post := fun l Post h => Go.Ab.ASpec.of_vc g232 Go.Proofs.Try.func232 (by kernel_rfl) (by kernel_rfl) (by kernel_rfl) (Go.Ab.kc (by kernel_rfl) h)
theorem v232_3 : ∀ (l : List T.Need) (s : ByteArray) (n i : Int) (n_1 : Nat) (Post : AV → List AObj → Prop),
  condP (decide (i < n))
      (needP ((0 : Int) ≤ i ∧ i < (↑(List.length l) : Int))
        (ASpec Try.prog 154 [AV.str { data := List.toArray (Prod.fst (List.getD l (Int.toNat i) ([], []))) }]
        [AObj.cells
        [AV.str { data := List.toArray (Prod.fst (List.getD l (Int.toNat i) ([], []))) },
        AV.sl 2 (Seq.map T.encS ((0 : Int), (0 : Int)) (Prod.snd (List.getD l (Int.toNat i) ([], [])))) Tip.none]]
        fun (r : AV) (H' : List AObj) =>
        ∃ (x : Bool),
        r = AV.bool x ∧
        H' =
        [AObj.cells
        [AV.str { data := List.toArray (Prod.fst (List.getD l (Int.toNat i) ([], []))) },
        AV.sl 2 (Seq.map T.encS ((0 : Int), (0 : Int)) (Prod.snd (List.getD l (Int.toNat i) ([], [])))) Tip.none]] ∧
        condP (!x)
        (Post (AV.bool false)
        [AObj.cells
        [AV.str { data := List.toArray (Prod.fst (List.getD l (Int.toNat i) ([], []))) },
        AV.sl 2 (Seq.map T.encS ((0 : Int), (0 : Int)) (Prod.snd (List.getD l (Int.toNat i) ([], [])))) Tip.none]])
        (condP
        (Op.bytesLess (ByteArray.toList { data := List.toArray (Prod.fst (List.getD l (Int.toNat i) ([], []))) }) (ByteArray.toList s) ||
        ByteArray.toList { data := List.toArray (Prod.fst (List.getD l (Int.toNat i) ([], []))) } == ByteArray.toList s)
        (Post (AV.bool false)
        [AObj.cells
        [AV.str { data := List.toArray (Prod.fst (List.getD l (Int.toNat i) ([], []))) },
        AV.sl 2 (Seq.map T.encS ((0 : Int), (0 : Int)) (Prod.snd (List.getD l (Int.toNat i) ([], [])))) Tip.none]])
        (condP (decide ((↑(List.length (Prod.snd (List.getD l (Int.toNat i) ([], [])))) : Int) > (6 : Int)))
        (Post (AV.bool false)
        [AObj.cells
        [AV.str { data := List.toArray (Prod.fst (List.getD l (Int.toNat i) ([], []))) },
        AV.sl 2 (Seq.map T.encS ((0 : Int), (0 : Int)) (Prod.snd (List.getD l (Int.toNat i) ([], [])))) Tip.none]])
        (ASpec Try.prog 256 [AV.sl 2 (Seq.map T.encS ((0 : Int), (0 : Int)) (Prod.snd (List.getD l (Int.toNat i) ([], [])))) Tip.none]
        [AObj.cells
        [AV.str { data := List.toArray (Prod.fst (List.getD l (Int.toNat i) ([], []))) },
        AV.sl 2 (Seq.map T.encS ((0 : Int), (0 : Int)) (Prod.snd (List.getD l (Int.toNat i) ([], [])))) Tip.none]]
        fun (r : AV) (H' : List AObj) =>
        ∃ (x : Bool),
        r = AV.bool x ∧
        H' =
        [AObj.cells
        [AV.str { data := List.toArray (Prod.fst (List.getD l (Int.toNat i) ([], []))) },
        AV.sl 2 (Seq.map T.encS ((0 : Int), (0 : Int)) (Prod.snd (List.getD l (Int.toNat i) ([], [])))) Tip.none]] ∧
        condP (!x)
        (Post (AV.bool false)
        [AObj.cells
        [AV.str { data := List.toArray (Prod.fst (List.getD l (Int.toNat i) ([], []))) },
        AV.sl 2 (Seq.map T.encS ((0 : Int), (0 : Int)) (Prod.snd (List.getD l (Int.toNat i) ([], [])))) Tip.none]])
        (AWP Try.prog 40 n_1 c232_3
        [(0, AV.sl 2 (Seq.map T.encN ([], []) l) Tip.none), (3, AV.str { data := List.toArray (Prod.fst (List.getD l (Int.toNat i) ([], []))) }),
        (6, AV.sl 2 (Seq.map T.encN ([], []) l) Tip.none), (7, AV.int IntKind.i64 n),
        (8, AV.int IntKind.i64 (IntKind.wrap IntKind.i64 (i + (1 : Int))))]
        [AObj.cells
        [AV.str { data := List.toArray (Prod.fst (List.getD l (Int.toNat i) ([], []))) },
        AV.sl 2 (Seq.map T.encS ((0 : Int), (0 : Int)) (Prod.snd (List.getD l (Int.toNat i) ([], [])))) Tip.none]]
        (q232_2 n_1 Post)))))))
      (Post (AV.bool (decide ((↑(List.length l) : Int) ≤ (6 : Int)))) []) →
    AWP Try.prog 40 n_1 c232_3
      [(0, AV.sl 2 (Seq.map T.encN ([], []) l) Tip.none), (3, AV.str s), (6, AV.sl 2 (Seq.map T.encN ([], []) l) Tip.none), (7, AV.int IntKind.i64 n),
        (8, AV.int IntKind.i64 i)]
      [] (q232_2 n_1 Post) := fun l s n i n Post h => Go.Ab.AWP.loop' g232 (Cfg.live g232) c232_3 (by kernel_rfl) (by kernel_rfl) (Go.Ab.kc (by kernel_rfl) h)

-- 239
noncomputable def l239 : Nat → List Nat
  | 2 => [0, 3]
  | _ => []
noncomputable def u239 : Nat → Bool
  | _ => false
noncomputable def m239 : Nat → Bool
  | _ => false
noncomputable def g239 : Cfg := { N := 56, live := l239, cut := u239, mu := m239, ret := rets }
noncomputable def c239 : Go.Code := Go.Ab.bodyOf Go.Proofs.Try.f239
noncomputable def q239_0 : Nat → (AV → List AObj → Prop) → AQ := fun (n : Nat) (Post : AV → List AObj → Prop) => endQ Try.prog (resultsOf Try.f239) Post
noncomputable def q239_1 : Nat → (AV → List AObj → Prop) → AQ := fun (n : Nat) (Post : AV → List AObj → Prop) => seqQ (fun (s' : Slots) (H' : List AObj) => awp Try.prog g239 n (codeSnd (codeSnd c239)) s' H' (q239_0 n Post)) (q239_0 n Post)
noncomputable def q239_2 : Nat → (AV → List AObj → Prop) → AQ := fun (n : Nat) (Post : AV → List AObj → Prop) => blockQ 0 (q239_1 n Post)
noncomputable def c239_2 : Go.Code := codeFst (codeSnd (codeFst (codeSnd c239)))
theorem s239 : ∀ (l : List T.Need) (Post : AV → List AObj → Prop),
  AWP Try.prog 56 0 c239_2 [(0, AV.sl 2 (Seq.map T.encN ([], []) l) Tip.none), (3, AV.int IntKind.i64 (0 : Int))] [] (q239_2 0 Post) →
    ASpec Try.prog 239 [AV.sl 2 (Seq.map T.encN ([], []) l) Tip.none] [] Post := fun l Post h => Go.Ab.ASpec.of_vc g239 Go.Proofs.Try.func239 (by kernel_rfl) (by kernel_rfl) (by kernel_rfl) (Go.Ab.kc (by kernel_rfl) h)
theorem v239_2 : ∀ (l : List T.Need) (i : Int) (n : Nat) (Post : AV → List AObj → Prop),
  condP (decide (i < (↑(List.length l) : Int)))
      (needP ((0 : Int) ≤ i ∧ i < (↑(List.length l) : Int))
        (ASpec Try.prog 39 [AV.str { data := List.toArray (Prod.fst (List.getD l (Int.toNat i) ([], []))) }] [] fun (r : AV) (H' : List AObj) =>
        ∃ (x : Bool),
        r = AV.bool x ∧
        H' = [] ∧
        condP (!x) (Post (AV.bool false) [])
        (needP ((0 : Int) ≤ i ∧ i < (↑(List.length l) : Int))
        (ASpec Try.prog 285 [AV.sl 2 (Seq.map T.encS ((0 : Int), (0 : Int)) (Prod.snd (List.getD l (Int.toNat i) ([], [])))) Tip.none] [] fun (r : AV) (H' : List AObj) =>
        ∃ (x : Bool),
        r = AV.bool x ∧
        H' = [] ∧
        condP (!x) (Post (AV.bool false) [])
        (needP ((0 : Int) ≤ i ∧ i < (↑(List.length l) : Int))
        (condP (decide ((↑(List.length (Prod.snd (List.getD l (Int.toNat i) ([], [])))) : Int) > (6 : Int))) (Post (AV.bool false) [])
        (condP (decide (i > (0 : Int)))
        (needP ((0 : Int) ≤ i ∧ i < (↑(List.length l) : Int))
        (needP ((0 : Int) ≤ IntKind.wrap IntKind.i64 (i - (1 : Int)) ∧ IntKind.wrap IntKind.i64 (i - (1 : Int)) < (↑(List.length l) : Int))
        (condP
        (Op.bytesLess (ByteArray.toList { data := List.toArray (Prod.fst (List.getD l (Int.toNat i) ([], []))) })
        (ByteArray.toList { data := List.toArray (Prod.fst (List.getD l (Int.toNat (IntKind.wrap IntKind.i64 (i - (1 : Int)))) ([], []))) }) ||
        ByteArray.toList { data := List.toArray (Prod.fst (List.getD l (Int.toNat i) ([], []))) } ==
        ByteArray.toList { data := List.toArray (Prod.fst (List.getD l (Int.toNat (IntKind.wrap IntKind.i64 (i - (1 : Int)))) ([], []))) })
        (Post (AV.bool false) [])
        (AWP Try.prog 56 n c239_2
        [(0, AV.sl 2 (Seq.map T.encN ([], []) l) Tip.none), (3, AV.int IntKind.i64 (IntKind.wrap IntKind.i64 (i + (1 : Int))))] []
        (q239_2 n Post)))))
        (AWP Try.prog 56 n c239_2
        [(0, AV.sl 2 (Seq.map T.encN ([], []) l) Tip.none), (3, AV.int IntKind.i64 (IntKind.wrap IntKind.i64 (i + (1 : Int))))] []
        (q239_2 n Post)))))))))
      (Post (AV.bool (decide ((↑(List.length l) : Int) ≤ (6 : Int)))) []) →
    AWP Try.prog 56 n c239_2 [(0, AV.sl 2 (Seq.map T.encN ([], []) l) Tip.none), (3, AV.int IntKind.i64 i)] [] (q239_2 n Post) := fun l i n Post h => Go.Ab.AWP.loop' g239 (Cfg.live g239) c239_2 (by kernel_rfl) (by kernel_rfl) (Go.Ab.kc (by kernel_rfl) h)

-- 185
noncomputable def l185 : Nat → List Nat
  | 3 => [1, 3, 7, 8, 9]
  | _ => []
noncomputable def u185 : Nat → Bool
  | _ => false
noncomputable def m185 : Nat → Bool
  | _ => false
noncomputable def g185 : Cfg := { N := 40, live := l185, cut := u185, mu := m185, ret := rets }
noncomputable def c185 : Go.Code := Go.Ab.bodyOf Go.Proofs.Try.f185
noncomputable def q185_0 : Nat → (AV → List AObj → Prop) → AQ := fun (n : Nat) (Post : AV → List AObj → Prop) => endQ Try.prog (resultsOf Try.f185) Post
noncomputable def q185_1 : Nat → (AV → List AObj → Prop) → AQ := fun (n : Nat) (Post : AV → List AObj → Prop) => seqQ (fun (s' : Slots) (H' : List AObj) => awp Try.prog g185 n (codeSnd (codeSnd (codeSnd c185))) s' H' (q185_0 n Post)) (q185_0 n Post)
noncomputable def q185_2 : Nat → (AV → List AObj → Prop) → AQ := fun (n : Nat) (Post : AV → List AObj → Prop) => blockQ 0 (q185_1 n Post)
noncomputable def c185_3 : Go.Code := codeFst (codeSnd (codeFst (codeSnd (codeSnd c185))))
theorem s185 : ∀ (m : T.Mani) (Post : AV → List AObj → Prop),
  AWP Try.prog 40 0 c185_3
      [(1, AV.ptr 0 0), (3, AV.int IntKind.i64 (-1 : Int)), (7, AV.sl 2 (Seq.map T.encR ((0 : Int), []) (Prod.snd m)) Tip.none),
        (8, AV.int IntKind.i64 (↑(List.length (Prod.snd m)) : Int)), (9, AV.int IntKind.i64 (0 : Int))]
      [AObj.cells [AV.str { data := List.toArray (Prod.fst m) }, AV.sl 2 (Seq.map T.encR ((0 : Int), []) (Prod.snd m)) Tip.none]] (q185_2 0 Post) →
    ASpec Try.prog 185 [AV.agg (T.encM m)] [] Post := fun m Post h => Go.Ab.ASpec.of_vc g185 Go.Proofs.Try.func185 (by kernel_rfl) (by kernel_rfl) (by kernel_rfl) (Go.Ab.kc (by kernel_rfl) h)
theorem v185_3 : ∀ (m : T.Mani) (e n i : Int) (n_1 : Nat) (Post : AV → List AObj → Prop),
  condP (decide (i < n))
      (needP ((0 : Int) ≤ i ∧ i < (↑(List.length (Prod.snd m)) : Int))
        (condP (decide (Prod.fst (List.getD (Prod.snd m) (Int.toNat i) ((0 : Int), [])) ≤ e))
        (Post (AV.bool false)
        [AObj.cells [AV.str { data := List.toArray (Prod.fst m) }, AV.sl 2 (Seq.map T.encR ((0 : Int), []) (Prod.snd m)) Tip.none],
        AObj.cells
        [AV.int IntKind.i64 (Prod.fst (List.getD (Prod.snd m) (Int.toNat i) ((0 : Int), []))),
        AV.sl 2 (Seq.map T.encN ([], []) (Prod.snd (List.getD (Prod.snd m) (Int.toNat i) ((0 : Int), [])))) Tip.none]])
        (condP (decide (Prod.fst (List.getD (Prod.snd m) (Int.toNat i) ((0 : Int), [])) ≥ (1000000000 : Int)))
        (Post (AV.bool false)
        [AObj.cells [AV.str { data := List.toArray (Prod.fst m) }, AV.sl 2 (Seq.map T.encR ((0 : Int), []) (Prod.snd m)) Tip.none],
        AObj.cells
        [AV.int IntKind.i64 (Prod.fst (List.getD (Prod.snd m) (Int.toNat i) ((0 : Int), []))),
        AV.sl 2 (Seq.map T.encN ([], []) (Prod.snd (List.getD (Prod.snd m) (Int.toNat i) ((0 : Int), [])))) Tip.none]])
        (ASpec Try.prog 232 [AV.sl 2 (Seq.map T.encN ([], []) (Prod.snd (List.getD (Prod.snd m) (Int.toNat i) ((0 : Int), [])))) Tip.none]
        [AObj.cells [AV.str { data := List.toArray (Prod.fst m) }, AV.sl 2 (Seq.map T.encR ((0 : Int), []) (Prod.snd m)) Tip.none],
        AObj.cells
        [AV.int IntKind.i64 (Prod.fst (List.getD (Prod.snd m) (Int.toNat i) ((0 : Int), []))),
        AV.sl 2 (Seq.map T.encN ([], []) (Prod.snd (List.getD (Prod.snd m) (Int.toNat i) ((0 : Int), [])))) Tip.none]]
        fun (r : AV) (H' : List AObj) =>
        ∃ (x : Bool),
        r = AV.bool x ∧
        H' =
        [AObj.cells [AV.str { data := List.toArray (Prod.fst m) }, AV.sl 2 (Seq.map T.encR ((0 : Int), []) (Prod.snd m)) Tip.none],
        AObj.cells
        [AV.int IntKind.i64 (Prod.fst (List.getD (Prod.snd m) (Int.toNat i) ((0 : Int), []))),
        AV.sl 2 (Seq.map T.encN ([], []) (Prod.snd (List.getD (Prod.snd m) (Int.toNat i) ((0 : Int), [])))) Tip.none]] ∧
        condP (!x)
        (Post (AV.bool false)
        [AObj.cells [AV.str { data := List.toArray (Prod.fst m) }, AV.sl 2 (Seq.map T.encR ((0 : Int), []) (Prod.snd m)) Tip.none],
        AObj.cells
        [AV.int IntKind.i64 (Prod.fst (List.getD (Prod.snd m) (Int.toNat i) ((0 : Int), []))),
        AV.sl 2 (Seq.map T.encN ([], []) (Prod.snd (List.getD (Prod.snd m) (Int.toNat i) ((0 : Int), [])))) Tip.none]])
        (AWP Try.prog 40 n_1 c185_3
        [(1, AV.ptr 0 0), (3, AV.int IntKind.i64 (Prod.fst (List.getD (Prod.snd m) (Int.toNat i) ((0 : Int), [])))),
        (7, AV.sl 2 (Seq.map T.encR ((0 : Int), []) (Prod.snd m)) Tip.none), (8, AV.int IntKind.i64 n),
        (9, AV.int IntKind.i64 (IntKind.wrap IntKind.i64 (i + (1 : Int))))]
        [AObj.cells [AV.str { data := List.toArray (Prod.fst m) }, AV.sl 2 (Seq.map T.encR ((0 : Int), []) (Prod.snd m)) Tip.none],
        AObj.cells
        [AV.int IntKind.i64 (Prod.fst (List.getD (Prod.snd m) (Int.toNat i) ((0 : Int), []))),
        AV.sl 2 (Seq.map T.encN ([], []) (Prod.snd (List.getD (Prod.snd m) (Int.toNat i) ((0 : Int), [])))) Tip.none]]
        (q185_2 n_1 Post))))))
      (ASpec Try.prog 154 [AV.str { data := List.toArray (Prod.fst m) }]
        [AObj.cells [AV.str { data := List.toArray (Prod.fst m) }, AV.sl 2 (Seq.map T.encR ((0 : Int), []) (Prod.snd m)) Tip.none]] fun (r : AV) (H' : List AObj) =>
        ∃ (x : Bool),
        r = AV.bool x ∧
        H' = [AObj.cells [AV.str { data := List.toArray (Prod.fst m) }, AV.sl 2 (Seq.map T.encR ((0 : Int), []) (Prod.snd m)) Tip.none]] ∧
        condP x
        (Post (AV.bool (decide ((↑(List.length (Prod.snd m)) : Int) ≤ (8 : Int))))
        [AObj.cells [AV.str { data := List.toArray (Prod.fst m) }, AV.sl 2 (Seq.map T.encR ((0 : Int), []) (Prod.snd m)) Tip.none]])
        (Post (AV.bool false) [AObj.cells [AV.str { data := List.toArray (Prod.fst m) }, AV.sl 2 (Seq.map T.encR ((0 : Int), []) (Prod.snd m)) Tip.none]])) →
    AWP Try.prog 40 n_1 c185_3
      [(1, AV.ptr 0 0), (3, AV.int IntKind.i64 e), (7, AV.sl 2 (Seq.map T.encR ((0 : Int), []) (Prod.snd m)) Tip.none),
        (8, AV.int IntKind.i64 n), (9, AV.int IntKind.i64 i)]
      [AObj.cells (T.encM m)] (q185_2 n_1 Post) := fun m e n i n Post h => Go.Ab.AWP.loop' g185 (Cfg.live g185) c185_3 (by kernel_rfl) (by kernel_rfl) (Go.Ab.kc (by kernel_rfl) h)

-- 186
noncomputable def l186 : Nat → List Nat
  | 2 => [1, 3]
  | _ => []
noncomputable def u186 : Nat → Bool
  | _ => false
noncomputable def m186 : Nat → Bool
  | _ => false
noncomputable def g186 : Cfg := { N := 52, live := l186, cut := u186, mu := m186, ret := rets }
noncomputable def c186 : Go.Code := Go.Ab.bodyOf Go.Proofs.Try.f186
noncomputable def q186_0 : Nat → (AV → List AObj → Prop) → AQ := fun (n : Nat) (Post : AV → List AObj → Prop) => endQ Try.prog (resultsOf Try.f186) Post
noncomputable def q186_1 : Nat → (AV → List AObj → Prop) → AQ := fun (n : Nat) (Post : AV → List AObj → Prop) => seqQ (fun (s' : Slots) (H' : List AObj) => awp Try.prog g186 n (codeSnd (codeSnd c186)) s' H' (q186_0 n Post)) (q186_0 n Post)
noncomputable def q186_2 : Nat → (AV → List AObj → Prop) → AQ := fun (n : Nat) (Post : AV → List AObj → Prop) => blockQ 0 (q186_1 n Post)
noncomputable def c186_2 : Go.Code := codeFst (codeSnd (codeFst (codeSnd c186)))
theorem s186 : ∀ (m : T.Mani) (Post : AV → List AObj → Prop),
  AWP Try.prog 52 0 c186_2 [(1, AV.ptr 0 0), (3, AV.int IntKind.i64 (0 : Int))]
      [AObj.cells [AV.str { data := List.toArray (Prod.fst m) }, AV.sl 2 (Seq.map T.encR ((0 : Int), []) (Prod.snd m)) Tip.none]] (q186_2 0 Post) →
    ASpec Try.prog 186 [AV.agg (T.encM m)] [] Post := fun m Post h => Go.Ab.ASpec.of_vc g186 Go.Proofs.Try.func186 (by kernel_rfl) (by kernel_rfl) (by kernel_rfl) (Go.Ab.kc (by kernel_rfl) h)
theorem v186_2 : ∀ (m : T.Mani) (i : Int) (n : Nat) (Post : AV → List AObj → Prop),
  condP (decide (i < (↑(List.length (Prod.snd m)) : Int)))
      (needP ((0 : Int) ≤ i ∧ i < (↑(List.length (Prod.snd m)) : Int))
        (ASpec Try.prog 231 [AV.int IntKind.i64 (Prod.fst (List.getD (Prod.snd m) (Int.toNat i) ((0 : Int), [])))]
        [AObj.cells [AV.str { data := List.toArray (Prod.fst m) }, AV.sl 2 (Seq.map T.encR ((0 : Int), []) (Prod.snd m)) Tip.none],
        AObj.cells
        [AV.int IntKind.i64 (Prod.fst (List.getD (Prod.snd m) (Int.toNat i) ((0 : Int), []))),
        AV.sl 2 (Seq.map T.encN ([], []) (Prod.snd (List.getD (Prod.snd m) (Int.toNat i) ((0 : Int), [])))) Tip.none]]
        fun (r : AV) (H' : List AObj) =>
        ∃ (x : Bool),
        r = AV.bool x ∧
        H' =
        [AObj.cells [AV.str { data := List.toArray (Prod.fst m) }, AV.sl 2 (Seq.map T.encR ((0 : Int), []) (Prod.snd m)) Tip.none],
        AObj.cells
        [AV.int IntKind.i64 (Prod.fst (List.getD (Prod.snd m) (Int.toNat i) ((0 : Int), []))),
        AV.sl 2 (Seq.map T.encN ([], []) (Prod.snd (List.getD (Prod.snd m) (Int.toNat i) ((0 : Int), [])))) Tip.none]] ∧
        condP (!x)
        (Post (AV.bool false)
        [AObj.cells [AV.str { data := List.toArray (Prod.fst m) }, AV.sl 2 (Seq.map T.encR ((0 : Int), []) (Prod.snd m)) Tip.none],
        AObj.cells
        [AV.int IntKind.i64 (Prod.fst (List.getD (Prod.snd m) (Int.toNat i) ((0 : Int), []))),
        AV.sl 2 (Seq.map T.encN ([], []) (Prod.snd (List.getD (Prod.snd m) (Int.toNat i) ((0 : Int), [])))) Tip.none]])
        (ASpec Try.prog 239 [AV.sl 2 (Seq.map T.encN ([], []) (Prod.snd (List.getD (Prod.snd m) (Int.toNat i) ((0 : Int), [])))) Tip.none]
        [AObj.cells [AV.str { data := List.toArray (Prod.fst m) }, AV.sl 2 (Seq.map T.encR ((0 : Int), []) (Prod.snd m)) Tip.none],
        AObj.cells
        [AV.int IntKind.i64 (Prod.fst (List.getD (Prod.snd m) (Int.toNat i) ((0 : Int), []))),
        AV.sl 2 (Seq.map T.encN ([], []) (Prod.snd (List.getD (Prod.snd m) (Int.toNat i) ((0 : Int), [])))) Tip.none]]
        fun (r : AV) (H' : List AObj) =>
        ∃ (x : Bool),
        r = AV.bool x ∧
        H' =
        [AObj.cells [AV.str { data := List.toArray (Prod.fst m) }, AV.sl 2 (Seq.map T.encR ((0 : Int), []) (Prod.snd m)) Tip.none],
        AObj.cells
        [AV.int IntKind.i64 (Prod.fst (List.getD (Prod.snd m) (Int.toNat i) ((0 : Int), []))),
        AV.sl 2 (Seq.map T.encN ([], []) (Prod.snd (List.getD (Prod.snd m) (Int.toNat i) ((0 : Int), [])))) Tip.none]] ∧
        condP (!x)
        (Post (AV.bool false)
        [AObj.cells [AV.str { data := List.toArray (Prod.fst m) }, AV.sl 2 (Seq.map T.encR ((0 : Int), []) (Prod.snd m)) Tip.none],
        AObj.cells
        [AV.int IntKind.i64 (Prod.fst (List.getD (Prod.snd m) (Int.toNat i) ((0 : Int), []))),
        AV.sl 2 (Seq.map T.encN ([], []) (Prod.snd (List.getD (Prod.snd m) (Int.toNat i) ((0 : Int), [])))) Tip.none]])
        (condP (decide (i > (0 : Int)))
        (needP ((0 : Int) ≤ IntKind.wrap IntKind.i64 (i - (1 : Int)) ∧ IntKind.wrap IntKind.i64 (i - (1 : Int)) < (↑(List.length (Prod.snd m)) : Int))
        (condP
        (decide
        (Prod.fst (List.getD (Prod.snd m) (Int.toNat i) ((0 : Int), [])) ≤
        Prod.fst (List.getD (Prod.snd m) (Int.toNat (IntKind.wrap IntKind.i64 (i - (1 : Int)))) ((0 : Int), []))))
        (Post (AV.bool false)
        [AObj.cells [AV.str { data := List.toArray (Prod.fst m) }, AV.sl 2 (Seq.map T.encR ((0 : Int), []) (Prod.snd m)) Tip.none],
        AObj.cells
        [AV.int IntKind.i64 (Prod.fst (List.getD (Prod.snd m) (Int.toNat i) ((0 : Int), []))),
        AV.sl 2 (Seq.map T.encN ([], []) (Prod.snd (List.getD (Prod.snd m) (Int.toNat i) ((0 : Int), [])))) Tip.none]])
        (AWP Try.prog 52 n c186_2 [(1, AV.ptr 0 0), (3, AV.int IntKind.i64 (IntKind.wrap IntKind.i64 (i + (1 : Int))))]
        [AObj.cells [AV.str { data := List.toArray (Prod.fst m) }, AV.sl 2 (Seq.map T.encR ((0 : Int), []) (Prod.snd m)) Tip.none],
        AObj.cells
        [AV.int IntKind.i64 (Prod.fst (List.getD (Prod.snd m) (Int.toNat i) ((0 : Int), []))),
        AV.sl 2 (Seq.map T.encN ([], []) (Prod.snd (List.getD (Prod.snd m) (Int.toNat i) ((0 : Int), [])))) Tip.none]]
        (q186_2 n Post))))
        (AWP Try.prog 52 n c186_2 [(1, AV.ptr 0 0), (3, AV.int IntKind.i64 (IntKind.wrap IntKind.i64 (i + (1 : Int))))]
        [AObj.cells [AV.str { data := List.toArray (Prod.fst m) }, AV.sl 2 (Seq.map T.encR ((0 : Int), []) (Prod.snd m)) Tip.none],
        AObj.cells
        [AV.int IntKind.i64 (Prod.fst (List.getD (Prod.snd m) (Int.toNat i) ((0 : Int), []))),
        AV.sl 2 (Seq.map T.encN ([], []) (Prod.snd (List.getD (Prod.snd m) (Int.toNat i) ((0 : Int), [])))) Tip.none]]
        (q186_2 n Post))))))
      (ASpec Try.prog 39 [AV.str { data := List.toArray (Prod.fst m) }]
        [AObj.cells [AV.str { data := List.toArray (Prod.fst m) }, AV.sl 2 (Seq.map T.encR ((0 : Int), []) (Prod.snd m)) Tip.none]] fun (r : AV) (H' : List AObj) =>
        ∃ (x : Bool),
        r = AV.bool x ∧
        H' = [AObj.cells [AV.str { data := List.toArray (Prod.fst m) }, AV.sl 2 (Seq.map T.encR ((0 : Int), []) (Prod.snd m)) Tip.none]] ∧
        condP x
        (Post (AV.bool (decide ((↑(List.length (Prod.snd m)) : Int) ≤ (8 : Int))))
        [AObj.cells [AV.str { data := List.toArray (Prod.fst m) }, AV.sl 2 (Seq.map T.encR ((0 : Int), []) (Prod.snd m)) Tip.none]])
        (Post (AV.bool false) [AObj.cells [AV.str { data := List.toArray (Prod.fst m) }, AV.sl 2 (Seq.map T.encR ((0 : Int), []) (Prod.snd m)) Tip.none]])) →
    AWP Try.prog 52 n c186_2 [(1, AV.ptr 0 0), (3, AV.int IntKind.i64 i)] [AObj.cells (T.encM m)] (q186_2 n Post) := fun m i n Post h => Go.Ab.AWP.loop' g186 (Cfg.live g186) c186_2 (by kernel_rfl) (by kernel_rfl) (Go.Ab.kc (by kernel_rfl) h)

-- 231
noncomputable def l231 : Nat → List Nat
  | _ => []
noncomputable def u231 : Nat → Bool
  | _ => false
noncomputable def m231 : Nat → Bool
  | _ => false
noncomputable def g231 : Cfg := { N := 9, live := l231, cut := u231, mu := m231, ret := rets }
noncomputable def c231 : Go.Code := Go.Ab.bodyOf Go.Proofs.Try.f231
theorem s231 : ∀ (x : Int) (Post : AV → List AObj → Prop),
  condP (decide (x ≥ (0 : Int))) (Post (AV.bool (decide (x < (1000000000 : Int)))) []) (Post (AV.bool false) []) → ASpec Try.prog 231 [AV.int IntKind.i64 x] [] Post := fun x Post h => Go.Ab.ASpec.of_vc g231 Go.Proofs.Try.func231 (by kernel_rfl) (by kernel_rfl) (by kernel_rfl) (Go.Ab.kc (by kernel_rfl) h)

-- 130
noncomputable def l130 : Nat → List Nat
  | 4 => [0, 3]
  | _ => []
noncomputable def u130 : Nat → Bool
  | _ => false
noncomputable def m130 : Nat → Bool
  | _ => false
noncomputable def g130 : Cfg := { N := 29, live := l130, cut := u130, mu := m130, ret := rets }
noncomputable def c130 : Go.Code := Go.Ab.bodyOf Go.Proofs.Try.f130
noncomputable def q130_0 : Nat → (AV → List AObj → Prop) → AQ := fun (n : Nat) (Post : AV → List AObj → Prop) => endQ Try.prog (resultsOf Try.f130) Post
noncomputable def q130_1 : Nat → (AV → List AObj → Prop) → AQ := fun (n : Nat) (Post : AV → List AObj → Prop) => seqQ (fun (s' : Slots) (H' : List AObj) => awp Try.prog g130 n (codeSnd (codeSnd (codeSnd c130))) s' H' (q130_0 n Post)) (q130_0 n Post)
noncomputable def q130_2 : Nat → (AV → List AObj → Prop) → AQ := fun (n : Nat) (Post : AV → List AObj → Prop) => blockQ 0 (q130_1 n Post)
noncomputable def c130_4 : Go.Code := codeFst (codeSnd (codeFst (codeSnd (codeSnd c130))))
theorem s130 : ∀ (l : List T.Need) (Post : AV → List AObj → Prop),
  condP (decide ((↑(List.length l) : Int) > (40 : Int))) (Post (AV.bool true) [])
      (AWP Try.prog 29 0 c130_4 [(0, AV.sl 2 (Seq.map T.encN ([], []) l) Tip.none), (3, AV.int IntKind.i64 (0 : Int))] [] (q130_2 0 Post)) →
    ASpec Try.prog 130 [AV.sl 2 (Seq.map T.encN ([], []) l) Tip.none] [] Post := fun l Post h => Go.Ab.ASpec.of_vc g130 Go.Proofs.Try.func130 (by kernel_rfl) (by kernel_rfl) (by kernel_rfl) (Go.Ab.kc (by kernel_rfl) h)
theorem v130_4 : ∀ (l : List T.Need) (i : Int) (n : Nat) (Post : AV → List AObj → Prop),
  condP (decide (i < (↑(List.length l) : Int)))
      (needP ((0 : Int) ≤ i ∧ i < (↑(List.length l) : Int))
        (condP (decide ((↑(List.length (Prod.snd (List.getD l (Int.toNat i) ([], [])))) : Int) > (40 : Int))) (Post (AV.bool true) [])
        (needP ((0 : Int) ≤ i ∧ i < (↑(List.length l) : Int))
        (condP (decide ((↑(ByteArray.size { data := List.toArray (Prod.fst (List.getD l (Int.toNat i) ([], []))) }) : Int) > (100 : Int))) (Post (AV.bool true) [])
        (AWP Try.prog 29 n c130_4 [(0, AV.sl 2 (Seq.map T.encN ([], []) l) Tip.none), (3, AV.int IntKind.i64 (IntKind.wrap IntKind.i64 (i + (1 : Int))))] []
        (q130_2 n Post))))))
      (Post (AV.bool false) []) →
    AWP Try.prog 29 n c130_4 [(0, AV.sl 2 (Seq.map T.encN ([], []) l) Tip.none), (3, AV.int IntKind.i64 i)] [] (q130_2 n Post) := fun l i n Post h => Go.Ab.AWP.loop' g130 (Cfg.live g130) c130_4 (by kernel_rfl) (by kernel_rfl) (Go.Ab.kc (by kernel_rfl) h)

-- 66
noncomputable def l66 : Nat → List Nat
  | 4 => [1, 3]
  | _ => []
noncomputable def u66 : Nat → Bool
  | _ => false
noncomputable def m66 : Nat → Bool
  | _ => false
noncomputable def g66 : Cfg := { N := 28, live := l66, cut := u66, mu := m66, ret := rets }
noncomputable def c66 : Go.Code := Go.Ab.bodyOf Go.Proofs.Try.f66
noncomputable def q66_0 : Nat → (AV → List AObj → Prop) → AQ := fun (n : Nat) (Post : AV → List AObj → Prop) => endQ Try.prog (resultsOf Try.f66) Post
noncomputable def q66_1 : Nat → (AV → List AObj → Prop) → AQ := fun (n : Nat) (Post : AV → List AObj → Prop) => seqQ (fun (s' : Slots) (H' : List AObj) => awp Try.prog g66 n (codeSnd (codeSnd (codeSnd c66))) s' H' (q66_0 n Post)) (q66_0 n Post)
noncomputable def q66_2 : Nat → (AV → List AObj → Prop) → AQ := fun (n : Nat) (Post : AV → List AObj → Prop) => blockQ 0 (q66_1 n Post)
noncomputable def c66_4 : Go.Code := codeFst (codeSnd (codeFst (codeSnd (codeSnd c66))))
theorem s66 : ∀ (m : T.Mani) (Post : AV → List AObj → Prop),
  condP (decide ((↑(List.length (Prod.snd m)) : Int) > (30 : Int)))
      (Post (AV.bool true) [AObj.cells [AV.str { data := List.toArray (Prod.fst m) }, AV.sl 2 (Seq.map T.encR ((0 : Int), []) (Prod.snd m)) Tip.none]])
      (condP (decide ((↑(ByteArray.size { data := List.toArray (Prod.fst m) }) : Int) > (200 : Int)))
        (Post (AV.bool true) [AObj.cells [AV.str { data := List.toArray (Prod.fst m) }, AV.sl 2 (Seq.map T.encR ((0 : Int), []) (Prod.snd m)) Tip.none]])
        (AWP Try.prog 28 0 c66_4 [(1, AV.ptr 0 0), (3, AV.int IntKind.i64 (0 : Int))]
        [AObj.cells [AV.str { data := List.toArray (Prod.fst m) }, AV.sl 2 (Seq.map T.encR ((0 : Int), []) (Prod.snd m)) Tip.none]] (q66_2 0 Post))) →
    ASpec Try.prog 66 [AV.agg (T.encM m)] [] Post := fun m Post h => Go.Ab.ASpec.of_vc g66 Go.Proofs.Try.func66 (by kernel_rfl) (by kernel_rfl) (by kernel_rfl) (Go.Ab.kc (by kernel_rfl) h)
theorem v66_4 : ∀ (m : T.Mani) (i : Int) (n : Nat) (Post : AV → List AObj → Prop),
  condP (decide (i < (↑(List.length (Prod.snd m)) : Int)))
      (needP ((0 : Int) ≤ i ∧ i < (↑(List.length (Prod.snd m)) : Int))
        (ASpec Try.prog 130 [AV.sl 2 (Seq.map T.encN ([], []) (Prod.snd (List.getD (Prod.snd m) (Int.toNat i) ((0 : Int), [])))) Tip.none]
        [AObj.cells [AV.str { data := List.toArray (Prod.fst m) }, AV.sl 2 (Seq.map T.encR ((0 : Int), []) (Prod.snd m)) Tip.none]] fun (r : AV) (H' : List AObj) =>
        ∃ (x : Bool),
        r = AV.bool x ∧
        H' = [AObj.cells [AV.str { data := List.toArray (Prod.fst m) }, AV.sl 2 (Seq.map T.encR ((0 : Int), []) (Prod.snd m)) Tip.none]] ∧
        condP x (Post (AV.bool true) [AObj.cells [AV.str { data := List.toArray (Prod.fst m) }, AV.sl 2 (Seq.map T.encR ((0 : Int), []) (Prod.snd m)) Tip.none]])
        (AWP Try.prog 28 n c66_4 [(1, AV.ptr 0 0), (3, AV.int IntKind.i64 (IntKind.wrap IntKind.i64 (i + (1 : Int))))]
        [AObj.cells [AV.str { data := List.toArray (Prod.fst m) }, AV.sl 2 (Seq.map T.encR ((0 : Int), []) (Prod.snd m)) Tip.none]] (q66_2 n Post))))
      (Post (AV.bool false) [AObj.cells [AV.str { data := List.toArray (Prod.fst m) }, AV.sl 2 (Seq.map T.encR ((0 : Int), []) (Prod.snd m)) Tip.none]]) →
    AWP Try.prog 28 n c66_4 [(1, AV.ptr 0 0), (3, AV.int IntKind.i64 i)] [AObj.cells (T.encM m)] (q66_2 n Post) := fun m i n Post h => Go.Ab.AWP.loop' g66 (Cfg.live g66) c66_4 (by kernel_rfl) (by kernel_rfl) (Go.Ab.kc (by kernel_rfl) h)

-- 163
noncomputable def l163 : Nat → List Nat
  | 4 => [0, 1, 5]
  | _ => []
noncomputable def u163 : Nat → Bool
  | _ => false
noncomputable def m163 : Nat → Bool
  | _ => false
noncomputable def g163 : Cfg := { N := 26, live := l163, cut := u163, mu := m163, ret := rets }
noncomputable def c163 : Go.Code := Go.Ab.bodyOf Go.Proofs.Try.f163
noncomputable def q163_0 : Nat → (AV → List AObj → Prop) → AQ := fun (n : Nat) (Post : AV → List AObj → Prop) => endQ Try.prog (resultsOf Try.f163) Post
noncomputable def q163_1 : Nat → (AV → List AObj → Prop) → AQ := fun (n : Nat) (Post : AV → List AObj → Prop) => seqQ (fun (s' : Slots) (H' : List AObj) => awp Try.prog g163 n (codeSnd (codeSnd (codeSnd c163))) s' H' (q163_0 n Post)) (q163_0 n Post)
noncomputable def q163_2 : Nat → (AV → List AObj → Prop) → AQ := fun (n : Nat) (Post : AV → List AObj → Prop) => blockQ 0 (q163_1 n Post)
noncomputable def c163_4 : Go.Code := codeFst (codeSnd (codeFst (codeSnd (codeSnd c163))))
theorem s163 : ∀ (a b : List T.Span) (Post : AV → List AObj → Prop),
  condP ((↑(List.length a) : Int) != (↑(List.length b) : Int)) (Post (AV.bool false) [])
      (AWP Try.prog 26 0 c163_4
        [(0, AV.sl 2 (Seq.map T.encS ((0 : Int), (0 : Int)) a) Tip.none), (1, AV.sl 2 (Seq.map T.encS ((0 : Int), (0 : Int)) b) Tip.none),
        (5, AV.int IntKind.i64 (0 : Int))]
        [] (q163_2 0 Post)) →
    ASpec Try.prog 163 [AV.sl 2 (Seq.map T.encS ((0 : Int), (0 : Int)) a) Tip.none, AV.sl 2 (Seq.map T.encS ((0 : Int), (0 : Int)) b) Tip.none] [] Post := fun a b Post h => Go.Ab.ASpec.of_vc g163 Go.Proofs.Try.func163 (by kernel_rfl) (by kernel_rfl) (by kernel_rfl) (Go.Ab.kc (by kernel_rfl) h)
theorem v163_4 : ∀ (a b : List T.Span) (i : Int) (n : Nat) (Post : AV → List AObj → Prop),
  condP (decide (i < (↑(List.length a) : Int)))
      (needP ((0 : Int) ≤ i ∧ i < (↑(List.length a) : Int))
        (needP ((0 : Int) ≤ i ∧ i < (↑(List.length b) : Int))
        (condP
        (!(Prod.fst (List.getD a (Int.toNat i) ((0 : Int), (0 : Int))) == Prod.fst (List.getD b (Int.toNat i) ((0 : Int), (0 : Int))) &&
        (Prod.snd (List.getD a (Int.toNat i) ((0 : Int), (0 : Int))) == Prod.snd (List.getD b (Int.toNat i) ((0 : Int), (0 : Int))) && true)))
        (Post (AV.bool false) [])
        (AWP Try.prog 26 n c163_4
        [(0, AV.sl 2 (Seq.map T.encS ((0 : Int), (0 : Int)) a) Tip.none), (1, AV.sl 2 (Seq.map T.encS ((0 : Int), (0 : Int)) b) Tip.none),
        (5, AV.int IntKind.i64 (IntKind.wrap IntKind.i64 (i + (1 : Int))))]
        [] (q163_2 n Post)))))
      (Post (AV.bool true) []) →
    AWP Try.prog 26 n c163_4
      [(0, AV.sl 2 (Seq.map T.encS ((0 : Int), (0 : Int)) a) Tip.none), (1, AV.sl 2 (Seq.map T.encS ((0 : Int), (0 : Int)) b) Tip.none),
        (5, AV.int IntKind.i64 i)]
      [] (q163_2 n Post) := fun a b i n Post h => Go.Ab.AWP.loop' g163 (Cfg.live g163) c163_4 (by kernel_rfl) (by kernel_rfl) (Go.Ab.kc (by kernel_rfl) h)

-- 173
noncomputable def l173 : Nat → List Nat
  | 4 => [0, 1, 5]
  | _ => []
noncomputable def u173 : Nat → Bool
  | _ => false
noncomputable def m173 : Nat → Bool
  | _ => false
noncomputable def g173 : Cfg := { N := 42, live := l173, cut := u173, mu := m173, ret := rets }
noncomputable def c173 : Go.Code := Go.Ab.bodyOf Go.Proofs.Try.f173
noncomputable def q173_0 : Nat → (AV → List AObj → Prop) → AQ := fun (n : Nat) (Post : AV → List AObj → Prop) => endQ Try.prog (resultsOf Try.f173) Post
noncomputable def q173_1 : Nat → (AV → List AObj → Prop) → AQ := fun (n : Nat) (Post : AV → List AObj → Prop) => seqQ (fun (s' : Slots) (H' : List AObj) => awp Try.prog g173 n (codeSnd (codeSnd (codeSnd c173))) s' H' (q173_0 n Post)) (q173_0 n Post)
noncomputable def q173_2 : Nat → (AV → List AObj → Prop) → AQ := fun (n : Nat) (Post : AV → List AObj → Prop) => blockQ 0 (q173_1 n Post)
noncomputable def c173_4 : Go.Code := codeFst (codeSnd (codeFst (codeSnd (codeSnd c173))))
theorem s173 : ∀ (a b : List T.Need) (Post : AV → List AObj → Prop),
  condP ((↑(List.length a) : Int) != (↑(List.length b) : Int)) (Post (AV.bool false) [])
      (AWP Try.prog 42 0 c173_4
        [(0, AV.sl 2 (Seq.map T.encN ([], []) a) Tip.none), (1, AV.sl 2 (Seq.map T.encN ([], []) b) Tip.none), (5, AV.int IntKind.i64 (0 : Int))] []
        (q173_2 0 Post)) →
    ASpec Try.prog 173 [AV.sl 2 (Seq.map T.encN ([], []) a) Tip.none, AV.sl 2 (Seq.map T.encN ([], []) b) Tip.none] [] Post := fun a b Post h => Go.Ab.ASpec.of_vc g173 Go.Proofs.Try.func173 (by kernel_rfl) (by kernel_rfl) (by kernel_rfl) (Go.Ab.kc (by kernel_rfl) h)
theorem v173_4 : ∀ (a b : List T.Need) (i : Int) (n : Nat) (Post : AV → List AObj → Prop),
  condP (decide (i < (↑(List.length a) : Int)))
      (needP ((0 : Int) ≤ i ∧ i < (↑(List.length a) : Int))
        (needP ((0 : Int) ≤ i ∧ i < (↑(List.length b) : Int))
        (condP
        (!ByteArray.toList { data := List.toArray (Prod.fst (List.getD a (Int.toNat i) ([], []))) } == ByteArray.toList { data := List.toArray (Prod.fst (List.getD b (Int.toNat i) ([], []))) })
        (Post (AV.bool false) [])
        (needP ((0 : Int) ≤ i ∧ i < (↑(List.length a) : Int))
        (needP ((0 : Int) ≤ i ∧ i < (↑(List.length b) : Int))
        (ASpec Try.prog 163
        [AV.sl 2 (Seq.map T.encS ((0 : Int), (0 : Int)) (Prod.snd (List.getD a (Int.toNat i) ([], [])))) Tip.none,
        AV.sl 2 (Seq.map T.encS ((0 : Int), (0 : Int)) (Prod.snd (List.getD b (Int.toNat i) ([], [])))) Tip.none]
        [] fun (r : AV) (H' : List AObj) =>
        ∃ (x : Bool),
        r = AV.bool x ∧
        H' = [] ∧
        condP (!x) (Post (AV.bool false) [])
        (AWP Try.prog 42 n c173_4
        [(0, AV.sl 2 (Seq.map T.encN ([], []) a) Tip.none), (1, AV.sl 2 (Seq.map T.encN ([], []) b) Tip.none),
        (5, AV.int IntKind.i64 (IntKind.wrap IntKind.i64 (i + (1 : Int))))]
        [] (q173_2 n Post))))))))
      (Post (AV.bool true) []) →
    AWP Try.prog 42 n c173_4
      [(0, AV.sl 2 (Seq.map T.encN ([], []) a) Tip.none), (1, AV.sl 2 (Seq.map T.encN ([], []) b) Tip.none), (5, AV.int IntKind.i64 i)] [] (q173_2 n Post) := fun a b i n Post h => Go.Ab.AWP.loop' g173 (Cfg.live g173) c173_4 (by kernel_rfl) (by kernel_rfl) (Go.Ab.kc (by kernel_rfl) h)

-- 62
noncomputable def l62 : Nat → List Nat
  | 4 => [2, 3, 5]
  | _ => []
noncomputable def u62 : Nat → Bool
  | _ => false
noncomputable def m62 : Nat → Bool
  | _ => false
noncomputable def g62 : Cfg := { N := 56, live := l62, cut := u62, mu := m62, ret := rets }
noncomputable def c62 : Go.Code := Go.Ab.bodyOf Go.Proofs.Try.f62
noncomputable def q62_0 : Nat → (AV → List AObj → Prop) → AQ := fun (n : Nat) (Post : AV → List AObj → Prop) => endQ Try.prog (resultsOf Try.f62) Post
noncomputable def q62_1 : Nat → (AV → List AObj → Prop) → AQ := fun (n : Nat) (Post : AV → List AObj → Prop) => seqQ (fun (s' : Slots) (H' : List AObj) => awp Try.prog g62 n (codeSnd (codeSnd (codeSnd c62))) s' H' (q62_0 n Post)) (q62_0 n Post)
noncomputable def q62_2 : Nat → (AV → List AObj → Prop) → AQ := fun (n : Nat) (Post : AV → List AObj → Prop) => blockQ 0 (q62_1 n Post)
noncomputable def c62_4 : Go.Code := codeFst (codeSnd (codeFst (codeSnd (codeSnd c62))))
theorem s62 : ∀ (a b : T.Mani) (Post : AV → List AObj → Prop),
  condP (!ByteArray.toList { data := List.toArray (Prod.fst a) } == ByteArray.toList { data := List.toArray (Prod.fst b) })
      (Post (AV.bool false)
        [AObj.cells [AV.str { data := List.toArray (Prod.fst a) }, AV.sl 2 (Seq.map T.encR ((0 : Int), []) (Prod.snd a)) Tip.none],
        AObj.cells [AV.str { data := List.toArray (Prod.fst b) }, AV.sl 2 (Seq.map T.encR ((0 : Int), []) (Prod.snd b)) Tip.none]])
      (condP ((↑(List.length (Prod.snd a)) : Int) != (↑(List.length (Prod.snd b)) : Int))
        (Post (AV.bool false)
        [AObj.cells [AV.str { data := List.toArray (Prod.fst a) }, AV.sl 2 (Seq.map T.encR ((0 : Int), []) (Prod.snd a)) Tip.none],
        AObj.cells [AV.str { data := List.toArray (Prod.fst b) }, AV.sl 2 (Seq.map T.encR ((0 : Int), []) (Prod.snd b)) Tip.none]])
        (AWP Try.prog 56 0 c62_4 [(2, AV.ptr 0 0), (3, AV.ptr 1 0), (5, AV.int IntKind.i64 (0 : Int))]
        [AObj.cells [AV.str { data := List.toArray (Prod.fst a) }, AV.sl 2 (Seq.map T.encR ((0 : Int), []) (Prod.snd a)) Tip.none],
        AObj.cells [AV.str { data := List.toArray (Prod.fst b) }, AV.sl 2 (Seq.map T.encR ((0 : Int), []) (Prod.snd b)) Tip.none]]
        (q62_2 0 Post))) →
    ASpec Try.prog 62 [AV.agg (T.encM a), AV.agg (T.encM b)] [] Post := fun a b Post h => Go.Ab.ASpec.of_vc g62 Go.Proofs.Try.func62 (by kernel_rfl) (by kernel_rfl) (by kernel_rfl) (Go.Ab.kc (by kernel_rfl) h)
theorem v62_4 : ∀ (a b : T.Mani) (i : Int) (n : Nat) (Post : AV → List AObj → Prop),
  condP (decide (i < (↑(List.length (Prod.snd a)) : Int)))
      (needP ((0 : Int) ≤ i ∧ i < (↑(List.length (Prod.snd a)) : Int))
        (needP ((0 : Int) ≤ i ∧ i < (↑(List.length (Prod.snd b)) : Int))
        (condP (Prod.fst (List.getD (Prod.snd a) (Int.toNat i) ((0 : Int), [])) != Prod.fst (List.getD (Prod.snd b) (Int.toNat i) ((0 : Int), [])))
        (Post (AV.bool false)
        [AObj.cells [AV.str { data := List.toArray (Prod.fst a) }, AV.sl 2 (Seq.map T.encR ((0 : Int), []) (Prod.snd a)) Tip.none],
        AObj.cells [AV.str { data := List.toArray (Prod.fst b) }, AV.sl 2 (Seq.map T.encR ((0 : Int), []) (Prod.snd b)) Tip.none]])
        (needP ((0 : Int) ≤ i ∧ i < (↑(List.length (Prod.snd a)) : Int))
        (needP ((0 : Int) ≤ i ∧ i < (↑(List.length (Prod.snd b)) : Int))
        (ASpec Try.prog 173
        [AV.sl 2 (Seq.map T.encN ([], []) (Prod.snd (List.getD (Prod.snd a) (Int.toNat i) ((0 : Int), [])))) Tip.none,
        AV.sl 2 (Seq.map T.encN ([], []) (Prod.snd (List.getD (Prod.snd b) (Int.toNat i) ((0 : Int), [])))) Tip.none]
        [AObj.cells [AV.str { data := List.toArray (Prod.fst a) }, AV.sl 2 (Seq.map T.encR ((0 : Int), []) (Prod.snd a)) Tip.none],
        AObj.cells [AV.str { data := List.toArray (Prod.fst b) }, AV.sl 2 (Seq.map T.encR ((0 : Int), []) (Prod.snd b)) Tip.none]]
        fun (r : AV) (H' : List AObj) =>
        ∃ (x : Bool),
        r = AV.bool x ∧
        H' =
        [AObj.cells [AV.str { data := List.toArray (Prod.fst a) }, AV.sl 2 (Seq.map T.encR ((0 : Int), []) (Prod.snd a)) Tip.none],
        AObj.cells [AV.str { data := List.toArray (Prod.fst b) }, AV.sl 2 (Seq.map T.encR ((0 : Int), []) (Prod.snd b)) Tip.none]] ∧
        condP (!x)
        (Post (AV.bool false)
        [AObj.cells [AV.str { data := List.toArray (Prod.fst a) }, AV.sl 2 (Seq.map T.encR ((0 : Int), []) (Prod.snd a)) Tip.none],
        AObj.cells [AV.str { data := List.toArray (Prod.fst b) }, AV.sl 2 (Seq.map T.encR ((0 : Int), []) (Prod.snd b)) Tip.none]])
        (AWP Try.prog 56 n c62_4
        [(2, AV.ptr 0 0), (3, AV.ptr 1 0), (5, AV.int IntKind.i64 (IntKind.wrap IntKind.i64 (i + (1 : Int))))]
        [AObj.cells [AV.str { data := List.toArray (Prod.fst a) }, AV.sl 2 (Seq.map T.encR ((0 : Int), []) (Prod.snd a)) Tip.none],
        AObj.cells [AV.str { data := List.toArray (Prod.fst b) }, AV.sl 2 (Seq.map T.encR ((0 : Int), []) (Prod.snd b)) Tip.none]]
        (q62_2 n Post))))))))
      (Post (AV.bool true)
        [AObj.cells [AV.str { data := List.toArray (Prod.fst a) }, AV.sl 2 (Seq.map T.encR ((0 : Int), []) (Prod.snd a)) Tip.none],
        AObj.cells [AV.str { data := List.toArray (Prod.fst b) }, AV.sl 2 (Seq.map T.encR ((0 : Int), []) (Prod.snd b)) Tip.none]]) →
    AWP Try.prog 56 n c62_4 [(2, AV.ptr 0 0), (3, AV.ptr 1 0), (5, AV.int IntKind.i64 i)] [AObj.cells (T.encM a), AObj.cells (T.encM b)]
      (q62_2 n Post) := fun a b i n Post h => Go.Ab.AWP.loop' g62 (Cfg.live g62) c62_4 (by kernel_rfl) (by kernel_rfl) (Go.Ab.kc (by kernel_rfl) h)

end
end C
end

section
/- Printed: what the code of functions 184, 264, 172, 270, 271, 273, 272, 276, 275, 274, 181, 326, 277 asks for, by the framework's own reading of it; each line is checked against the code. -/

set_option linter.unusedVariables false
set_option maxRecDepth 100000
set_option maxHeartbeats 4000000
open Go Go.Ab Go.Proofs
namespace W
noncomputable section

noncomputable def updC (args : List AV) (H : List AObj) (p e : Int) : List AObj := match args with
  | .ptr c _ :: _ => match H[c]? with
    | some (.cells [.ptr id off]) => V.upd3 [.ptr id off] H p e
    | _ => H
  | _ => H
noncomputable def tl (args : List AV) : List AV := match args with
  | _ :: r => r
  | _ => []
noncomputable def HR (bs : List UInt8) (p e : Int) : List AObj := [V.rd bs p e, .cells [.ptr 0 0], .cells [.fn 270 [.ptr 1 0]], .cells [.fn 271 [.ptr 1 0]], .cells [.fn 272 [.ptr 2 0, .ptr 1 0, .ptr 3 0]]]
noncomputable def retW : List (Nat × Ret) := [
  (9039, ⟨Unit, fun _ _ _ => .bool true, fun _ H _ => H⟩),
  (181, ⟨T.Mani × Int, fun _ _ x => .tup [.agg (T.encM x.1), .int .i64 x.2], fun _ H _ => H⟩),
  (277, ⟨T.Mani × Int, fun _ _ x => .tup [.agg (T.encM x.1), .int .i64 x.2], fun _ H _ => H⟩),
  (184, ⟨List UInt8, fun _ _ x => .sl 1 (.map encB 0 x) .none, fun _ H _ => H⟩),
  (172, ⟨ByteArray, fun _ _ x => .str x, fun _ H _ => H⟩),
  (270, ⟨ByteArray × Int × Int, fun _ _ x => .str x.1, fun a H x => updC a H x.2.1 x.2.2⟩),
  (271, ⟨T.Span × Int × Int, fun _ _ x => .agg (T.encS x.1), fun a H x => updC a H x.2.1 x.2.2⟩),
  (272, ⟨T.Need × Int × Int, fun _ _ x => .agg (T.encN x.1), fun a H x => updC (tl a) H x.2.1 x.2.2⟩),
  (275, ⟨T.Rel × Int × Int, fun _ _ x => .agg (T.encR x.1), fun a H x => updC a H x.2.1 x.2.2⟩),
  (273, ⟨List T.Span × Int × Int, fun _ _ x => .sl 2 (.map T.encS (0, 0) x.1) .none, fun a H x => V.upd3 a H x.2.1 x.2.2⟩),
  (276, ⟨List T.Need × Int × Int, fun _ _ x => .sl 2 (.map T.encN ([], []) x.1) .none, fun a H x => V.upd3 a H x.2.1 x.2.2⟩),
  (274, ⟨List T.Rel × Int × Int, fun _ _ x => .sl 2 (.map T.encR (0, []) x.1) .none, fun a H x => V.upd3 a H x.2.1 x.2.2⟩),
  (326, ⟨List T.Need × ByteArray × Int, fun _ _ x => .sl 2 (.map T.encN ([], []) x.1) .none, fun a H x => V.upd2 a H x.2.1 x.2.2⟩),
  (264, ⟨ByteArray, fun _ _ x => .str x, fun _ H _ => H⟩)]
noncomputable def rets : FuncId → List Ret := lookupR (retW ++ C.retC ++ V.retL)

-- 184
noncomputable def l184 : Nat → List Nat
  | 5 => [3, 22, 23, 24]
  | 9 => [3, 22, 23, 24, 37, 38, 39]
  | 13 => [3, 22, 23, 24, 37, 38, 39, 53, 54, 55]
  | _ => []
noncomputable def u184 : Nat → Bool
  | _ => false
noncomputable def m184 : Nat → Bool
  | _ => false
noncomputable def g184 : Cfg := { N := 73, live := l184, cut := u184, mu := m184, ret := rets }
noncomputable def c184 : Go.Code := Go.Ab.bodyOf Go.Proofs.Try.f184
noncomputable def q184_0 : Nat → (AV → List AObj → Prop) → AQ := fun (n : Nat) (Post : AV → List AObj → Prop) => endQ Try.prog (resultsOf Try.f184) Post
noncomputable def q184_1 : Nat → (AV → List AObj → Prop) → AQ := fun (n : Nat) (Post : AV → List AObj → Prop) => seqQ (fun (s' : Slots) (H' : List AObj) => awp Try.prog g184 n (codeSnd (codeSnd (codeSnd (codeSnd c184)))) s' H' (q184_0 n Post)) (q184_0 n Post)
noncomputable def q184_2 : Nat → (AV → List AObj → Prop) → AQ := fun (n : Nat) (Post : AV → List AObj → Prop) => blockQ 0 (q184_1 n Post)
noncomputable def c184_5 : Go.Code := codeFst (codeSnd (codeFst (codeSnd (codeSnd (codeSnd c184)))))
theorem s184 : ∀ (m : T.Mani) (Post : AV → List AObj → Prop),
  (ASpec Try.prog 185 [AV.agg [AV.str { data := List.toArray (Prod.fst m) }, AV.sl 2 (Seq.map T.encR ((0 : Int), []) (Prod.snd m)) Tip.none]]
      [AObj.cells [AV.str { data := List.toArray (Prod.fst m) }, AV.sl 2 (Seq.map T.encR ((0 : Int), []) (Prod.snd m)) Tip.none]] fun (r : AV) (H' : List AObj) =>
      ∃ (x : Bool),
        r = AV.bool x ∧
        H' = [AObj.cells [AV.str { data := List.toArray (Prod.fst m) }, AV.sl 2 (Seq.map T.encR ((0 : Int), []) (Prod.snd m)) Tip.none]] ∧
        condP (!x) (Post (AV.sl 0 (Seq.raw []) Tip.nil) [AObj.cells [AV.str { data := List.toArray (Prod.fst m) }, AV.sl 2 (Seq.map T.encR ((0 : Int), []) (Prod.snd m)) Tip.none]])
        (ASpec Try.prog 141 [AV.sl 0 (Seq.raw []) Tip.nil, AV.str { data := List.toArray (Prod.fst m) }]
        [AObj.cells [AV.str { data := List.toArray (Prod.fst m) }, AV.sl 2 (Seq.map T.encR ((0 : Int), []) (Prod.snd m)) Tip.none]] fun (r : AV) (H' : List AObj) =>
        ∃ (x : List UInt8),
        r = AV.sl 1 (Seq.map encB (0 : UInt8) x) (Tip.tok 1) ∧
        H' = [AObj.cells [AV.str { data := List.toArray (Prod.fst m) }, AV.sl 2 (Seq.map T.encR ((0 : Int), []) (Prod.snd m)) Tip.none], AObj.tok] ∧
        (AV.int IntKind.i64 (↑(List.length (Prod.snd m)) : Int) = AV.int IntKind.i64 (↑(List.length (Prod.snd m)) : Int) ∧
        [AObj.cells [AV.str { data := List.toArray (Prod.fst m) }, AV.sl 2 (Seq.map T.encR ((0 : Int), []) (Prod.snd m)) Tip.none], AObj.tok] =
        [AObj.cells [AV.str { data := List.toArray (Prod.fst m) }, AV.sl 2 (Seq.map T.encR ((0 : Int), []) (Prod.snd m)) Tip.none], AObj.tok]) ∧
        (AV.sl 2 (Seq.map T.encR ((0 : Int), []) (Prod.snd m)) Tip.none = AV.sl 2 (Seq.map T.encR ((0 : Int), []) (Prod.snd m)) Tip.none ∧
        [AObj.cells [AV.str { data := List.toArray (Prod.fst m) }, AV.sl 2 (Seq.map T.encR ((0 : Int), []) (Prod.snd m)) Tip.none], AObj.tok] =
        [AObj.cells [AV.str { data := List.toArray (Prod.fst m) }, AV.sl 2 (Seq.map T.encR ((0 : Int), []) (Prod.snd m)) Tip.none], AObj.tok]) ∧
        ASpec Try.prog 140
        [AV.sl 1 (Seq.map encB (0 : UInt8) x) (Tip.tok 1), AV.sl 1 (Seq.raw [[AV.int IntKind.i64 (↑(List.length (Prod.snd m)) : Int)]]) Tip.full]
        [AObj.cells [AV.str { data := List.toArray (Prod.fst m) }, AV.sl 2 (Seq.map T.encR ((0 : Int), []) (Prod.snd m)) Tip.none], AObj.tok]
        fun (r : AV) (H' : List AObj) =>
        ∃ (x : List UInt8),
        r = AV.sl 1 (Seq.map encB (0 : UInt8) x) (Tip.tok 2) ∧
        H' = [AObj.cells [AV.str { data := List.toArray (Prod.fst m) }, AV.sl 2 (Seq.map T.encR ((0 : Int), []) (Prod.snd m)) Tip.none], AObj.tok, AObj.tok] ∧
        AWP Try.prog 73 0 c184_5
        [(3, AV.sl 1 (Seq.map encB (0 : UInt8) x) (Tip.tok 2)),
        (22, AV.sl 2 (Seq.map T.encR ((0 : Int), []) (Prod.snd m)) Tip.none), (23, AV.int IntKind.i64 (↑(List.length (Prod.snd m)) : Int)),
        (24, AV.int IntKind.i64 (0 : Int))]
        [AObj.cells [AV.str { data := List.toArray (Prod.fst m) }, AV.sl 2 (Seq.map T.encR ((0 : Int), []) (Prod.snd m)) Tip.none], AObj.tok, AObj.tok]
        (q184_2 0 Post))) →
    ASpec Try.prog 184 [AV.agg (T.encM m)] [] Post := fun m Post h => Go.Ab.ASpec.of_vc g184 Go.Proofs.Try.func184 (by kernel_rfl) (by kernel_rfl) (by kernel_rfl) (Go.Ab.kc (by kernel_rfl) h)
noncomputable def q184_3 : Nat → (AV → List AObj → Prop) → AQ := fun (n : Nat) (Post : AV → List AObj → Prop) => loopQ Try.prog 73 n c184_5 (q184_2 n Post) (Cfg.live g184)
noncomputable def q184_4 : Nat → (AV → List AObj → Prop) → AQ := fun (n : Nat) (Post : AV → List AObj → Prop) => seqQ (fun (s' : Slots) (H' : List AObj) => awp Try.prog g184 n (codeSnd (codeSnd (codeSnd (codeFst c184_5)))) s' H' (q184_3 n Post)) (q184_3 n Post)
noncomputable def q184_5 : Nat → (AV → List AObj → Prop) → AQ := fun (n : Nat) (Post : AV → List AObj → Prop) => blockQ 1 (q184_4 n Post)
noncomputable def q184_6 : Nat → (AV → List AObj → Prop) → AQ := fun (n : Nat) (Post : AV → List AObj → Prop) => blockQ 2 (q184_5 n Post)
noncomputable def c184_9 : Go.Code := codeFst (codeSnd (codeSnd (codeSnd (codeFst (codeFst (codeSnd (codeSnd (codeFst c184_5))))))))
theorem v184_5 : ∀ (b : List UInt8) (rs : List T.Rel) (n i : Int) (n_1 : Nat) (Post : AV → List AObj → Prop),
  condP (decide (i < n))
      (needP ((0 : Int) ≤ i ∧ i < (↑(List.length rs) : Int))
        (ASpec Try.prog 140
        [AV.sl 1 (Seq.map encB (0 : UInt8) b) Tip.none,
        AV.sl 1
        (Seq.raw
        [[AV.int IntKind.i64 (Prod.fst (List.getD rs (Int.toNat i) ((0 : Int), [])))], [AV.int IntKind.i64 (↑(List.length (Prod.snd (List.getD rs (Int.toNat i) ((0 : Int), [])))) : Int)]])
        Tip.full]
        [AObj.cells
        [AV.int IntKind.i64 (Prod.fst (List.getD rs (Int.toNat i) ((0 : Int), []))), AV.sl 2 (Seq.map T.encN ([], []) (Prod.snd (List.getD rs (Int.toNat i) ((0 : Int), [])))) Tip.none]]
        fun (r : AV) (H' : List AObj) =>
        ∃ (x : List UInt8),
        r = AV.sl 1 (Seq.map encB (0 : UInt8) x) (Tip.tok 1) ∧
        H' =
        [AObj.cells
        [AV.int IntKind.i64 (Prod.fst (List.getD rs (Int.toNat i) ((0 : Int), []))),
        AV.sl 2 (Seq.map T.encN ([], []) (Prod.snd (List.getD rs (Int.toNat i) ((0 : Int), [])))) Tip.none],
        AObj.tok] ∧
        AWP Try.prog 73 n_1 c184_9
        [(3, AV.sl 1 (Seq.map encB (0 : UInt8) x) (Tip.tok 1)), (22, AV.sl 2 (Seq.map T.encR ((0 : Int), []) rs) Tip.none),
        (23, AV.int IntKind.i64 n), (24, AV.int IntKind.i64 i),
        (37, AV.sl 2 (Seq.map T.encN ([], []) (Prod.snd (List.getD rs (Int.toNat i) ((0 : Int), [])))) Tip.none),
        (38, AV.int IntKind.i64 (↑(List.length (Prod.snd (List.getD rs (Int.toNat i) ((0 : Int), [])))) : Int)), (39, AV.int IntKind.i64 (0 : Int))]
        [AObj.cells
        [AV.int IntKind.i64 (Prod.fst (List.getD rs (Int.toNat i) ((0 : Int), []))),
        AV.sl 2 (Seq.map T.encN ([], []) (Prod.snd (List.getD rs (Int.toNat i) ((0 : Int), [])))) Tip.none],
        AObj.tok]
        (q184_6 n_1 Post)))
      (Post (AV.sl 1 (Seq.map encB (0 : UInt8) b) Tip.none) []) →
    AWP Try.prog 73 n_1 c184_5
      [(3, AV.sl 1 (Seq.map encB (0 : UInt8) b) Tip.none), (22, AV.sl 2 (Seq.map T.encR ((0 : Int), []) rs) Tip.none), (23, AV.int IntKind.i64 n),
        (24, AV.int IntKind.i64 i)]
      [] (q184_2 n_1 Post) := fun b rs n i n Post h => Go.Ab.AWP.loop' g184 (Cfg.live g184) c184_5 (by kernel_rfl) (by kernel_rfl) (Go.Ab.kc (by kernel_rfl) h)
noncomputable def q184_7 : Nat → (AV → List AObj → Prop) → AQ := fun (n : Nat) (Post : AV → List AObj → Prop) => loopQ Try.prog 73 n c184_9 (q184_6 n Post) (Cfg.live g184)
noncomputable def q184_8 : Nat → (AV → List AObj → Prop) → AQ := fun (n : Nat) (Post : AV → List AObj → Prop) => seqQ (fun (s' : Slots) (H' : List AObj) => awp Try.prog g184 n (codeSnd (codeSnd (codeSnd (codeFst c184_9)))) s' H' (q184_7 n Post)) (q184_7 n Post)
noncomputable def q184_9 : Nat → (AV → List AObj → Prop) → AQ := fun (n : Nat) (Post : AV → List AObj → Prop) => blockQ 3 (q184_8 n Post)
noncomputable def q184_10 : Nat → (AV → List AObj → Prop) → AQ := fun (n : Nat) (Post : AV → List AObj → Prop) => blockQ 4 (q184_9 n Post)
noncomputable def c184_13 : Go.Code := codeFst (codeSnd (codeSnd (codeSnd (codeFst (codeFst (codeSnd (codeSnd (codeFst c184_9))))))))
theorem v184_9 : ∀ (b : List UInt8) (rs : List T.Rel) (n i : Int) (ns : List T.Need) (n2 i2 : Int) (n_1 : Nat) (Post : AV → List AObj → Prop),
  condP (decide (i2 < n2))
      (needP ((0 : Int) ≤ i2 ∧ i2 < (↑(List.length ns) : Int))
        (ASpec Try.prog 141 [AV.sl 1 (Seq.map encB (0 : UInt8) b) Tip.none, AV.str { data := List.toArray (Prod.fst (List.getD ns (Int.toNat i2) ([], []))) }]
        [AObj.cells
        [AV.str { data := List.toArray (Prod.fst (List.getD ns (Int.toNat i2) ([], []))) },
        AV.sl 2 (Seq.map T.encS ((0 : Int), (0 : Int)) (Prod.snd (List.getD ns (Int.toNat i2) ([], [])))) Tip.none]]
        fun (r : AV) (H' : List AObj) =>
        ∃ (x : List UInt8),
        r = AV.sl 1 (Seq.map encB (0 : UInt8) x) (Tip.tok 1) ∧
        H' =
        [AObj.cells
        [AV.str { data := List.toArray (Prod.fst (List.getD ns (Int.toNat i2) ([], []))) },
        AV.sl 2 (Seq.map T.encS ((0 : Int), (0 : Int)) (Prod.snd (List.getD ns (Int.toNat i2) ([], [])))) Tip.none],
        AObj.tok] ∧
        (AV.int IntKind.i64 (↑(List.length (Prod.snd (List.getD ns (Int.toNat i2) ([], [])))) : Int) =
        AV.int IntKind.i64 (↑(List.length (Prod.snd (List.getD ns (Int.toNat i2) ([], [])))) : Int) ∧
        [AObj.cells
        [AV.str { data := List.toArray (Prod.fst (List.getD ns (Int.toNat i2) ([], []))) },
        AV.sl 2 (Seq.map T.encS ((0 : Int), (0 : Int)) (Prod.snd (List.getD ns (Int.toNat i2) ([], [])))) Tip.none],
        AObj.tok] =
        [AObj.cells
        [AV.str { data := List.toArray (Prod.fst (List.getD ns (Int.toNat i2) ([], []))) },
        AV.sl 2 (Seq.map T.encS ((0 : Int), (0 : Int)) (Prod.snd (List.getD ns (Int.toNat i2) ([], [])))) Tip.none],
        AObj.tok]) ∧
        (AV.sl 2 (Seq.map T.encS ((0 : Int), (0 : Int)) (Prod.snd (List.getD ns (Int.toNat i2) ([], [])))) Tip.none =
        AV.sl 2 (Seq.map T.encS ((0 : Int), (0 : Int)) (Prod.snd (List.getD ns (Int.toNat i2) ([], [])))) Tip.none ∧
        [AObj.cells
        [AV.str { data := List.toArray (Prod.fst (List.getD ns (Int.toNat i2) ([], []))) },
        AV.sl 2 (Seq.map T.encS ((0 : Int), (0 : Int)) (Prod.snd (List.getD ns (Int.toNat i2) ([], [])))) Tip.none],
        AObj.tok] =
        [AObj.cells
        [AV.str { data := List.toArray (Prod.fst (List.getD ns (Int.toNat i2) ([], []))) },
        AV.sl 2 (Seq.map T.encS ((0 : Int), (0 : Int)) (Prod.snd (List.getD ns (Int.toNat i2) ([], [])))) Tip.none],
        AObj.tok]) ∧
        ASpec Try.prog 140
        [AV.sl 1 (Seq.map encB (0 : UInt8) x) (Tip.tok 1),
        AV.sl 1 (Seq.raw [[AV.int IntKind.i64 (↑(List.length (Prod.snd (List.getD ns (Int.toNat i2) ([], [])))) : Int)]]) Tip.full]
        [AObj.cells
        [AV.str { data := List.toArray (Prod.fst (List.getD ns (Int.toNat i2) ([], []))) },
        AV.sl 2 (Seq.map T.encS ((0 : Int), (0 : Int)) (Prod.snd (List.getD ns (Int.toNat i2) ([], [])))) Tip.none],
        AObj.tok]
        fun (r : AV) (H' : List AObj) =>
        ∃ (x : List UInt8),
        r = AV.sl 1 (Seq.map encB (0 : UInt8) x) (Tip.tok 2) ∧
        H' =
        [AObj.cells
        [AV.str { data := List.toArray (Prod.fst (List.getD ns (Int.toNat i2) ([], []))) },
        AV.sl 2 (Seq.map T.encS ((0 : Int), (0 : Int)) (Prod.snd (List.getD ns (Int.toNat i2) ([], [])))) Tip.none],
        AObj.tok, AObj.tok] ∧
        AWP Try.prog 73 n_1 c184_13
        [(3, AV.sl 1 (Seq.map encB (0 : UInt8) x) (Tip.tok 2)), (22, AV.sl 2 (Seq.map T.encR ((0 : Int), []) rs) Tip.none),
        (23, AV.int IntKind.i64 n), (24, AV.int IntKind.i64 i), (37, AV.sl 2 (Seq.map T.encN ([], []) ns) Tip.none),
        (38, AV.int IntKind.i64 n2), (39, AV.int IntKind.i64 i2),
        (53, AV.sl 2 (Seq.map T.encS ((0 : Int), (0 : Int)) (Prod.snd (List.getD ns (Int.toNat i2) ([], [])))) Tip.none),
        (54, AV.int IntKind.i64 (↑(List.length (Prod.snd (List.getD ns (Int.toNat i2) ([], [])))) : Int)), (55, AV.int IntKind.i64 (0 : Int))]
        [AObj.cells
        [AV.str { data := List.toArray (Prod.fst (List.getD ns (Int.toNat i2) ([], []))) },
        AV.sl 2 (Seq.map T.encS ((0 : Int), (0 : Int)) (Prod.snd (List.getD ns (Int.toNat i2) ([], [])))) Tip.none],
        AObj.tok, AObj.tok]
        (q184_10 n_1 Post)))
      (AWP Try.prog 73 n_1 c184_5
        [(3, AV.sl 1 (Seq.map encB (0 : UInt8) b) Tip.none), (22, AV.sl 2 (Seq.map T.encR ((0 : Int), []) rs) Tip.none), (23, AV.int IntKind.i64 n),
        (24, AV.int IntKind.i64 (IntKind.wrap IntKind.i64 (i + (1 : Int))))]
        [] (q184_2 n_1 Post)) →
    AWP Try.prog 73 n_1 c184_9
      [(3, AV.sl 1 (Seq.map encB (0 : UInt8) b) Tip.none), (22, AV.sl 2 (Seq.map T.encR ((0 : Int), []) rs) Tip.none), (23, AV.int IntKind.i64 n),
        (24, AV.int IntKind.i64 i), (37, AV.sl 2 (Seq.map T.encN ([], []) ns) Tip.none), (38, AV.int IntKind.i64 n2), (39, AV.int IntKind.i64 i2)]
      [] (q184_6 n_1 Post) := fun b rs n i ns n2 i2 n Post h => Go.Ab.AWP.loop' g184 (Cfg.live g184) c184_9 (by kernel_rfl) (by kernel_rfl) (Go.Ab.kc (by kernel_rfl) h)
theorem v184_13 : ∀ (b : List UInt8) (rs : List T.Rel) (n i : Int) (ns : List T.Need) (n2 i2 : Int) (ss : List T.Span) (n3 i3 : Int) (n_1 : Nat) (Post : AV → List AObj → Prop),
  condP (decide (i3 < n3))
      (needP ((0 : Int) ≤ i3 ∧ i3 < (↑(List.length ss) : Int))
        (ASpec Try.prog 140
        [AV.sl 1 (Seq.map encB (0 : UInt8) b) Tip.none,
        AV.sl 1
        (Seq.raw
        [[AV.int IntKind.i64 (Prod.fst (List.getD ss (Int.toNat i3) ((0 : Int), (0 : Int))))],
        [AV.int IntKind.i64 (IntKind.wrap IntKind.i64 (Prod.snd (List.getD ss (Int.toNat i3) ((0 : Int), (0 : Int))) - Prod.fst (List.getD ss (Int.toNat i3) ((0 : Int), (0 : Int)))))]])
        Tip.full]
        [AObj.cells [AV.int IntKind.i64 (Prod.fst (List.getD ss (Int.toNat i3) ((0 : Int), (0 : Int)))), AV.int IntKind.i64 (Prod.snd (List.getD ss (Int.toNat i3) ((0 : Int), (0 : Int))))]]
        fun (r : AV) (H' : List AObj) =>
        ∃ (x : List UInt8),
        r = AV.sl 1 (Seq.map encB (0 : UInt8) x) (Tip.tok 1) ∧
        H' =
        [AObj.cells [AV.int IntKind.i64 (Prod.fst (List.getD ss (Int.toNat i3) ((0 : Int), (0 : Int)))), AV.int IntKind.i64 (Prod.snd (List.getD ss (Int.toNat i3) ((0 : Int), (0 : Int))))],
        AObj.tok] ∧
        AWP Try.prog 73 n_1 c184_13
        [(3, AV.sl 1 (Seq.map encB (0 : UInt8) x) (Tip.tok 1)), (22, AV.sl 2 (Seq.map T.encR ((0 : Int), []) rs) Tip.none),
        (23, AV.int IntKind.i64 n), (24, AV.int IntKind.i64 i), (37, AV.sl 2 (Seq.map T.encN ([], []) ns) Tip.none), (38, AV.int IntKind.i64 n2),
        (39, AV.int IntKind.i64 i2), (53, AV.sl 2 (Seq.map T.encS ((0 : Int), (0 : Int)) ss) Tip.none), (54, AV.int IntKind.i64 n3),
        (55, AV.int IntKind.i64 (IntKind.wrap IntKind.i64 (i3 + (1 : Int))))]
        [AObj.cells [AV.int IntKind.i64 (Prod.fst (List.getD ss (Int.toNat i3) ((0 : Int), (0 : Int)))), AV.int IntKind.i64 (Prod.snd (List.getD ss (Int.toNat i3) ((0 : Int), (0 : Int))))],
        AObj.tok]
        (q184_10 n_1 Post)))
      (AWP Try.prog 73 n_1 c184_9
        [(3, AV.sl 1 (Seq.map encB (0 : UInt8) b) Tip.none), (22, AV.sl 2 (Seq.map T.encR ((0 : Int), []) rs) Tip.none), (23, AV.int IntKind.i64 n),
        (24, AV.int IntKind.i64 i), (37, AV.sl 2 (Seq.map T.encN ([], []) ns) Tip.none), (38, AV.int IntKind.i64 n2),
        (39, AV.int IntKind.i64 (IntKind.wrap IntKind.i64 (i2 + (1 : Int))))]
        [] (q184_6 n_1 Post)) →
    AWP Try.prog 73 n_1 c184_13
      [(3, AV.sl 1 (Seq.map encB (0 : UInt8) b) Tip.none), (22, AV.sl 2 (Seq.map T.encR ((0 : Int), []) rs) Tip.none), (23, AV.int IntKind.i64 n),
        (24, AV.int IntKind.i64 i), (37, AV.sl 2 (Seq.map T.encN ([], []) ns) Tip.none), (38, AV.int IntKind.i64 n2), (39, AV.int IntKind.i64 i2),
        (53, AV.sl 2 (Seq.map T.encS ((0 : Int), (0 : Int)) ss) Tip.none), (54, AV.int IntKind.i64 n3), (55, AV.int IntKind.i64 i3)]
      [] (q184_10 n_1 Post) := fun b rs n i ns n2 i2 ss n3 i3 n Post h => Go.Ab.AWP.loop' g184 (Cfg.live g184) c184_13 (by kernel_rfl) (by kernel_rfl) (Go.Ab.kc (by kernel_rfl) h)

-- 264
noncomputable def l264 : Nat → List Nat
  | 3 => [0, 3, 4]
  | 7 => [0, 3, 4, 5]
  | _ => []
noncomputable def u264 : Nat → Bool
  | _ => false
noncomputable def m264 : Nat → Bool
  | _ => false
noncomputable def g264 : Cfg := { N := 63, live := l264, cut := u264, mu := m264, ret := rets }
noncomputable def c264 : Go.Code := Go.Ab.bodyOf Go.Proofs.Try.f264
noncomputable def q264_0 : Nat → (AV → List AObj → Prop) → AQ := fun (n : Nat) (Post : AV → List AObj → Prop) => endQ Try.prog (resultsOf Try.f264) Post
noncomputable def q264_1 : Nat → (AV → List AObj → Prop) → AQ := fun (n : Nat) (Post : AV → List AObj → Prop) => seqQ (fun (s' : Slots) (H' : List AObj) => awp Try.prog g264 n (codeSnd (codeSnd (codeSnd c264))) s' H' (q264_0 n Post)) (q264_0 n Post)
noncomputable def q264_2 : Nat → (AV → List AObj → Prop) → AQ := fun (n : Nat) (Post : AV → List AObj → Prop) => blockQ 0 (q264_1 n Post)
noncomputable def c264_3 : Go.Code := codeFst (codeSnd (codeFst (codeSnd (codeSnd c264))))
theorem s264 : ∀ (l : List T.Need) (Post : AV → List AObj → Prop),
  (ASpec Try.prog 150 [AV.int IntKind.i64 (↑(List.length l) : Int)] [] fun (r : AV) (H' : List AObj) =>
      ∃ (x : ByteArray),
        r = AV.str x ∧
        H' = [] ∧
        AWP Try.prog 63 0 c264_3 [(0, AV.sl 2 (Seq.map T.encN ([], []) l) Tip.none), (3, AV.str x), (4, AV.int IntKind.i64 (0 : Int))] []
        (q264_2 0 Post)) →
    ASpec Try.prog 264 [AV.sl 2 (Seq.map T.encN ([], []) l) Tip.none] [] Post := fun l Post h => Go.Ab.ASpec.of_vc g264 Go.Proofs.Try.func264 (by kernel_rfl) (by kernel_rfl) (by kernel_rfl) (Go.Ab.kc (by kernel_rfl) h)
noncomputable def q264_3 : Nat → (AV → List AObj → Prop) → AQ := fun (n : Nat) (Post : AV → List AObj → Prop) => loopQ Try.prog 63 n c264_3 (q264_2 n Post) (Cfg.live g264)
noncomputable def q264_4 : Nat → (AV → List AObj → Prop) → AQ := fun (n : Nat) (Post : AV → List AObj → Prop) => seqQ (fun (s' : Slots) (H' : List AObj) => awp Try.prog g264 n (codeSnd (codeSnd (codeFst c264_3))) s' H' (q264_3 n Post)) (q264_3 n Post)
noncomputable def q264_5 : Nat → (AV → List AObj → Prop) → AQ := fun (n : Nat) (Post : AV → List AObj → Prop) => blockQ 1 (q264_4 n Post)
noncomputable def q264_6 : Nat → (AV → List AObj → Prop) → AQ := fun (n : Nat) (Post : AV → List AObj → Prop) => blockQ 2 (q264_5 n Post)
noncomputable def c264_7 : Go.Code := codeFst (codeSnd (codeSnd (codeFst (codeFst (codeSnd (codeFst c264_3))))))
theorem v264_3 : ∀ (l : List T.Need) (s : ByteArray) (i : Int) (n : Nat) (Post : AV → List AObj → Prop),
  condP (decide (i < (↑(List.length l) : Int)))
      (needP ((0 : Int) ≤ i ∧ i < (↑(List.length l) : Int))
        (needP ((0 : Int) ≤ i ∧ i < (↑(List.length l) : Int))
        (ASpec Try.prog 151 [AV.str { data := List.toArray (Prod.fst (List.getD l (Int.toNat i) ([], []))) }] [] fun (r : AV) (H' : List AObj) =>
        ∃ (x : ByteArray),
        r = AV.str x ∧
        H' = [] ∧
        (AV.int IntKind.i64 (↑(List.length (Prod.snd (List.getD l (Int.toNat i) ([], [])))) : Int) =
        AV.int IntKind.i64 (↑(List.length (Prod.snd (List.getD l (Int.toNat i) ([], [])))) : Int) ∧
        ([] : List AObj) = []) ∧
        (AV.sl 2 (Seq.map T.encS ((0 : Int), (0 : Int)) (Prod.snd (List.getD l (Int.toNat i) ([], [])))) Tip.none =
        AV.sl 2 (Seq.map T.encS ((0 : Int), (0 : Int)) (Prod.snd (List.getD l (Int.toNat i) ([], [])))) Tip.none ∧
        ([] : List AObj) = []) ∧
        needP ((↑(ByteArray.size s + ByteArray.size x) : Int) ≤ (9223372036854775807 : Int))
        (ASpec Try.prog 150 [AV.int IntKind.i64 (↑(List.length (Prod.snd (List.getD l (Int.toNat i) ([], [])))) : Int)] [] fun (r : AV) (H' : List AObj) =>
        ∃ (x_1 : ByteArray),
        r = AV.str x_1 ∧
        H' = [] ∧
        needP ((↑(ByteArray.size (s ++ x) + ByteArray.size x_1) : Int) ≤ (9223372036854775807 : Int))
        (AWP Try.prog 63 n c264_7
        [(0, AV.sl 2 (Seq.map T.encN ([], []) l) Tip.none), (3, AV.str (s ++ x ++ x_1)), (4, AV.int IntKind.i64 i),
        (5, AV.int IntKind.i64 (0 : Int))]
        [] (q264_6 n Post))))))
      (Post (AV.str s) []) →
    AWP Try.prog 63 n c264_3 [(0, AV.sl 2 (Seq.map T.encN ([], []) l) Tip.none), (3, AV.str s), (4, AV.int IntKind.i64 i)] [] (q264_2 n Post) := fun l s i n Post h => Go.Ab.AWP.loop' g264 (Cfg.live g264) c264_3 (by kernel_rfl) (by kernel_rfl) (Go.Ab.kc (by kernel_rfl) h)
theorem v264_7 : ∀ (l : List T.Need) (s : ByteArray) (i k : Int) (n : Nat) (Post : AV → List AObj → Prop),
  needP ((0 : Int) ≤ i ∧ i < (↑(List.length l) : Int))
      (condP (decide (k < (↑(List.length (Prod.snd (List.getD l (Int.toNat i) ([], [])))) : Int)))
        (needP ((0 : Int) ≤ i ∧ i < (↑(List.length l) : Int))
        (needP ((0 : Int) ≤ k ∧ k < (↑(List.length (Prod.snd (List.getD l (Int.toNat i) ([], [])))) : Int))
        (ASpec Try.prog 150 [AV.int IntKind.i64 (Prod.fst (List.getD (Prod.snd (List.getD l (Int.toNat i) ([], []))) (Int.toNat k) ((0 : Int), (0 : Int))))]
        [AObj.cells
        [AV.int IntKind.i64 (Prod.fst (List.getD (Prod.snd (List.getD l (Int.toNat i) ([], []))) (Int.toNat k) ((0 : Int), (0 : Int)))),
        AV.int IntKind.i64 (Prod.snd (List.getD (Prod.snd (List.getD l (Int.toNat i) ([], []))) (Int.toNat k) ((0 : Int), (0 : Int))))]]
        fun (r : AV) (H' : List AObj) =>
        ∃ (x : ByteArray),
        r = AV.str x ∧
        H' =
        [AObj.cells
        [AV.int IntKind.i64 (Prod.fst (List.getD (Prod.snd (List.getD l (Int.toNat i) ([], []))) (Int.toNat k) ((0 : Int), (0 : Int)))),
        AV.int IntKind.i64 (Prod.snd (List.getD (Prod.snd (List.getD l (Int.toNat i) ([], []))) (Int.toNat k) ((0 : Int), (0 : Int))))]] ∧
        (AV.int IntKind.i64 (Prod.fst (List.getD (Prod.snd (List.getD l (Int.toNat i) ([], []))) (Int.toNat k) ((0 : Int), (0 : Int)))) =
        AV.int IntKind.i64 (Prod.fst (List.getD (Prod.snd (List.getD l (Int.toNat i) ([], []))) (Int.toNat k) ((0 : Int), (0 : Int)))) ∧
        [AObj.cells
        [AV.int IntKind.i64 (Prod.fst (List.getD (Prod.snd (List.getD l (Int.toNat i) ([], []))) (Int.toNat k) ((0 : Int), (0 : Int)))),
        AV.int IntKind.i64 (Prod.snd (List.getD (Prod.snd (List.getD l (Int.toNat i) ([], []))) (Int.toNat k) ((0 : Int), (0 : Int))))]] =
        [AObj.cells
        [AV.int IntKind.i64 (Prod.fst (List.getD (Prod.snd (List.getD l (Int.toNat i) ([], []))) (Int.toNat k) ((0 : Int), (0 : Int)))),
        AV.int IntKind.i64 (Prod.snd (List.getD (Prod.snd (List.getD l (Int.toNat i) ([], []))) (Int.toNat k) ((0 : Int), (0 : Int))))]]) ∧
        (AV.int IntKind.i64 (Prod.snd (List.getD (Prod.snd (List.getD l (Int.toNat i) ([], []))) (Int.toNat k) ((0 : Int), (0 : Int)))) =
        AV.int IntKind.i64 (Prod.snd (List.getD (Prod.snd (List.getD l (Int.toNat i) ([], []))) (Int.toNat k) ((0 : Int), (0 : Int)))) ∧
        [AObj.cells
        [AV.int IntKind.i64 (Prod.fst (List.getD (Prod.snd (List.getD l (Int.toNat i) ([], []))) (Int.toNat k) ((0 : Int), (0 : Int)))),
        AV.int IntKind.i64 (Prod.snd (List.getD (Prod.snd (List.getD l (Int.toNat i) ([], []))) (Int.toNat k) ((0 : Int), (0 : Int))))]] =
        [AObj.cells
        [AV.int IntKind.i64 (Prod.fst (List.getD (Prod.snd (List.getD l (Int.toNat i) ([], []))) (Int.toNat k) ((0 : Int), (0 : Int)))),
        AV.int IntKind.i64 (Prod.snd (List.getD (Prod.snd (List.getD l (Int.toNat i) ([], []))) (Int.toNat k) ((0 : Int), (0 : Int))))]]) ∧
        needP ((↑(ByteArray.size s + ByteArray.size x) : Int) ≤ (9223372036854775807 : Int))
        (ASpec Try.prog 150
        [AV.int IntKind.i64
        (IntKind.wrap IntKind.i64
        (Prod.snd (List.getD (Prod.snd (List.getD l (Int.toNat i) ([], []))) (Int.toNat k) ((0 : Int), (0 : Int))) -
        Prod.fst (List.getD (Prod.snd (List.getD l (Int.toNat i) ([], []))) (Int.toNat k) ((0 : Int), (0 : Int)))))]
        [AObj.cells
        [AV.int IntKind.i64 (Prod.fst (List.getD (Prod.snd (List.getD l (Int.toNat i) ([], []))) (Int.toNat k) ((0 : Int), (0 : Int)))),
        AV.int IntKind.i64 (Prod.snd (List.getD (Prod.snd (List.getD l (Int.toNat i) ([], []))) (Int.toNat k) ((0 : Int), (0 : Int))))]]
        fun (r : AV) (H' : List AObj) =>
        ∃ (x_1 : ByteArray),
        r = AV.str x_1 ∧
        H' =
        [AObj.cells
        [AV.int IntKind.i64 (Prod.fst (List.getD (Prod.snd (List.getD l (Int.toNat i) ([], []))) (Int.toNat k) ((0 : Int), (0 : Int)))),
        AV.int IntKind.i64 (Prod.snd (List.getD (Prod.snd (List.getD l (Int.toNat i) ([], []))) (Int.toNat k) ((0 : Int), (0 : Int))))]] ∧
        needP ((↑(ByteArray.size (s ++ x) + ByteArray.size x_1) : Int) ≤ (9223372036854775807 : Int))
        (AWP Try.prog 63 n c264_7
        [(0, AV.sl 2 (Seq.map T.encN ([], []) l) Tip.none), (3, AV.str (s ++ x ++ x_1)), (4, AV.int IntKind.i64 i),
        (5, AV.int IntKind.i64 (IntKind.wrap IntKind.i64 (k + (1 : Int))))]
        [AObj.cells
        [AV.int IntKind.i64 (Prod.fst (List.getD (Prod.snd (List.getD l (Int.toNat i) ([], []))) (Int.toNat k) ((0 : Int), (0 : Int)))),
        AV.int IntKind.i64 (Prod.snd (List.getD (Prod.snd (List.getD l (Int.toNat i) ([], []))) (Int.toNat k) ((0 : Int), (0 : Int))))]]
        (q264_6 n Post))))))
        (AWP Try.prog 63 n c264_3
        [(0, AV.sl 2 (Seq.map T.encN ([], []) l) Tip.none), (3, AV.str s), (4, AV.int IntKind.i64 (IntKind.wrap IntKind.i64 (i + (1 : Int))))] [] (q264_2 n Post))) →
    AWP Try.prog 63 n c264_7 [(0, AV.sl 2 (Seq.map T.encN ([], []) l) Tip.none), (3, AV.str s), (4, AV.int IntKind.i64 i), (5, AV.int IntKind.i64 k)] []
      (q264_6 n Post) := fun l s i k n Post h => Go.Ab.AWP.loop' g264 (Cfg.live g264) c264_7 (by kernel_rfl) (by kernel_rfl) (Go.Ab.kc (by kernel_rfl) h)

-- 172
noncomputable def l172 : Nat → List Nat
  | 5 => [1, 3, 4]
  | _ => []
noncomputable def u172 : Nat → Bool
  | _ => false
noncomputable def m172 : Nat → Bool
  | _ => false
noncomputable def g172 : Cfg := { N := 41, live := l172, cut := u172, mu := m172, ret := rets }
noncomputable def c172 : Go.Code := Go.Ab.bodyOf Go.Proofs.Try.f172
noncomputable def q172_0 : Nat → (AV → List AObj → Prop) → AQ := fun (n : Nat) (Post : AV → List AObj → Prop) => endQ Try.prog (resultsOf Try.f172) Post
noncomputable def q172_1 : Nat → (AV → List AObj → Prop) → AQ := fun (n : Nat) (Post : AV → List AObj → Prop) => seqQ (fun (s' : Slots) (H' : List AObj) => awp Try.prog g172 n (codeSnd (codeSnd (codeSnd (codeSnd c172)))) s' H' (q172_0 n Post)) (q172_0 n Post)
noncomputable def q172_2 : Nat → (AV → List AObj → Prop) → AQ := fun (n : Nat) (Post : AV → List AObj → Prop) => blockQ 0 (q172_1 n Post)
noncomputable def c172_5 : Go.Code := codeFst (codeSnd (codeFst (codeSnd (codeSnd (codeSnd c172)))))
theorem s172 : ∀ (m : T.Mani) (Post : AV → List AObj → Prop),
  (ASpec Try.prog 186 [AV.agg [AV.str { data := List.toArray (Prod.fst m) }, AV.sl 2 (Seq.map T.encR ((0 : Int), []) (Prod.snd m)) Tip.none]]
      [AObj.cells [AV.str { data := List.toArray (Prod.fst m) }, AV.sl 2 (Seq.map T.encR ((0 : Int), []) (Prod.snd m)) Tip.none]] fun (r : AV) (H' : List AObj) =>
      ∃ (x : Bool),
        r = AV.bool x ∧
        H' = [AObj.cells [AV.str { data := List.toArray (Prod.fst m) }, AV.sl 2 (Seq.map T.encR ((0 : Int), []) (Prod.snd m)) Tip.none]] ∧
        condP (!x) (Post (AV.str { data := #[] }) [AObj.cells [AV.str { data := List.toArray (Prod.fst m) }, AV.sl 2 (Seq.map T.encR ((0 : Int), []) (Prod.snd m)) Tip.none]])
        (ASpec Try.prog 151 [AV.str { data := List.toArray (Prod.fst m) }]
        [AObj.cells [AV.str { data := List.toArray (Prod.fst m) }, AV.sl 2 (Seq.map T.encR ((0 : Int), []) (Prod.snd m)) Tip.none]] fun (r : AV) (H' : List AObj) =>
        ∃ (x : ByteArray),
        r = AV.str x ∧
        H' = [AObj.cells [AV.str { data := List.toArray (Prod.fst m) }, AV.sl 2 (Seq.map T.encR ((0 : Int), []) (Prod.snd m)) Tip.none]] ∧
        (AV.int IntKind.i64 (↑(List.length (Prod.snd m)) : Int) = AV.int IntKind.i64 (↑(List.length (Prod.snd m)) : Int) ∧
        [AObj.cells [AV.str { data := List.toArray (Prod.fst m) }, AV.sl 2 (Seq.map T.encR ((0 : Int), []) (Prod.snd m)) Tip.none]] =
        [AObj.cells [AV.str { data := List.toArray (Prod.fst m) }, AV.sl 2 (Seq.map T.encR ((0 : Int), []) (Prod.snd m)) Tip.none]]) ∧
        (AV.sl 2 (Seq.map T.encR ((0 : Int), []) (Prod.snd m)) Tip.none = AV.sl 2 (Seq.map T.encR ((0 : Int), []) (Prod.snd m)) Tip.none ∧
        [AObj.cells [AV.str { data := List.toArray (Prod.fst m) }, AV.sl 2 (Seq.map T.encR ((0 : Int), []) (Prod.snd m)) Tip.none]] =
        [AObj.cells [AV.str { data := List.toArray (Prod.fst m) }, AV.sl 2 (Seq.map T.encR ((0 : Int), []) (Prod.snd m)) Tip.none]]) ∧
        ASpec Try.prog 150 [AV.int IntKind.i64 (↑(List.length (Prod.snd m)) : Int)]
        [AObj.cells [AV.str { data := List.toArray (Prod.fst m) }, AV.sl 2 (Seq.map T.encR ((0 : Int), []) (Prod.snd m)) Tip.none]] fun (r : AV) (H' : List AObj) =>
        ∃ (x_1 : ByteArray),
        r = AV.str x_1 ∧
        H' = [AObj.cells [AV.str { data := List.toArray (Prod.fst m) }, AV.sl 2 (Seq.map T.encR ((0 : Int), []) (Prod.snd m)) Tip.none]] ∧
        needP ((↑(ByteArray.size x + ByteArray.size x_1) : Int) ≤ (9223372036854775807 : Int))
        (AWP Try.prog 41 0 c172_5 [(1, AV.ptr 0 0), (3, AV.str (x ++ x_1)), (4, AV.int IntKind.i64 (0 : Int))]
        [AObj.cells [AV.str { data := List.toArray (Prod.fst m) }, AV.sl 2 (Seq.map T.encR ((0 : Int), []) (Prod.snd m)) Tip.none]] (q172_2 0 Post)))) →
    ASpec Try.prog 172 [AV.agg (T.encM m)] [] Post := fun m Post h => Go.Ab.ASpec.of_vc g172 Go.Proofs.Try.func172 (by kernel_rfl) (by kernel_rfl) (by kernel_rfl) (Go.Ab.kc (by kernel_rfl) h)
theorem v172_5 : ∀ (m : T.Mani) (s : ByteArray) (i : Int) (n : Nat) (Post : AV → List AObj → Prop),
  condP (decide (i < (↑(List.length (Prod.snd m)) : Int)))
      (needP ((0 : Int) ≤ i ∧ i < (↑(List.length (Prod.snd m)) : Int))
        (needP ((0 : Int) ≤ i ∧ i < (↑(List.length (Prod.snd m)) : Int))
        (ASpec Try.prog 150 [AV.int IntKind.i64 (Prod.fst (List.getD (Prod.snd m) (Int.toNat i) ((0 : Int), [])))]
        [AObj.cells [AV.str { data := List.toArray (Prod.fst m) }, AV.sl 2 (Seq.map T.encR ((0 : Int), []) (Prod.snd m)) Tip.none]] fun (r : AV) (H' : List AObj) =>
        ∃ (x : ByteArray),
        r = AV.str x ∧
        H' = [AObj.cells [AV.str { data := List.toArray (Prod.fst m) }, AV.sl 2 (Seq.map T.encR ((0 : Int), []) (Prod.snd m)) Tip.none]] ∧
        (AV.sl 2 (Seq.map T.encN ([], []) (Prod.snd (List.getD (Prod.snd m) (Int.toNat i) ((0 : Int), [])))) Tip.none =
        AV.sl 2 (Seq.map T.encN ([], []) (Prod.snd (List.getD (Prod.snd m) (Int.toNat i) ((0 : Int), [])))) Tip.none ∧
        [AObj.cells [AV.str { data := List.toArray (Prod.fst m) }, AV.sl 2 (Seq.map T.encR ((0 : Int), []) (Prod.snd m)) Tip.none]] =
        [AObj.cells [AV.str { data := List.toArray (Prod.fst m) }, AV.sl 2 (Seq.map T.encR ((0 : Int), []) (Prod.snd m)) Tip.none]]) ∧
        (AV.sl 2 (Seq.map T.encR ((0 : Int), []) (Prod.snd m)) Tip.none = AV.sl 2 (Seq.map T.encR ((0 : Int), []) (Prod.snd m)) Tip.none ∧
        [AObj.cells [AV.str { data := List.toArray (Prod.fst m) }, AV.sl 2 (Seq.map T.encR ((0 : Int), []) (Prod.snd m)) Tip.none]] =
        [AObj.cells [AV.str { data := List.toArray (Prod.fst m) }, AV.sl 2 (Seq.map T.encR ((0 : Int), []) (Prod.snd m)) Tip.none]]) ∧
        needP ((↑(ByteArray.size s + ByteArray.size x) : Int) ≤ (9223372036854775807 : Int))
        (ASpec Try.prog 264 [AV.sl 2 (Seq.map T.encN ([], []) (Prod.snd (List.getD (Prod.snd m) (Int.toNat i) ((0 : Int), [])))) Tip.none]
        [AObj.cells [AV.str { data := List.toArray (Prod.fst m) }, AV.sl 2 (Seq.map T.encR ((0 : Int), []) (Prod.snd m)) Tip.none]] fun (r : AV) (H' : List AObj) =>
        ∃ (x_1 : ByteArray),
        r = AV.str x_1 ∧
        H' = [AObj.cells [AV.str { data := List.toArray (Prod.fst m) }, AV.sl 2 (Seq.map T.encR ((0 : Int), []) (Prod.snd m)) Tip.none]] ∧
        needP ((↑(ByteArray.size (s ++ x) + ByteArray.size x_1) : Int) ≤ (9223372036854775807 : Int))
        (AWP Try.prog 41 n c172_5
        [(1, AV.ptr 0 0), (3, AV.str (s ++ x ++ x_1)), (4, AV.int IntKind.i64 (IntKind.wrap IntKind.i64 (i + (1 : Int))))]
        [AObj.cells [AV.str { data := List.toArray (Prod.fst m) }, AV.sl 2 (Seq.map T.encR ((0 : Int), []) (Prod.snd m)) Tip.none]] (q172_2 n Post))))))
      (Post (AV.str s) [AObj.cells [AV.str { data := List.toArray (Prod.fst m) }, AV.sl 2 (Seq.map T.encR ((0 : Int), []) (Prod.snd m)) Tip.none]]) →
    AWP Try.prog 41 n c172_5 [(1, AV.ptr 0 0), (3, AV.str s), (4, AV.int IntKind.i64 i)] [AObj.cells (T.encM m)] (q172_2 n Post) := fun m s i n Post h => Go.Ab.AWP.loop' g172 (Cfg.live g172) c172_5 (by kernel_rfl) (by kernel_rfl) (Go.Ab.kc (by kernel_rfl) h)

-- 270
noncomputable def l270 : Nat → List Nat
  | _ => []
noncomputable def u270 : Nat → Bool
  | _ => false
noncomputable def m270 : Nat → Bool
  | _ => false
noncomputable def g270 : Cfg := { N := 4, live := l270, cut := u270, mu := m270, ret := rets }
noncomputable def c270 : Go.Code := Go.Ab.bodyOf Go.Proofs.Try.f270
theorem s270 : ∀ (bs : List UInt8) (p e : Int) (Post : AV → List AObj → Prop),
  (ASpec Try.prog 145 [AV.ptr 0 0, AV.int IntKind.i64 (24 : Int)]
      [AObj.cells [AV.sl 1 (Seq.map encB (0 : UInt8) bs) Tip.none, AV.int IntKind.i64 p, AV.int IntKind.i64 e], AObj.cells [AV.ptr 0 0],
        AObj.cells [AV.fn (270 : FuncId) [AV.ptr 1 0]], AObj.cells [AV.fn (271 : FuncId) [AV.ptr 1 0]],
        AObj.cells [AV.fn (272 : FuncId) [AV.ptr 2 0, AV.ptr 1 0, AV.ptr 3 0]]]
      fun (r : AV) (H' : List AObj) =>
      ∃ (x : ByteArray × Int × Int),
        r = AV.str (Prod.fst x) ∧
        H' =
        [AObj.cells [AV.sl 1 (Seq.map encB (0 : UInt8) bs) Tip.none, AV.int IntKind.i64 (Prod.fst (Prod.snd x)), AV.int IntKind.i64 (Prod.snd (Prod.snd x))],
        AObj.cells [AV.ptr 0 0], AObj.cells [AV.fn (270 : FuncId) [AV.ptr 1 0]], AObj.cells [AV.fn (271 : FuncId) [AV.ptr 1 0]],
        AObj.cells [AV.fn (272 : FuncId) [AV.ptr 2 0, AV.ptr 1 0, AV.ptr 3 0]]] ∧
        Post (AV.str (Prod.fst x))
        [AObj.cells [AV.sl 1 (Seq.map encB (0 : UInt8) bs) Tip.none, AV.int IntKind.i64 (Prod.fst (Prod.snd x)), AV.int IntKind.i64 (Prod.snd (Prod.snd x))],
        AObj.cells [AV.ptr 0 0], AObj.cells [AV.fn (270 : FuncId) [AV.ptr 1 0]], AObj.cells [AV.fn (271 : FuncId) [AV.ptr 1 0]],
        AObj.cells [AV.fn (272 : FuncId) [AV.ptr 2 0, AV.ptr 1 0, AV.ptr 3 0]]]) →
    ASpec Try.prog 270 [AV.ptr 1 0] (HR bs p e) Post := fun bs p e Post h => Go.Ab.ASpec.of_vc g270 Go.Proofs.Try.func270 (by kernel_rfl) (by kernel_rfl) (by kernel_rfl) (Go.Ab.kc (by kernel_rfl) h)

-- 271
noncomputable def l271 : Nat → List Nat
  | _ => []
noncomputable def u271 : Nat → Bool
  | _ => false
noncomputable def m271 : Nat → Bool
  | _ => false
noncomputable def g271 : Cfg := { N := 11, live := l271, cut := u271, mu := m271, ret := rets }
noncomputable def c271 : Go.Code := Go.Ab.bodyOf Go.Proofs.Try.f271
theorem s271 : ∀ (bs : List UInt8) (p e : Int) (Post : AV → List AObj → Prop),
  (ASpec Try.prog 143 [AV.ptr 0 0, AV.int IntKind.i64 (1000000000 : Int)]
      [AObj.cells [AV.sl 1 (Seq.map encB (0 : UInt8) bs) Tip.none, AV.int IntKind.i64 p, AV.int IntKind.i64 e], AObj.cells [AV.ptr 0 0],
        AObj.cells [AV.fn (270 : FuncId) [AV.ptr 1 0]], AObj.cells [AV.fn (271 : FuncId) [AV.ptr 1 0]],
        AObj.cells [AV.fn (272 : FuncId) [AV.ptr 2 0, AV.ptr 1 0, AV.ptr 3 0]], AObj.cells [AV.int IntKind.i64 (0 : Int), AV.int IntKind.i64 (0 : Int)]]
      fun (r : AV) (H' : List AObj) =>
      ∃ (x : Int × Int × Int),
        r = AV.int IntKind.i64 (Prod.fst x) ∧
        H' =
        [AObj.cells [AV.sl 1 (Seq.map encB (0 : UInt8) bs) Tip.none, AV.int IntKind.i64 (Prod.fst (Prod.snd x)), AV.int IntKind.i64 (Prod.snd (Prod.snd x))],
        AObj.cells [AV.ptr 0 0], AObj.cells [AV.fn (270 : FuncId) [AV.ptr 1 0]], AObj.cells [AV.fn (271 : FuncId) [AV.ptr 1 0]],
        AObj.cells [AV.fn (272 : FuncId) [AV.ptr 2 0, AV.ptr 1 0, AV.ptr 3 0]],
        AObj.cells [AV.int IntKind.i64 (0 : Int), AV.int IntKind.i64 (0 : Int)]] ∧
        ASpec Try.prog 143 [AV.ptr 0 0, AV.int IntKind.i64 (1000000000 : Int)]
        [AObj.cells [AV.sl 1 (Seq.map encB (0 : UInt8) bs) Tip.none, AV.int IntKind.i64 (Prod.fst (Prod.snd x)), AV.int IntKind.i64 (Prod.snd (Prod.snd x))],
        AObj.cells [AV.ptr 0 0], AObj.cells [AV.fn (270 : FuncId) [AV.ptr 1 0]], AObj.cells [AV.fn (271 : FuncId) [AV.ptr 1 0]],
        AObj.cells [AV.fn (272 : FuncId) [AV.ptr 2 0, AV.ptr 1 0, AV.ptr 3 0]],
        AObj.cells [AV.int IntKind.i64 (0 : Int), AV.int IntKind.i64 (0 : Int)]]
        fun (r : AV) (H' : List AObj) =>
        ∃ (x_1 : Int × Int × Int),
        r = AV.int IntKind.i64 (Prod.fst x_1) ∧
        H' =
        [AObj.cells [AV.sl 1 (Seq.map encB (0 : UInt8) bs) Tip.none, AV.int IntKind.i64 (Prod.fst (Prod.snd x_1)), AV.int IntKind.i64 (Prod.snd (Prod.snd x_1))],
        AObj.cells [AV.ptr 0 0], AObj.cells [AV.fn (270 : FuncId) [AV.ptr 1 0]], AObj.cells [AV.fn (271 : FuncId) [AV.ptr 1 0]],
        AObj.cells [AV.fn (272 : FuncId) [AV.ptr 2 0, AV.ptr 1 0, AV.ptr 3 0]],
        AObj.cells [AV.int IntKind.i64 (0 : Int), AV.int IntKind.i64 (0 : Int)]] ∧
        Post (AV.agg [AV.int IntKind.i64 (Prod.fst x), AV.int IntKind.i64 (IntKind.wrap IntKind.i64 (Prod.fst x + Prod.fst x_1))])
        [AObj.cells [AV.sl 1 (Seq.map encB (0 : UInt8) bs) Tip.none, AV.int IntKind.i64 (Prod.fst (Prod.snd x_1)), AV.int IntKind.i64 (Prod.snd (Prod.snd x_1))],
        AObj.cells [AV.ptr 0 0], AObj.cells [AV.fn (270 : FuncId) [AV.ptr 1 0]], AObj.cells [AV.fn (271 : FuncId) [AV.ptr 1 0]],
        AObj.cells [AV.fn (272 : FuncId) [AV.ptr 2 0, AV.ptr 1 0, AV.ptr 3 0]],
        AObj.cells [AV.int IntKind.i64 (Prod.fst x), AV.int IntKind.i64 (IntKind.wrap IntKind.i64 (Prod.fst x + Prod.fst x_1))]]) →
    ASpec Try.prog 271 [AV.ptr 1 0] (HR bs p e) Post := fun bs p e Post h => Go.Ab.ASpec.of_vc g271 Go.Proofs.Try.func271 (by kernel_rfl) (by kernel_rfl) (by kernel_rfl) (Go.Ab.kc (by kernel_rfl) h)

-- 273
noncomputable def l273 : Nat → List Nat
  | 3 => [0, 2, 7, 8]
  | _ => []
noncomputable def u273 : Nat → Bool
  | _ => false
noncomputable def m273 : Nat → Bool
  | _ => false
noncomputable def g273 : Cfg := { N := 27, live := l273, cut := u273, mu := m273, ret := rets }
noncomputable def c273 : Go.Code := Go.Ab.bodyOf Go.Proofs.Try.f273
noncomputable def q273_0 : Nat → (AV → List AObj → Prop) → AQ := fun (n : Nat) (Post : AV → List AObj → Prop) => endQ Try.prog (resultsOf Try.f273) Post
noncomputable def q273_1 : Nat → (AV → List AObj → Prop) → AQ := fun (n : Nat) (Post : AV → List AObj → Prop) => seqQ (fun (s' : Slots) (H' : List AObj) => awp Try.prog g273 n (codeSnd (codeSnd (codeSnd c273))) s' H' (q273_0 n Post)) (q273_0 n Post)
noncomputable def q273_2 : Nat → (AV → List AObj → Prop) → AQ := fun (n : Nat) (Post : AV → List AObj → Prop) => blockQ 0 (q273_1 n Post)
noncomputable def c273_3 : Go.Code := codeFst (codeSnd (codeFst (codeSnd (codeSnd c273))))
theorem s273 : ∀ (bs : List UInt8) (p e most : Int) (Post : AV → List AObj → Prop),
  (ASpec Try.prog 143 [AV.ptr 0 0, AV.int IntKind.i64 most]
      [AObj.cells [AV.sl 1 (Seq.map encB (0 : UInt8) bs) Tip.none, AV.int IntKind.i64 p, AV.int IntKind.i64 e], AObj.cells [AV.ptr 0 0],
        AObj.cells [AV.fn (270 : FuncId) [AV.ptr 1 0]], AObj.cells [AV.fn (271 : FuncId) [AV.ptr 1 0]],
        AObj.cells [AV.fn (272 : FuncId) [AV.ptr 2 0, AV.ptr 1 0, AV.ptr 3 0]]]
      fun (r : AV) (H' : List AObj) =>
      ∃ (x : Int × Int × Int),
        r = AV.int IntKind.i64 (Prod.fst x) ∧
        H' =
        [AObj.cells [AV.sl 1 (Seq.map encB (0 : UInt8) bs) Tip.none, AV.int IntKind.i64 (Prod.fst (Prod.snd x)), AV.int IntKind.i64 (Prod.snd (Prod.snd x))],
        AObj.cells [AV.ptr 0 0], AObj.cells [AV.fn (270 : FuncId) [AV.ptr 1 0]], AObj.cells [AV.fn (271 : FuncId) [AV.ptr 1 0]],
        AObj.cells [AV.fn (272 : FuncId) [AV.ptr 2 0, AV.ptr 1 0, AV.ptr 3 0]]] ∧
        AWP Try.prog 27 5 c273_3
        [(0, AV.ptr 0 0), (2, AV.fn (271 : FuncId) [AV.ptr 1 0]), (7, AV.sl 0 (Seq.raw []) Tip.nil),
        (8, AV.int IntKind.i64 (Prod.fst x))]
        [AObj.cells [AV.sl 1 (Seq.map encB (0 : UInt8) bs) Tip.none, AV.int IntKind.i64 (Prod.fst (Prod.snd x)), AV.int IntKind.i64 (Prod.snd (Prod.snd x))],
        AObj.cells [AV.ptr 0 0], AObj.cells [AV.fn (270 : FuncId) [AV.ptr 1 0]], AObj.cells [AV.fn (271 : FuncId) [AV.ptr 1 0]],
        AObj.cells [AV.fn (272 : FuncId) [AV.ptr 2 0, AV.ptr 1 0, AV.ptr 3 0]]]
        (q273_2 5 Post)) →
    ASpec Try.prog 273 [AV.ptr 0 0, AV.int IntKind.i64 most, AV.fn (271 : FuncId) [AV.ptr 1 0]] (HR bs p e) Post := fun bs p e most Post h => Go.Ab.ASpec.of_vc g273 Go.Proofs.Try.func273 (by kernel_rfl) (by kernel_rfl) (by kernel_rfl) (Go.Ab.kc (by kernel_rfl) h)
theorem v273_3 : ∀ (bs : List UInt8) (p e : Int) (acc : List T.Span) (n : Int) (n_1 : Nat) (Post : AV → List AObj → Prop),
  condP (decide (n > (0 : Int)))
      (ASpec Try.prog 144 [AV.ptr 0 0]
        [AObj.cells [AV.sl 1 (Seq.map encB (0 : UInt8) bs) Tip.none, AV.int IntKind.i64 p, AV.int IntKind.i64 e], AObj.cells [AV.ptr 0 0],
        AObj.cells [AV.fn (270 : FuncId) [AV.ptr 1 0]], AObj.cells [AV.fn (271 : FuncId) [AV.ptr 1 0]],
        AObj.cells [AV.fn (272 : FuncId) [AV.ptr 2 0, AV.ptr 1 0, AV.ptr 3 0]], AObj.tok]
        fun (r : AV) (H' : List AObj) =>
        ∃ (x : Int),
        r = AV.int IntKind.i64 x ∧
        H' =
        [AObj.cells [AV.sl 1 (Seq.map encB (0 : UInt8) bs) Tip.none, AV.int IntKind.i64 p, AV.int IntKind.i64 e], AObj.cells [AV.ptr 0 0],
        AObj.cells [AV.fn (270 : FuncId) [AV.ptr 1 0]], AObj.cells [AV.fn (271 : FuncId) [AV.ptr 1 0]],
        AObj.cells [AV.fn (272 : FuncId) [AV.ptr 2 0, AV.ptr 1 0, AV.ptr 3 0]], AObj.tok] ∧
        condP (x == (0 : Int))
        (ASpec Try.prog 271 [AV.ptr 1 0]
        [AObj.cells [AV.sl 1 (Seq.map encB (0 : UInt8) bs) Tip.none, AV.int IntKind.i64 p, AV.int IntKind.i64 e], AObj.cells [AV.ptr 0 0],
        AObj.cells [AV.fn (270 : FuncId) [AV.ptr 1 0]], AObj.cells [AV.fn (271 : FuncId) [AV.ptr 1 0]],
        AObj.cells [AV.fn (272 : FuncId) [AV.ptr 2 0, AV.ptr 1 0, AV.ptr 3 0]], AObj.tok]
        fun (r : AV) (H' : List AObj) =>
        ∃ (x : T.Span × Int × Int),
        r = AV.agg [AV.int IntKind.i64 (Prod.fst (Prod.fst x)), AV.int IntKind.i64 (Prod.snd (Prod.fst x))] ∧
        H' =
        [AObj.cells [AV.sl 1 (Seq.map encB (0 : UInt8) bs) Tip.none, AV.int IntKind.i64 (Prod.fst (Prod.snd x)), AV.int IntKind.i64 (Prod.snd (Prod.snd x))],
        AObj.cells [AV.ptr 0 0], AObj.cells [AV.fn (270 : FuncId) [AV.ptr 1 0]], AObj.cells [AV.fn (271 : FuncId) [AV.ptr 1 0]],
        AObj.cells [AV.fn (272 : FuncId) [AV.ptr 2 0, AV.ptr 1 0, AV.ptr 3 0]], AObj.tok] ∧
        needP ((List.length acc + 1) * 16 ≤ 140737488351232)
        (AWP Try.prog 27 n_1 c273_3
        [(0, AV.ptr 0 0), (2, AV.fn (271 : FuncId) [AV.ptr 1 0]),
        (7,
        AV.sl 2
        (Seq.app (Seq.map T.encS ((0 : Int), (0 : Int)) acc) (Seq.raw [[AV.int IntKind.i64 (Prod.fst (Prod.fst x)), AV.int IntKind.i64 (Prod.snd (Prod.fst x))]]))
        (Tip.tok 6)),
        (8, AV.int IntKind.i64 (IntKind.wrap IntKind.i64 (n - (1 : Int))))]
        [AObj.cells [AV.sl 1 (Seq.map encB (0 : UInt8) bs) Tip.none, AV.int IntKind.i64 (Prod.fst (Prod.snd x)), AV.int IntKind.i64 (Prod.snd (Prod.snd x))],
        AObj.cells [AV.ptr 0 0], AObj.cells [AV.fn (270 : FuncId) [AV.ptr 1 0]], AObj.cells [AV.fn (271 : FuncId) [AV.ptr 1 0]],
        AObj.cells [AV.fn (272 : FuncId) [AV.ptr 2 0, AV.ptr 1 0, AV.ptr 3 0]], AObj.gone, AObj.tok]
        (q273_2 n_1 Post)))
        (Post (AV.sl 2 (Seq.map T.encS ((0 : Int), (0 : Int)) acc) (Tip.tok 5))
        [AObj.cells [AV.sl 1 (Seq.map encB (0 : UInt8) bs) Tip.none, AV.int IntKind.i64 p, AV.int IntKind.i64 e], AObj.cells [AV.ptr 0 0],
        AObj.cells [AV.fn (270 : FuncId) [AV.ptr 1 0]], AObj.cells [AV.fn (271 : FuncId) [AV.ptr 1 0]],
        AObj.cells [AV.fn (272 : FuncId) [AV.ptr 2 0, AV.ptr 1 0, AV.ptr 3 0]], AObj.tok]))
      (Post (AV.sl 2 (Seq.map T.encS ((0 : Int), (0 : Int)) acc) (Tip.tok 5))
        [AObj.cells [AV.sl 1 (Seq.map encB (0 : UInt8) bs) Tip.none, AV.int IntKind.i64 p, AV.int IntKind.i64 e], AObj.cells [AV.ptr 0 0],
        AObj.cells [AV.fn (270 : FuncId) [AV.ptr 1 0]], AObj.cells [AV.fn (271 : FuncId) [AV.ptr 1 0]],
        AObj.cells [AV.fn (272 : FuncId) [AV.ptr 2 0, AV.ptr 1 0, AV.ptr 3 0]], AObj.tok]) →
    AWP Try.prog 27 n_1 c273_3
      [(0, AV.ptr 0 0), (2, AV.fn (271 : FuncId) [AV.ptr 1 0]),
        (7, AV.sl 2 (Seq.map T.encS ((0 : Int), (0 : Int)) acc) (Tip.tok 5)), (8, AV.int IntKind.i64 n)]
      (HR bs p e ++ [AObj.tok]) (q273_2 n_1 Post) := fun bs p e acc n n Post h => Go.Ab.AWP.loop' g273 (Cfg.live g273) c273_3 (by kernel_rfl) (by kernel_rfl) (Go.Ab.kc (by kernel_rfl) h)

-- 272
noncomputable def l272 : Nat → List Nat
  | _ => []
noncomputable def u272 : Nat → Bool
  | _ => false
noncomputable def m272 : Nat → Bool
  | _ => false
noncomputable def g272 : Cfg := { N := 13, live := l272, cut := u272, mu := m272, ret := rets }
noncomputable def c272 : Go.Code := Go.Ab.bodyOf Go.Proofs.Try.f272
theorem s272 : ∀ (bs : List UInt8) (p e : Int) (Post : AV → List AObj → Prop),
  (ASpec Try.prog 270 [AV.ptr 1 0]
      [AObj.cells [AV.sl 1 (Seq.map encB (0 : UInt8) bs) Tip.none, AV.int IntKind.i64 p, AV.int IntKind.i64 e], AObj.cells [AV.ptr 0 0],
        AObj.cells [AV.fn (270 : FuncId) [AV.ptr 1 0]], AObj.cells [AV.fn (271 : FuncId) [AV.ptr 1 0]],
        AObj.cells [AV.fn (272 : FuncId) [AV.ptr 2 0, AV.ptr 1 0, AV.ptr 3 0]],
        AObj.cells [AV.str { data := #[] }, AV.sl 0 (Seq.raw []) Tip.nil]]
      fun (r : AV) (H' : List AObj) =>
      ∃ (x : ByteArray × Int × Int),
        r = AV.str (Prod.fst x) ∧
        H' =
        [AObj.cells [AV.sl 1 (Seq.map encB (0 : UInt8) bs) Tip.none, AV.int IntKind.i64 (Prod.fst (Prod.snd x)), AV.int IntKind.i64 (Prod.snd (Prod.snd x))],
        AObj.cells [AV.ptr 0 0], AObj.cells [AV.fn (270 : FuncId) [AV.ptr 1 0]], AObj.cells [AV.fn (271 : FuncId) [AV.ptr 1 0]],
        AObj.cells [AV.fn (272 : FuncId) [AV.ptr 2 0, AV.ptr 1 0, AV.ptr 3 0]],
        AObj.cells [AV.str { data := #[] }, AV.sl 0 (Seq.raw []) Tip.nil]] ∧
        ASpec Try.prog 273 [AV.ptr 0 0, AV.int IntKind.i64 (6 : Int), AV.fn (271 : FuncId) [AV.ptr 1 0]]
        [AObj.cells [AV.sl 1 (Seq.map encB (0 : UInt8) bs) Tip.none, AV.int IntKind.i64 (Prod.fst (Prod.snd x)), AV.int IntKind.i64 (Prod.snd (Prod.snd x))],
        AObj.cells [AV.ptr 0 0], AObj.cells [AV.fn (270 : FuncId) [AV.ptr 1 0]], AObj.cells [AV.fn (271 : FuncId) [AV.ptr 1 0]],
        AObj.cells [AV.fn (272 : FuncId) [AV.ptr 2 0, AV.ptr 1 0, AV.ptr 3 0]],
        AObj.cells [AV.str { data := #[] }, AV.sl 0 (Seq.raw []) Tip.nil], AObj.cells [AV.str (Prod.fst x), AV.sl 0 (Seq.raw []) Tip.nil]]
        fun (r : AV) (H' : List AObj) =>
        ∃ (x_1 : List T.Span × Int × Int),
        r = AV.sl 2 (Seq.map T.encS ((0 : Int), (0 : Int)) (Prod.fst x_1)) Tip.none ∧
        H' =
        [AObj.cells [AV.sl 1 (Seq.map encB (0 : UInt8) bs) Tip.none, AV.int IntKind.i64 (Prod.fst (Prod.snd x_1)), AV.int IntKind.i64 (Prod.snd (Prod.snd x_1))],
        AObj.cells [AV.ptr 0 0], AObj.cells [AV.fn (270 : FuncId) [AV.ptr 1 0]], AObj.cells [AV.fn (271 : FuncId) [AV.ptr 1 0]],
        AObj.cells [AV.fn (272 : FuncId) [AV.ptr 2 0, AV.ptr 1 0, AV.ptr 3 0]],
        AObj.cells [AV.str { data := #[] }, AV.sl 0 (Seq.raw []) Tip.nil], AObj.cells [AV.str (Prod.fst x), AV.sl 0 (Seq.raw []) Tip.nil]] ∧
        Post (AV.agg [AV.str (Prod.fst x), AV.sl 2 (Seq.map T.encS ((0 : Int), (0 : Int)) (Prod.fst x_1)) Tip.none])
        [AObj.cells [AV.sl 1 (Seq.map encB (0 : UInt8) bs) Tip.none, AV.int IntKind.i64 (Prod.fst (Prod.snd x_1)), AV.int IntKind.i64 (Prod.snd (Prod.snd x_1))],
        AObj.cells [AV.ptr 0 0], AObj.cells [AV.fn (270 : FuncId) [AV.ptr 1 0]], AObj.cells [AV.fn (271 : FuncId) [AV.ptr 1 0]],
        AObj.cells [AV.fn (272 : FuncId) [AV.ptr 2 0, AV.ptr 1 0, AV.ptr 3 0]],
        AObj.cells [AV.str (Prod.fst x), AV.sl 2 (Seq.map T.encS ((0 : Int), (0 : Int)) (Prod.fst x_1)) Tip.none],
        AObj.cells [AV.str (Prod.fst x), AV.sl 2 (Seq.map T.encS ((0 : Int), (0 : Int)) (Prod.fst x_1)) Tip.none]]) →
    ASpec Try.prog 272 [AV.ptr 2 0, AV.ptr 1 0, AV.ptr 3 0] (HR bs p e) Post := fun bs p e Post h => Go.Ab.ASpec.of_vc g272 Go.Proofs.Try.func272 (by kernel_rfl) (by kernel_rfl) (by kernel_rfl) (Go.Ab.kc (by kernel_rfl) h)

-- 276
noncomputable def l276 : Nat → List Nat
  | 3 => [0, 2, 7, 8]
  | _ => []
noncomputable def u276 : Nat → Bool
  | _ => false
noncomputable def m276 : Nat → Bool
  | _ => false
noncomputable def g276 : Cfg := { N := 27, live := l276, cut := u276, mu := m276, ret := rets }
noncomputable def c276 : Go.Code := Go.Ab.bodyOf Go.Proofs.Try.f276
noncomputable def q276_0 : Nat → (AV → List AObj → Prop) → AQ := fun (n : Nat) (Post : AV → List AObj → Prop) => endQ Try.prog (resultsOf Try.f276) Post
noncomputable def q276_1 : Nat → (AV → List AObj → Prop) → AQ := fun (n : Nat) (Post : AV → List AObj → Prop) => seqQ (fun (s' : Slots) (H' : List AObj) => awp Try.prog g276 n (codeSnd (codeSnd (codeSnd c276))) s' H' (q276_0 n Post)) (q276_0 n Post)
noncomputable def q276_2 : Nat → (AV → List AObj → Prop) → AQ := fun (n : Nat) (Post : AV → List AObj → Prop) => blockQ 0 (q276_1 n Post)
noncomputable def c276_3 : Go.Code := codeFst (codeSnd (codeFst (codeSnd (codeSnd c276))))
theorem s276 : ∀ (bs : List UInt8) (p e most : Int) (Post : AV → List AObj → Prop),
  (ASpec Try.prog 143 [AV.ptr 0 0, AV.int IntKind.i64 most]
      [AObj.cells [AV.sl 1 (Seq.map encB (0 : UInt8) bs) Tip.none, AV.int IntKind.i64 p, AV.int IntKind.i64 e], AObj.cells [AV.ptr 0 0],
        AObj.cells [AV.fn (270 : FuncId) [AV.ptr 1 0]], AObj.cells [AV.fn (271 : FuncId) [AV.ptr 1 0]],
        AObj.cells [AV.fn (272 : FuncId) [AV.ptr 2 0, AV.ptr 1 0, AV.ptr 3 0]]]
      fun (r : AV) (H' : List AObj) =>
      ∃ (x : Int × Int × Int),
        r = AV.int IntKind.i64 (Prod.fst x) ∧
        H' =
        [AObj.cells [AV.sl 1 (Seq.map encB (0 : UInt8) bs) Tip.none, AV.int IntKind.i64 (Prod.fst (Prod.snd x)), AV.int IntKind.i64 (Prod.snd (Prod.snd x))],
        AObj.cells [AV.ptr 0 0], AObj.cells [AV.fn (270 : FuncId) [AV.ptr 1 0]], AObj.cells [AV.fn (271 : FuncId) [AV.ptr 1 0]],
        AObj.cells [AV.fn (272 : FuncId) [AV.ptr 2 0, AV.ptr 1 0, AV.ptr 3 0]]] ∧
        AWP Try.prog 27 5 c276_3
        [(0, AV.ptr 0 0), (2, AV.fn (272 : FuncId) [AV.ptr 2 0, AV.ptr 1 0, AV.ptr 3 0]),
        (7, AV.sl 0 (Seq.raw []) Tip.nil), (8, AV.int IntKind.i64 (Prod.fst x))]
        [AObj.cells [AV.sl 1 (Seq.map encB (0 : UInt8) bs) Tip.none, AV.int IntKind.i64 (Prod.fst (Prod.snd x)), AV.int IntKind.i64 (Prod.snd (Prod.snd x))],
        AObj.cells [AV.ptr 0 0], AObj.cells [AV.fn (270 : FuncId) [AV.ptr 1 0]], AObj.cells [AV.fn (271 : FuncId) [AV.ptr 1 0]],
        AObj.cells [AV.fn (272 : FuncId) [AV.ptr 2 0, AV.ptr 1 0, AV.ptr 3 0]]]
        (q276_2 5 Post)) →
    ASpec Try.prog 276 [AV.ptr 0 0, AV.int IntKind.i64 most, AV.fn (272 : FuncId) [AV.ptr 2 0, AV.ptr 1 0, AV.ptr 3 0]]
      (HR bs p e) Post := fun bs p e most Post h => Go.Ab.ASpec.of_vc g276 Go.Proofs.Try.func276 (by kernel_rfl) (by kernel_rfl) (by kernel_rfl) (Go.Ab.kc (by kernel_rfl) h)
theorem v276_3 : ∀ (bs : List UInt8) (p e : Int) (acc : List T.Need) (n : Int) (n_1 : Nat) (Post : AV → List AObj → Prop),
  condP (decide (n > (0 : Int)))
      (ASpec Try.prog 144 [AV.ptr 0 0]
        [AObj.cells [AV.sl 1 (Seq.map encB (0 : UInt8) bs) Tip.none, AV.int IntKind.i64 p, AV.int IntKind.i64 e], AObj.cells [AV.ptr 0 0],
        AObj.cells [AV.fn (270 : FuncId) [AV.ptr 1 0]], AObj.cells [AV.fn (271 : FuncId) [AV.ptr 1 0]],
        AObj.cells [AV.fn (272 : FuncId) [AV.ptr 2 0, AV.ptr 1 0, AV.ptr 3 0]], AObj.tok]
        fun (r : AV) (H' : List AObj) =>
        ∃ (x : Int),
        r = AV.int IntKind.i64 x ∧
        H' =
        [AObj.cells [AV.sl 1 (Seq.map encB (0 : UInt8) bs) Tip.none, AV.int IntKind.i64 p, AV.int IntKind.i64 e], AObj.cells [AV.ptr 0 0],
        AObj.cells [AV.fn (270 : FuncId) [AV.ptr 1 0]], AObj.cells [AV.fn (271 : FuncId) [AV.ptr 1 0]],
        AObj.cells [AV.fn (272 : FuncId) [AV.ptr 2 0, AV.ptr 1 0, AV.ptr 3 0]], AObj.tok] ∧
        condP (x == (0 : Int))
        (ASpec Try.prog 272 [AV.ptr 2 0, AV.ptr 1 0, AV.ptr 3 0]
        [AObj.cells [AV.sl 1 (Seq.map encB (0 : UInt8) bs) Tip.none, AV.int IntKind.i64 p, AV.int IntKind.i64 e], AObj.cells [AV.ptr 0 0],
        AObj.cells [AV.fn (270 : FuncId) [AV.ptr 1 0]], AObj.cells [AV.fn (271 : FuncId) [AV.ptr 1 0]],
        AObj.cells [AV.fn (272 : FuncId) [AV.ptr 2 0, AV.ptr 1 0, AV.ptr 3 0]], AObj.tok]
        fun (r : AV) (H' : List AObj) =>
        ∃ (x : T.Need × Int × Int),
        r = AV.agg [AV.str { data := List.toArray (Prod.fst (Prod.fst x)) }, AV.sl 2 (Seq.map T.encS ((0 : Int), (0 : Int)) (Prod.snd (Prod.fst x))) Tip.none] ∧
        H' =
        [AObj.cells [AV.sl 1 (Seq.map encB (0 : UInt8) bs) Tip.none, AV.int IntKind.i64 (Prod.fst (Prod.snd x)), AV.int IntKind.i64 (Prod.snd (Prod.snd x))],
        AObj.cells [AV.ptr 0 0], AObj.cells [AV.fn (270 : FuncId) [AV.ptr 1 0]], AObj.cells [AV.fn (271 : FuncId) [AV.ptr 1 0]],
        AObj.cells [AV.fn (272 : FuncId) [AV.ptr 2 0, AV.ptr 1 0, AV.ptr 3 0]], AObj.tok] ∧
        needP ((List.length acc + 1) * 40 ≤ 140737488351232)
        (AWP Try.prog 27 n_1 c276_3
        [(0, AV.ptr 0 0), (2, AV.fn (272 : FuncId) [AV.ptr 2 0, AV.ptr 1 0, AV.ptr 3 0]),
        (7,
        AV.sl 2
        (Seq.app (Seq.map T.encN ([], []) acc)
        (Seq.raw [[AV.str { data := List.toArray (Prod.fst (Prod.fst x)) }, AV.sl 2 (Seq.map T.encS ((0 : Int), (0 : Int)) (Prod.snd (Prod.fst x))) Tip.none]]))
        (Tip.tok 6)),
        (8, AV.int IntKind.i64 (IntKind.wrap IntKind.i64 (n - (1 : Int))))]
        [AObj.cells [AV.sl 1 (Seq.map encB (0 : UInt8) bs) Tip.none, AV.int IntKind.i64 (Prod.fst (Prod.snd x)), AV.int IntKind.i64 (Prod.snd (Prod.snd x))],
        AObj.cells [AV.ptr 0 0], AObj.cells [AV.fn (270 : FuncId) [AV.ptr 1 0]], AObj.cells [AV.fn (271 : FuncId) [AV.ptr 1 0]],
        AObj.cells [AV.fn (272 : FuncId) [AV.ptr 2 0, AV.ptr 1 0, AV.ptr 3 0]], AObj.gone, AObj.tok]
        (q276_2 n_1 Post)))
        (Post (AV.sl 2 (Seq.map T.encN ([], []) acc) (Tip.tok 5))
        [AObj.cells [AV.sl 1 (Seq.map encB (0 : UInt8) bs) Tip.none, AV.int IntKind.i64 p, AV.int IntKind.i64 e], AObj.cells [AV.ptr 0 0],
        AObj.cells [AV.fn (270 : FuncId) [AV.ptr 1 0]], AObj.cells [AV.fn (271 : FuncId) [AV.ptr 1 0]],
        AObj.cells [AV.fn (272 : FuncId) [AV.ptr 2 0, AV.ptr 1 0, AV.ptr 3 0]], AObj.tok]))
      (Post (AV.sl 2 (Seq.map T.encN ([], []) acc) (Tip.tok 5))
        [AObj.cells [AV.sl 1 (Seq.map encB (0 : UInt8) bs) Tip.none, AV.int IntKind.i64 p, AV.int IntKind.i64 e], AObj.cells [AV.ptr 0 0],
        AObj.cells [AV.fn (270 : FuncId) [AV.ptr 1 0]], AObj.cells [AV.fn (271 : FuncId) [AV.ptr 1 0]],
        AObj.cells [AV.fn (272 : FuncId) [AV.ptr 2 0, AV.ptr 1 0, AV.ptr 3 0]], AObj.tok]) →
    AWP Try.prog 27 n_1 c276_3
      [(0, AV.ptr 0 0), (2, AV.fn (272 : FuncId) [AV.ptr 2 0, AV.ptr 1 0, AV.ptr 3 0]),
        (7, AV.sl 2 (Seq.map T.encN ([], []) acc) (Tip.tok 5)), (8, AV.int IntKind.i64 n)]
      (HR bs p e ++ [AObj.tok]) (q276_2 n_1 Post) := fun bs p e acc n n Post h => Go.Ab.AWP.loop' g276 (Cfg.live g276) c276_3 (by kernel_rfl) (by kernel_rfl) (Go.Ab.kc (by kernel_rfl) h)

-- 275
noncomputable def l275 : Nat → List Nat
  | _ => []
noncomputable def u275 : Nat → Bool
  | _ => false
noncomputable def m275 : Nat → Bool
  | _ => false
noncomputable def g275 : Cfg := { N := 12, live := l275, cut := u275, mu := m275, ret := rets }
noncomputable def c275 : Go.Code := Go.Ab.bodyOf Go.Proofs.Try.f275
theorem s275 : ∀ (bs : List UInt8) (p e : Int) (Post : AV → List AObj → Prop),
  (ASpec Try.prog 143 [AV.ptr 0 0, AV.int IntKind.i64 (1000000000 : Int)]
      [AObj.cells [AV.sl 1 (Seq.map encB (0 : UInt8) bs) Tip.none, AV.int IntKind.i64 p, AV.int IntKind.i64 e], AObj.cells [AV.ptr 0 0],
        AObj.cells [AV.fn (270 : FuncId) [AV.ptr 1 0]], AObj.cells [AV.fn (271 : FuncId) [AV.ptr 1 0]],
        AObj.cells [AV.fn (272 : FuncId) [AV.ptr 2 0, AV.ptr 1 0, AV.ptr 3 0]],
        AObj.cells [AV.int IntKind.i64 (0 : Int), AV.sl 0 (Seq.raw []) Tip.nil]]
      fun (r : AV) (H' : List AObj) =>
      ∃ (x : Int × Int × Int),
        r = AV.int IntKind.i64 (Prod.fst x) ∧
        H' =
        [AObj.cells [AV.sl 1 (Seq.map encB (0 : UInt8) bs) Tip.none, AV.int IntKind.i64 (Prod.fst (Prod.snd x)), AV.int IntKind.i64 (Prod.snd (Prod.snd x))],
        AObj.cells [AV.ptr 0 0], AObj.cells [AV.fn (270 : FuncId) [AV.ptr 1 0]], AObj.cells [AV.fn (271 : FuncId) [AV.ptr 1 0]],
        AObj.cells [AV.fn (272 : FuncId) [AV.ptr 2 0, AV.ptr 1 0, AV.ptr 3 0]],
        AObj.cells [AV.int IntKind.i64 (0 : Int), AV.sl 0 (Seq.raw []) Tip.nil]] ∧
        ASpec Try.prog 276
        [AV.ptr 0 0, AV.int IntKind.i64 (6 : Int), AV.fn (272 : FuncId) [AV.ptr 2 0, AV.ptr 1 0, AV.ptr 3 0]]
        [AObj.cells [AV.sl 1 (Seq.map encB (0 : UInt8) bs) Tip.none, AV.int IntKind.i64 (Prod.fst (Prod.snd x)), AV.int IntKind.i64 (Prod.snd (Prod.snd x))],
        AObj.cells [AV.ptr 0 0], AObj.cells [AV.fn (270 : FuncId) [AV.ptr 1 0]], AObj.cells [AV.fn (271 : FuncId) [AV.ptr 1 0]],
        AObj.cells [AV.fn (272 : FuncId) [AV.ptr 2 0, AV.ptr 1 0, AV.ptr 3 0]],
        AObj.cells [AV.int IntKind.i64 (0 : Int), AV.sl 0 (Seq.raw []) Tip.nil], AObj.cells [AV.int IntKind.i64 (Prod.fst x), AV.sl 0 (Seq.raw []) Tip.nil]]
        fun (r : AV) (H' : List AObj) =>
        ∃ (x_1 : List T.Need × Int × Int),
        r = AV.sl 2 (Seq.map T.encN ([], []) (Prod.fst x_1)) Tip.none ∧
        H' =
        [AObj.cells [AV.sl 1 (Seq.map encB (0 : UInt8) bs) Tip.none, AV.int IntKind.i64 (Prod.fst (Prod.snd x_1)), AV.int IntKind.i64 (Prod.snd (Prod.snd x_1))],
        AObj.cells [AV.ptr 0 0], AObj.cells [AV.fn (270 : FuncId) [AV.ptr 1 0]], AObj.cells [AV.fn (271 : FuncId) [AV.ptr 1 0]],
        AObj.cells [AV.fn (272 : FuncId) [AV.ptr 2 0, AV.ptr 1 0, AV.ptr 3 0]],
        AObj.cells [AV.int IntKind.i64 (0 : Int), AV.sl 0 (Seq.raw []) Tip.nil], AObj.cells [AV.int IntKind.i64 (Prod.fst x), AV.sl 0 (Seq.raw []) Tip.nil]] ∧
        Post (AV.agg [AV.int IntKind.i64 (Prod.fst x), AV.sl 2 (Seq.map T.encN ([], []) (Prod.fst x_1)) Tip.none])
        [AObj.cells [AV.sl 1 (Seq.map encB (0 : UInt8) bs) Tip.none, AV.int IntKind.i64 (Prod.fst (Prod.snd x_1)), AV.int IntKind.i64 (Prod.snd (Prod.snd x_1))],
        AObj.cells [AV.ptr 0 0], AObj.cells [AV.fn (270 : FuncId) [AV.ptr 1 0]], AObj.cells [AV.fn (271 : FuncId) [AV.ptr 1 0]],
        AObj.cells [AV.fn (272 : FuncId) [AV.ptr 2 0, AV.ptr 1 0, AV.ptr 3 0]],
        AObj.cells [AV.int IntKind.i64 (Prod.fst x), AV.sl 2 (Seq.map T.encN ([], []) (Prod.fst x_1)) Tip.none],
        AObj.cells [AV.int IntKind.i64 (Prod.fst x), AV.sl 2 (Seq.map T.encN ([], []) (Prod.fst x_1)) Tip.none]]) →
    ASpec Try.prog 275 [AV.ptr 1 0, AV.ptr 4 0] (HR bs p e) Post := fun bs p e Post h => Go.Ab.ASpec.of_vc g275 Go.Proofs.Try.func275 (by kernel_rfl) (by kernel_rfl) (by kernel_rfl) (Go.Ab.kc (by kernel_rfl) h)

-- 274
noncomputable def l274 : Nat → List Nat
  | 3 => [0, 2, 7, 8]
  | _ => []
noncomputable def u274 : Nat → Bool
  | _ => false
noncomputable def m274 : Nat → Bool
  | _ => false
noncomputable def g274 : Cfg := { N := 27, live := l274, cut := u274, mu := m274, ret := rets }
noncomputable def c274 : Go.Code := Go.Ab.bodyOf Go.Proofs.Try.f274
noncomputable def q274_0 : Nat → (AV → List AObj → Prop) → AQ := fun (n : Nat) (Post : AV → List AObj → Prop) => endQ Try.prog (resultsOf Try.f274) Post
noncomputable def q274_1 : Nat → (AV → List AObj → Prop) → AQ := fun (n : Nat) (Post : AV → List AObj → Prop) => seqQ (fun (s' : Slots) (H' : List AObj) => awp Try.prog g274 n (codeSnd (codeSnd (codeSnd c274))) s' H' (q274_0 n Post)) (q274_0 n Post)
noncomputable def q274_2 : Nat → (AV → List AObj → Prop) → AQ := fun (n : Nat) (Post : AV → List AObj → Prop) => blockQ 0 (q274_1 n Post)
noncomputable def c274_3 : Go.Code := codeFst (codeSnd (codeFst (codeSnd (codeSnd c274))))
theorem s274 : ∀ (bs : List UInt8) (p e most : Int) (Post : AV → List AObj → Prop),
  (ASpec Try.prog 143 [AV.ptr 0 0, AV.int IntKind.i64 most]
      [AObj.cells [AV.sl 1 (Seq.map encB (0 : UInt8) bs) Tip.none, AV.int IntKind.i64 p, AV.int IntKind.i64 e], AObj.cells [AV.ptr 0 0],
        AObj.cells [AV.fn (270 : FuncId) [AV.ptr 1 0]], AObj.cells [AV.fn (271 : FuncId) [AV.ptr 1 0]],
        AObj.cells [AV.fn (272 : FuncId) [AV.ptr 2 0, AV.ptr 1 0, AV.ptr 3 0]]]
      fun (r : AV) (H' : List AObj) =>
      ∃ (x : Int × Int × Int),
        r = AV.int IntKind.i64 (Prod.fst x) ∧
        H' =
        [AObj.cells [AV.sl 1 (Seq.map encB (0 : UInt8) bs) Tip.none, AV.int IntKind.i64 (Prod.fst (Prod.snd x)), AV.int IntKind.i64 (Prod.snd (Prod.snd x))],
        AObj.cells [AV.ptr 0 0], AObj.cells [AV.fn (270 : FuncId) [AV.ptr 1 0]], AObj.cells [AV.fn (271 : FuncId) [AV.ptr 1 0]],
        AObj.cells [AV.fn (272 : FuncId) [AV.ptr 2 0, AV.ptr 1 0, AV.ptr 3 0]]] ∧
        AWP Try.prog 27 5 c274_3
        [(0, AV.ptr 0 0), (2, AV.fn (275 : FuncId) [AV.ptr 1 0, AV.ptr 4 0]), (7, AV.sl 0 (Seq.raw []) Tip.nil),
        (8, AV.int IntKind.i64 (Prod.fst x))]
        [AObj.cells [AV.sl 1 (Seq.map encB (0 : UInt8) bs) Tip.none, AV.int IntKind.i64 (Prod.fst (Prod.snd x)), AV.int IntKind.i64 (Prod.snd (Prod.snd x))],
        AObj.cells [AV.ptr 0 0], AObj.cells [AV.fn (270 : FuncId) [AV.ptr 1 0]], AObj.cells [AV.fn (271 : FuncId) [AV.ptr 1 0]],
        AObj.cells [AV.fn (272 : FuncId) [AV.ptr 2 0, AV.ptr 1 0, AV.ptr 3 0]]]
        (q274_2 5 Post)) →
    ASpec Try.prog 274 [AV.ptr 0 0, AV.int IntKind.i64 most, AV.fn (275 : FuncId) [AV.ptr 1 0, AV.ptr 4 0]] (HR bs p e) Post := fun bs p e most Post h => Go.Ab.ASpec.of_vc g274 Go.Proofs.Try.func274 (by kernel_rfl) (by kernel_rfl) (by kernel_rfl) (Go.Ab.kc (by kernel_rfl) h)
theorem v274_3 : ∀ (bs : List UInt8) (p e : Int) (acc : List T.Rel) (n : Int) (n_1 : Nat) (Post : AV → List AObj → Prop),
  condP (decide (n > (0 : Int)))
      (ASpec Try.prog 144 [AV.ptr 0 0]
        [AObj.cells [AV.sl 1 (Seq.map encB (0 : UInt8) bs) Tip.none, AV.int IntKind.i64 p, AV.int IntKind.i64 e], AObj.cells [AV.ptr 0 0],
        AObj.cells [AV.fn (270 : FuncId) [AV.ptr 1 0]], AObj.cells [AV.fn (271 : FuncId) [AV.ptr 1 0]],
        AObj.cells [AV.fn (272 : FuncId) [AV.ptr 2 0, AV.ptr 1 0, AV.ptr 3 0]], AObj.tok]
        fun (r : AV) (H' : List AObj) =>
        ∃ (x : Int),
        r = AV.int IntKind.i64 x ∧
        H' =
        [AObj.cells [AV.sl 1 (Seq.map encB (0 : UInt8) bs) Tip.none, AV.int IntKind.i64 p, AV.int IntKind.i64 e], AObj.cells [AV.ptr 0 0],
        AObj.cells [AV.fn (270 : FuncId) [AV.ptr 1 0]], AObj.cells [AV.fn (271 : FuncId) [AV.ptr 1 0]],
        AObj.cells [AV.fn (272 : FuncId) [AV.ptr 2 0, AV.ptr 1 0, AV.ptr 3 0]], AObj.tok] ∧
        condP (x == (0 : Int))
        (ASpec Try.prog 275 [AV.ptr 1 0, AV.ptr 4 0]
        [AObj.cells [AV.sl 1 (Seq.map encB (0 : UInt8) bs) Tip.none, AV.int IntKind.i64 p, AV.int IntKind.i64 e], AObj.cells [AV.ptr 0 0],
        AObj.cells [AV.fn (270 : FuncId) [AV.ptr 1 0]], AObj.cells [AV.fn (271 : FuncId) [AV.ptr 1 0]],
        AObj.cells [AV.fn (272 : FuncId) [AV.ptr 2 0, AV.ptr 1 0, AV.ptr 3 0]], AObj.tok]
        fun (r : AV) (H' : List AObj) =>
        ∃ (x : T.Rel × Int × Int),
        r = AV.agg [AV.int IntKind.i64 (Prod.fst (Prod.fst x)), AV.sl 2 (Seq.map T.encN ([], []) (Prod.snd (Prod.fst x))) Tip.none] ∧
        H' =
        [AObj.cells [AV.sl 1 (Seq.map encB (0 : UInt8) bs) Tip.none, AV.int IntKind.i64 (Prod.fst (Prod.snd x)), AV.int IntKind.i64 (Prod.snd (Prod.snd x))],
        AObj.cells [AV.ptr 0 0], AObj.cells [AV.fn (270 : FuncId) [AV.ptr 1 0]], AObj.cells [AV.fn (271 : FuncId) [AV.ptr 1 0]],
        AObj.cells [AV.fn (272 : FuncId) [AV.ptr 2 0, AV.ptr 1 0, AV.ptr 3 0]], AObj.tok] ∧
        needP ((List.length acc + 1) * 32 ≤ 140737488351232)
        (AWP Try.prog 27 n_1 c274_3
        [(0, AV.ptr 0 0), (2, AV.fn (275 : FuncId) [AV.ptr 1 0, AV.ptr 4 0]),
        (7,
        AV.sl 2
        (Seq.app (Seq.map T.encR ((0 : Int), []) acc)
        (Seq.raw [[AV.int IntKind.i64 (Prod.fst (Prod.fst x)), AV.sl 2 (Seq.map T.encN ([], []) (Prod.snd (Prod.fst x))) Tip.none]]))
        (Tip.tok 6)),
        (8, AV.int IntKind.i64 (IntKind.wrap IntKind.i64 (n - (1 : Int))))]
        [AObj.cells [AV.sl 1 (Seq.map encB (0 : UInt8) bs) Tip.none, AV.int IntKind.i64 (Prod.fst (Prod.snd x)), AV.int IntKind.i64 (Prod.snd (Prod.snd x))],
        AObj.cells [AV.ptr 0 0], AObj.cells [AV.fn (270 : FuncId) [AV.ptr 1 0]], AObj.cells [AV.fn (271 : FuncId) [AV.ptr 1 0]],
        AObj.cells [AV.fn (272 : FuncId) [AV.ptr 2 0, AV.ptr 1 0, AV.ptr 3 0]], AObj.gone, AObj.tok]
        (q274_2 n_1 Post)))
        (Post (AV.sl 2 (Seq.map T.encR ((0 : Int), []) acc) (Tip.tok 5))
        [AObj.cells [AV.sl 1 (Seq.map encB (0 : UInt8) bs) Tip.none, AV.int IntKind.i64 p, AV.int IntKind.i64 e], AObj.cells [AV.ptr 0 0],
        AObj.cells [AV.fn (270 : FuncId) [AV.ptr 1 0]], AObj.cells [AV.fn (271 : FuncId) [AV.ptr 1 0]],
        AObj.cells [AV.fn (272 : FuncId) [AV.ptr 2 0, AV.ptr 1 0, AV.ptr 3 0]], AObj.tok]))
      (Post (AV.sl 2 (Seq.map T.encR ((0 : Int), []) acc) (Tip.tok 5))
        [AObj.cells [AV.sl 1 (Seq.map encB (0 : UInt8) bs) Tip.none, AV.int IntKind.i64 p, AV.int IntKind.i64 e], AObj.cells [AV.ptr 0 0],
        AObj.cells [AV.fn (270 : FuncId) [AV.ptr 1 0]], AObj.cells [AV.fn (271 : FuncId) [AV.ptr 1 0]],
        AObj.cells [AV.fn (272 : FuncId) [AV.ptr 2 0, AV.ptr 1 0, AV.ptr 3 0]], AObj.tok]) →
    AWP Try.prog 27 n_1 c274_3
      [(0, AV.ptr 0 0), (2, AV.fn (275 : FuncId) [AV.ptr 1 0, AV.ptr 4 0]),
        (7, AV.sl 2 (Seq.map T.encR ((0 : Int), []) acc) (Tip.tok 5)), (8, AV.int IntKind.i64 n)]
      (HR bs p e ++ [AObj.tok]) (q274_2 n_1 Post) := fun bs p e acc n n Post h => Go.Ab.AWP.loop' g274 (Cfg.live g274) c274_3 (by kernel_rfl) (by kernel_rfl) (Go.Ab.kc (by kernel_rfl) h)

-- 181
noncomputable def l181 : Nat → List Nat
  | _ => []
noncomputable def u181 : Nat → Bool
  | _ => false
noncomputable def m181 : Nat → Bool
  | _ => false
noncomputable def g181 : Cfg := { N := 40, live := l181, cut := u181, mu := m181, ret := rets }
noncomputable def c181 : Go.Code := Go.Ab.bodyOf Go.Proofs.Try.f181
theorem s181 : ∀ (bs : List UInt8) (Post : AV → List AObj → Prop),
  condP (decide ((↑(List.length bs) : Int) > (8192 : Int)))
      (Post (AV.tup [AV.agg [AV.str { data := #[] }, AV.sl 0 (Seq.raw []) Tip.nil], AV.int IntKind.i64 (4 : Int)]) [AObj.cells [AV.str { data := #[] }, AV.sl 0 (Seq.raw []) Tip.nil]])
      (ASpec Try.prog 142 [AV.sl 1 (Seq.map encB (0 : UInt8) bs) Tip.none] [AObj.cells [AV.str { data := #[] }, AV.sl 0 (Seq.raw []) Tip.nil]] fun (r : AV) (H' : List AObj) =>
        ∃ (x : List UInt8),
        r = AV.ptr 1 0 ∧
        H' =
        [AObj.cells [AV.str { data := #[] }, AV.sl 0 (Seq.raw []) Tip.nil],
        AObj.cells [AV.sl 1 (Seq.map encB (0 : UInt8) x) Tip.none, AV.int IntKind.i64 (0 : Int), AV.int IntKind.i64 (0 : Int)]] ∧
        ASpec Try.prog 270 [AV.ptr 2 0]
        [AObj.cells [AV.str { data := #[] }, AV.sl 0 (Seq.raw []) Tip.nil],
        AObj.cells [AV.sl 1 (Seq.map encB (0 : UInt8) x) Tip.none, AV.int IntKind.i64 (0 : Int), AV.int IntKind.i64 (0 : Int)], AObj.cells [AV.ptr 1 0],
        AObj.cells [AV.fn 270 [AV.ptr 2 0]], AObj.cells [AV.fn 271 [AV.ptr 2 0]],
        AObj.cells [AV.fn 272 [AV.ptr 3 0, AV.ptr 2 0, AV.ptr 4 0]]]
        fun (r : AV) (H' : List AObj) =>
        ∃ (x_1 : ByteArray × Int × Int),
        r = AV.str (Prod.fst x_1) ∧
        H' =
        [AObj.cells [AV.str { data := #[] }, AV.sl 0 (Seq.raw []) Tip.nil],
        AObj.cells [AV.sl 1 (Seq.map encB (0 : UInt8) x) Tip.none, AV.int IntKind.i64 (Prod.fst (Prod.snd x_1)), AV.int IntKind.i64 (Prod.snd (Prod.snd x_1))],
        AObj.cells [AV.ptr 1 0], AObj.cells [AV.fn 270 [AV.ptr 2 0]], AObj.cells [AV.fn 271 [AV.ptr 2 0]],
        AObj.cells [AV.fn 272 [AV.ptr 3 0, AV.ptr 2 0, AV.ptr 4 0]]] ∧
        ASpec Try.prog 274 [AV.ptr 1 0, AV.int IntKind.i64 (8 : Int), AV.fn 275 [AV.ptr 2 0, AV.ptr 5 0]]
        [AObj.cells [AV.str { data := #[] }, AV.sl 0 (Seq.raw []) Tip.nil],
        AObj.cells [AV.sl 1 (Seq.map encB (0 : UInt8) x) Tip.none, AV.int IntKind.i64 (Prod.fst (Prod.snd x_1)), AV.int IntKind.i64 (Prod.snd (Prod.snd x_1))],
        AObj.cells [AV.ptr 1 0], AObj.cells [AV.fn 270 [AV.ptr 2 0]], AObj.cells [AV.fn 271 [AV.ptr 2 0]],
        AObj.cells [AV.fn 272 [AV.ptr 3 0, AV.ptr 2 0, AV.ptr 4 0]],
        AObj.cells [AV.str (Prod.fst x_1), AV.sl 0 (Seq.raw []) Tip.nil]]
        fun (r : AV) (H' : List AObj) =>
        ∃ (x_2 : List T.Rel × Int × Int),
        r = AV.sl 2 (Seq.map T.encR ((0 : Int), []) (Prod.fst x_2)) Tip.none ∧
        H' =
        [AObj.cells [AV.str { data := #[] }, AV.sl 0 (Seq.raw []) Tip.nil],
        AObj.cells [AV.sl 1 (Seq.map encB (0 : UInt8) x) Tip.none, AV.int IntKind.i64 (Prod.fst (Prod.snd x_2)), AV.int IntKind.i64 (Prod.snd (Prod.snd x_2))],
        AObj.cells [AV.ptr 1 0], AObj.cells [AV.fn 270 [AV.ptr 2 0]], AObj.cells [AV.fn 271 [AV.ptr 2 0]],
        AObj.cells [AV.fn 272 [AV.ptr 3 0, AV.ptr 2 0, AV.ptr 4 0]],
        AObj.cells [AV.str (Prod.fst x_1), AV.sl 0 (Seq.raw []) Tip.nil]] ∧
        ASpec Try.prog 146 [AV.ptr 1 0]
        [AObj.cells [AV.str { data := #[] }, AV.sl 0 (Seq.raw []) Tip.nil],
        AObj.cells [AV.sl 1 (Seq.map encB (0 : UInt8) x) Tip.none, AV.int IntKind.i64 (Prod.fst (Prod.snd x_2)), AV.int IntKind.i64 (Prod.snd (Prod.snd x_2))],
        AObj.cells [AV.ptr 1 0], AObj.cells [AV.fn 270 [AV.ptr 2 0]], AObj.cells [AV.fn 271 [AV.ptr 2 0]],
        AObj.cells [AV.fn 272 [AV.ptr 3 0, AV.ptr 2 0, AV.ptr 4 0]],
        AObj.cells [AV.str (Prod.fst x_1), AV.sl 2 (Seq.map T.encR ((0 : Int), []) (Prod.fst x_2)) Tip.none]]
        fun (r : AV) (H' : List AObj) =>
        ∃ (x_3 : Int),
        r = AV.int IntKind.i64 x_3 ∧
        H' =
        [AObj.cells [AV.str { data := #[] }, AV.sl 0 (Seq.raw []) Tip.nil],
        AObj.cells
        [AV.sl 1 (Seq.map encB (0 : UInt8) x) Tip.none, AV.int IntKind.i64 (Prod.fst (Prod.snd x_2)), AV.int IntKind.i64 (Prod.snd (Prod.snd x_2))],
        AObj.cells [AV.ptr 1 0], AObj.cells [AV.fn 270 [AV.ptr 2 0]],
        AObj.cells [AV.fn 271 [AV.ptr 2 0]],
        AObj.cells [AV.fn 272 [AV.ptr 3 0, AV.ptr 2 0, AV.ptr 4 0]],
        AObj.cells [AV.str (Prod.fst x_1), AV.sl 2 (Seq.map T.encR ((0 : Int), []) (Prod.fst x_2)) Tip.none]] ∧
        condP (x_3 == (0 : Int))
        (ASpec Try.prog 185 [AV.agg [AV.str (Prod.fst x_1), AV.sl 2 (Seq.map T.encR ((0 : Int), []) (Prod.fst x_2)) Tip.none]]
        [AObj.cells [AV.str { data := #[] }, AV.sl 0 (Seq.raw []) Tip.nil],
        AObj.cells
        [AV.sl 1 (Seq.map encB (0 : UInt8) x) Tip.none, AV.int IntKind.i64 (Prod.fst (Prod.snd x_2)), AV.int IntKind.i64 (Prod.snd (Prod.snd x_2))],
        AObj.cells [AV.ptr 1 0], AObj.cells [AV.fn 270 [AV.ptr 2 0]],
        AObj.cells [AV.fn 271 [AV.ptr 2 0]],
        AObj.cells [AV.fn 272 [AV.ptr 3 0, AV.ptr 2 0, AV.ptr 4 0]],
        AObj.cells [AV.str (Prod.fst x_1), AV.sl 2 (Seq.map T.encR ((0 : Int), []) (Prod.fst x_2)) Tip.none]]
        fun (r : AV) (H' : List AObj) =>
        ∃ (x_4 : Bool),
        r = AV.bool x_4 ∧
        H' =
        [AObj.cells [AV.str { data := #[] }, AV.sl 0 (Seq.raw []) Tip.nil],
        AObj.cells
        [AV.sl 1 (Seq.map encB (0 : UInt8) x) Tip.none, AV.int IntKind.i64 (Prod.fst (Prod.snd x_2)),
        AV.int IntKind.i64 (Prod.snd (Prod.snd x_2))],
        AObj.cells [AV.ptr 1 0], AObj.cells [AV.fn 270 [AV.ptr 2 0]],
        AObj.cells [AV.fn 271 [AV.ptr 2 0]],
        AObj.cells [AV.fn 272 [AV.ptr 3 0, AV.ptr 2 0, AV.ptr 4 0]],
        AObj.cells [AV.str (Prod.fst x_1), AV.sl 2 (Seq.map T.encR ((0 : Int), []) (Prod.fst x_2)) Tip.none]] ∧
        condP (!x_4)
        (Post (AV.tup [AV.agg [AV.str { data := #[] }, AV.sl 0 (Seq.raw []) Tip.nil], AV.int IntKind.i64 (3 : Int)])
        [AObj.cells [AV.str { data := #[] }, AV.sl 0 (Seq.raw []) Tip.nil],
        AObj.cells
        [AV.sl 1 (Seq.map encB (0 : UInt8) x) Tip.none, AV.int IntKind.i64 (Prod.fst (Prod.snd x_2)),
        AV.int IntKind.i64 (Prod.snd (Prod.snd x_2))],
        AObj.cells [AV.ptr 1 0], AObj.cells [AV.fn 270 [AV.ptr 2 0]],
        AObj.cells [AV.fn 271 [AV.ptr 2 0]],
        AObj.cells [AV.fn 272 [AV.ptr 3 0, AV.ptr 2 0, AV.ptr 4 0]],
        AObj.cells [AV.str (Prod.fst x_1), AV.sl 2 (Seq.map T.encR ((0 : Int), []) (Prod.fst x_2)) Tip.none]])
        (condP (x_3 != (0 : Int))
        (Post (AV.tup [AV.agg [AV.str { data := #[] }, AV.sl 0 (Seq.raw []) Tip.nil], AV.int IntKind.i64 x_3])
        [AObj.cells [AV.str { data := #[] }, AV.sl 0 (Seq.raw []) Tip.nil],
        AObj.cells
        [AV.sl 1 (Seq.map encB (0 : UInt8) x) Tip.none, AV.int IntKind.i64 (Prod.fst (Prod.snd x_2)),
        AV.int IntKind.i64 (Prod.snd (Prod.snd x_2))],
        AObj.cells [AV.ptr 1 0], AObj.cells [AV.fn 270 [AV.ptr 2 0]],
        AObj.cells [AV.fn 271 [AV.ptr 2 0]],
        AObj.cells [AV.fn 272 [AV.ptr 3 0, AV.ptr 2 0, AV.ptr 4 0]],
        AObj.cells [AV.str (Prod.fst x_1), AV.sl 2 (Seq.map T.encR ((0 : Int), []) (Prod.fst x_2)) Tip.none]])
        (Post
        (AV.tup [AV.agg [AV.str (Prod.fst x_1), AV.sl 2 (Seq.map T.encR ((0 : Int), []) (Prod.fst x_2)) Tip.none], AV.int IntKind.i64 (0 : Int)])
        [AObj.cells [AV.str (Prod.fst x_1), AV.sl 2 (Seq.map T.encR ((0 : Int), []) (Prod.fst x_2)) Tip.none],
        AObj.cells
        [AV.sl 1 (Seq.map encB (0 : UInt8) x) Tip.none, AV.int IntKind.i64 (Prod.fst (Prod.snd x_2)),
        AV.int IntKind.i64 (Prod.snd (Prod.snd x_2))],
        AObj.cells [AV.ptr 1 0], AObj.cells [AV.fn 270 [AV.ptr 2 0]],
        AObj.cells [AV.fn 271 [AV.ptr 2 0]],
        AObj.cells [AV.fn 272 [AV.ptr 3 0, AV.ptr 2 0, AV.ptr 4 0]],
        AObj.cells [AV.str (Prod.fst x_1), AV.sl 2 (Seq.map T.encR ((0 : Int), []) (Prod.fst x_2)) Tip.none]])))
        (condP (x_3 != (0 : Int))
        (Post (AV.tup [AV.agg [AV.str { data := #[] }, AV.sl 0 (Seq.raw []) Tip.nil], AV.int IntKind.i64 x_3])
        [AObj.cells [AV.str { data := #[] }, AV.sl 0 (Seq.raw []) Tip.nil],
        AObj.cells
        [AV.sl 1 (Seq.map encB (0 : UInt8) x) Tip.none, AV.int IntKind.i64 (Prod.fst (Prod.snd x_2)), AV.int IntKind.i64 (Prod.snd (Prod.snd x_2))],
        AObj.cells [AV.ptr 1 0], AObj.cells [AV.fn 270 [AV.ptr 2 0]],
        AObj.cells [AV.fn 271 [AV.ptr 2 0]],
        AObj.cells [AV.fn 272 [AV.ptr 3 0, AV.ptr 2 0, AV.ptr 4 0]],
        AObj.cells [AV.str (Prod.fst x_1), AV.sl 2 (Seq.map T.encR ((0 : Int), []) (Prod.fst x_2)) Tip.none]])
        (Post (AV.tup [AV.agg [AV.str (Prod.fst x_1), AV.sl 2 (Seq.map T.encR ((0 : Int), []) (Prod.fst x_2)) Tip.none], AV.int IntKind.i64 (0 : Int)])
        [AObj.cells [AV.str (Prod.fst x_1), AV.sl 2 (Seq.map T.encR ((0 : Int), []) (Prod.fst x_2)) Tip.none],
        AObj.cells
        [AV.sl 1 (Seq.map encB (0 : UInt8) x) Tip.none, AV.int IntKind.i64 (Prod.fst (Prod.snd x_2)), AV.int IntKind.i64 (Prod.snd (Prod.snd x_2))],
        AObj.cells [AV.ptr 1 0], AObj.cells [AV.fn 270 [AV.ptr 2 0]],
        AObj.cells [AV.fn 271 [AV.ptr 2 0]],
        AObj.cells [AV.fn 272 [AV.ptr 3 0, AV.ptr 2 0, AV.ptr 4 0]],
        AObj.cells [AV.str (Prod.fst x_1), AV.sl 2 (Seq.map T.encR ((0 : Int), []) (Prod.fst x_2)) Tip.none]]))) →
    ASpec Try.prog 181 [AV.sl 1 (Seq.map encB (0 : UInt8) bs) Tip.none] [] Post := fun bs Post h => Go.Ab.ASpec.of_vc g181 Go.Proofs.Try.func181 (by kernel_rfl) (by kernel_rfl) (by kernel_rfl) (Go.Ab.kc (by kernel_rfl) h)

-- 326
noncomputable def l326 : Nat → List Nat
  | 4 => [0, 3, 4, 5]
  | 9 => [0, 3, 4, 5, 6, 7, 8]
  | _ => []
noncomputable def u326 : Nat → Bool
  | _ => false
noncomputable def m326 : Nat → Bool
  | _ => false
noncomputable def g326 : Cfg := { N := 47, live := l326, cut := u326, mu := m326, ret := rets }
noncomputable def c326 : Go.Code := Go.Ab.bodyOf Go.Proofs.Try.f326
noncomputable def q326_0 : Nat → (AV → List AObj → Prop) → AQ := fun (n : Nat) (Post : AV → List AObj → Prop) => endQ Try.prog (resultsOf Try.f326) Post
noncomputable def q326_1 : Nat → (AV → List AObj → Prop) → AQ := fun (n : Nat) (Post : AV → List AObj → Prop) => seqQ (fun (s' : Slots) (H' : List AObj) => awp Try.prog g326 n (codeSnd (codeSnd (codeSnd (codeSnd c326)))) s' H' (q326_0 n Post)) (q326_0 n Post)
noncomputable def q326_2 : Nat → (AV → List AObj → Prop) → AQ := fun (n : Nat) (Post : AV → List AObj → Prop) => blockQ 0 (q326_1 n Post)
noncomputable def c326_4 : Go.Code := codeFst (codeSnd (codeFst (codeSnd (codeSnd (codeSnd c326)))))
theorem s326 : ∀ (s : ByteArray) (e : Int) (Post : AV → List AObj → Prop),
  (ASpec Try.prog 147 [AV.ptr 0 0, AV.int IntKind.i64 (6 : Int)] [AObj.cells [AV.str s, AV.int IntKind.i64 e]] fun (r : AV) (H' : List AObj) =>
      ∃ (x : Int × ByteArray × Int),
        r = AV.int IntKind.i64 (Prod.fst x) ∧
        H' = [AObj.cells [AV.str (Prod.fst (Prod.snd x)), AV.int IntKind.i64 (Prod.snd (Prod.snd x))]] ∧
        AWP Try.prog 47 1 c326_4
        [(0, AV.ptr 0 0), (3, AV.sl 0 (Seq.raw []) Tip.nil), (4, AV.int IntKind.i64 (Prod.fst x)), (5, AV.int IntKind.i64 (0 : Int))]
        [AObj.cells [AV.str (Prod.fst (Prod.snd x)), AV.int IntKind.i64 (Prod.snd (Prod.snd x))]] (q326_2 1 Post)) →
    ASpec Try.prog 326 [AV.ptr 0 0] [AObj.cells [AV.str s, AV.int IntKind.i64 e]] Post := fun s e Post h => Go.Ab.ASpec.of_vc g326 Go.Proofs.Try.func326 (by kernel_rfl) (by kernel_rfl) (by kernel_rfl) (Go.Ab.kc (by kernel_rfl) h)
noncomputable def q326_3 : Nat → (AV → List AObj → Prop) → AQ := fun (n : Nat) (Post : AV → List AObj → Prop) => loopQ Try.prog 47 n c326_4 (q326_2 n Post) (Cfg.live g326)
noncomputable def q326_4 : Nat → (AV → List AObj → Prop) → AQ := fun (n : Nat) (Post : AV → List AObj → Prop) => seqQ (fun (s' : Slots) (H' : List AObj) => awp Try.prog g326 n (codeSnd (codeSnd (codeFst c326_4))) s' H' (q326_3 n Post)) (q326_3 n Post)
noncomputable def q326_5 : Nat → (AV → List AObj → Prop) → AQ := fun (n : Nat) (Post : AV → List AObj → Prop) => blockQ 1 (q326_4 n Post)
noncomputable def q326_6 : Nat → (AV → List AObj → Prop) → AQ := fun (n : Nat) (Post : AV → List AObj → Prop) => seqQ (fun (s' : Slots) (H' : List AObj) => awp Try.prog g326 n (codeSnd (codeSnd (codeSnd (codeFst (codeFst (codeSnd (codeFst c326_4))))))) s' H' (q326_5 n Post)) (q326_5 n Post)
noncomputable def q326_7 : Nat → (AV → List AObj → Prop) → AQ := fun (n : Nat) (Post : AV → List AObj → Prop) => blockQ 2 (q326_6 n Post)
noncomputable def c326_9 : Go.Code := codeFst (codeSnd (codeFst (codeSnd (codeSnd (codeFst (codeFst (codeSnd (codeFst c326_4))))))))
theorem v326_4 : ∀ (s : ByteArray) (e : Int) (acc : List T.Need) (n i : Int) (n_1 : Nat) (Post : AV → List AObj → Prop),
  condP (decide (i < n))
      (ASpec Try.prog 148 [AV.ptr 0 0, AV.int IntKind.i64 (24 : Int)] [AObj.cells [AV.str s, AV.int IntKind.i64 e], AObj.tok] fun (r : AV) (H' : List AObj) =>
        ∃ (x : ByteArray × ByteArray × Int),
        r = AV.str (Prod.fst x) ∧
        H' = [AObj.cells [AV.str (Prod.fst (Prod.snd x)), AV.int IntKind.i64 (Prod.snd (Prod.snd x))], AObj.tok] ∧
        ASpec Try.prog 147 [AV.ptr 0 0, AV.int IntKind.i64 (6 : Int)]
        [AObj.cells [AV.str (Prod.fst (Prod.snd x)), AV.int IntKind.i64 (Prod.snd (Prod.snd x))], AObj.tok, AObj.cells [AV.str (Prod.fst x), AV.sl 0 (Seq.raw []) Tip.nil]]
        fun (r : AV) (H' : List AObj) =>
        ∃ (x_1 : Int × ByteArray × Int),
        r = AV.int IntKind.i64 (Prod.fst x_1) ∧
        H' =
        [AObj.cells [AV.str (Prod.fst (Prod.snd x_1)), AV.int IntKind.i64 (Prod.snd (Prod.snd x_1))], AObj.tok,
        AObj.cells [AV.str (Prod.fst x), AV.sl 0 (Seq.raw []) Tip.nil]] ∧
        AWP Try.prog 47 n_1 c326_9
        [(0, AV.ptr 0 0), (3, AV.sl 2 (Seq.map T.encN ([], []) acc) (Tip.tok 1)), (4, AV.int IntKind.i64 n),
        (5, AV.int IntKind.i64 i), (6, AV.ptr 2 0), (7, AV.int IntKind.i64 (Prod.fst x_1)), (8, AV.int IntKind.i64 (0 : Int))]
        [AObj.cells [AV.str (Prod.fst (Prod.snd x_1)), AV.int IntKind.i64 (Prod.snd (Prod.snd x_1))], AObj.tok, AObj.cells [AV.str (Prod.fst x), AV.sl 0 (Seq.raw []) Tip.nil]]
        (q326_7 n_1 Post))
      (Post (AV.sl 2 (Seq.map T.encN ([], []) acc) (Tip.tok 1)) [AObj.cells [AV.str s, AV.int IntKind.i64 e], AObj.tok]) →
    AWP Try.prog 47 n_1 c326_4
      [(0, AV.ptr 0 0), (3, AV.sl 2 (Seq.map T.encN ([], []) acc) (Tip.tok 1)), (4, AV.int IntKind.i64 n), (5, AV.int IntKind.i64 i)]
      [AObj.cells [AV.str s, AV.int IntKind.i64 e], AObj.tok] (q326_2 n_1 Post) := fun s e acc n i n Post h => Go.Ab.AWP.loop' g326 (Cfg.live g326) c326_4 (by kernel_rfl) (by kernel_rfl) (Go.Ab.kc (by kernel_rfl) h)
theorem v326_9 : ∀ (s : ByteArray) (e : Int) (acc : List T.Need) (n i : Int) (nm : ByteArray) (sp : List T.Span) (k j : Int) (n_1 : Nat) (Post : AV → List AObj → Prop),
  condP (decide (j < k))
      (ASpec Try.prog 147 [AV.ptr 0 0, AV.int IntKind.i64 (1000000000 : Int)]
        [AObj.cells [AV.str s, AV.int IntKind.i64 e], AObj.tok, AObj.cells [AV.str nm, AV.sl 2 (Seq.map T.encS ((0 : Int), (0 : Int)) sp) (Tip.tok 3)], AObj.tok]
        fun (r : AV) (H' : List AObj) =>
        ∃ (x : Int × ByteArray × Int),
        r = AV.int IntKind.i64 (Prod.fst x) ∧
        H' =
        [AObj.cells [AV.str (Prod.fst (Prod.snd x)), AV.int IntKind.i64 (Prod.snd (Prod.snd x))], AObj.tok,
        AObj.cells [AV.str nm, AV.sl 2 (Seq.map T.encS ((0 : Int), (0 : Int)) sp) (Tip.tok 3)], AObj.tok] ∧
        ASpec Try.prog 147 [AV.ptr 0 0, AV.int IntKind.i64 (1000000000 : Int)]
        [AObj.cells [AV.str (Prod.fst (Prod.snd x)), AV.int IntKind.i64 (Prod.snd (Prod.snd x))], AObj.tok,
        AObj.cells [AV.str nm, AV.sl 2 (Seq.map T.encS ((0 : Int), (0 : Int)) sp) (Tip.tok 3)], AObj.tok]
        fun (r : AV) (H' : List AObj) =>
        ∃ (x_1 : Int × ByteArray × Int),
        r = AV.int IntKind.i64 (Prod.fst x_1) ∧
        H' =
        [AObj.cells [AV.str (Prod.fst (Prod.snd x_1)), AV.int IntKind.i64 (Prod.snd (Prod.snd x_1))], AObj.tok,
        AObj.cells [AV.str nm, AV.sl 2 (Seq.map T.encS ((0 : Int), (0 : Int)) sp) (Tip.tok 3)], AObj.tok] ∧
        needP ((List.length sp + 1) * 16 ≤ 140737488351232)
        (AWP Try.prog 47 n_1 c326_9
        [(0, AV.ptr 0 0), (3, AV.sl 2 (Seq.map T.encN ([], []) acc) (Tip.tok 1)), (4, AV.int IntKind.i64 n),
        (5, AV.int IntKind.i64 i), (6, AV.ptr 2 0), (7, AV.int IntKind.i64 k),
        (8, AV.int IntKind.i64 (IntKind.wrap IntKind.i64 (j + (1 : Int))))]
        [AObj.cells [AV.str (Prod.fst (Prod.snd x_1)), AV.int IntKind.i64 (Prod.snd (Prod.snd x_1))], AObj.tok,
        AObj.cells
        [AV.str nm,
        AV.sl 2
        (Seq.app (Seq.map T.encS ((0 : Int), (0 : Int)) sp)
        (Seq.raw [[AV.int IntKind.i64 (Prod.fst x), AV.int IntKind.i64 (IntKind.wrap IntKind.i64 (Prod.fst x + Prod.fst x_1))]]))
        (Tip.tok 4)],
        AObj.gone, AObj.tok]
        (q326_7 n_1 Post)))
      (needP ((List.length acc + 1) * 40 ≤ 140737488351232)
        (AWP Try.prog 47 n_1 c326_4
        [(0, AV.ptr 0 0),
        (3,
        AV.sl 2 (Seq.app (Seq.map T.encN ([], []) acc) (Seq.raw [[AV.str nm, AV.sl 2 (Seq.map T.encS ((0 : Int), (0 : Int)) sp) (Tip.tok 3)]])) (Tip.tok 4)),
        (4, AV.int IntKind.i64 n), (5, AV.int IntKind.i64 (IntKind.wrap IntKind.i64 (i + (1 : Int))))]
        [AObj.cells [AV.str s, AV.int IntKind.i64 e], AObj.gone, AObj.cells [AV.str nm, AV.sl 2 (Seq.map T.encS ((0 : Int), (0 : Int)) sp) (Tip.tok 3)], AObj.tok, AObj.tok]
        (q326_2 n_1 Post))) →
    AWP Try.prog 47 n_1 c326_9
      [(0, AV.ptr 0 0), (3, AV.sl 2 (Seq.map T.encN ([], []) acc) (Tip.tok 1)), (4, AV.int IntKind.i64 n), (5, AV.int IntKind.i64 i),
        (6, AV.ptr 2 0), (7, AV.int IntKind.i64 k), (8, AV.int IntKind.i64 j)]
      [AObj.cells [AV.str s, AV.int IntKind.i64 e], AObj.tok, AObj.cells [AV.str nm, AV.sl 2 (Seq.map T.encS ((0 : Int), (0 : Int)) sp) (Tip.tok 3)], AObj.tok] (q326_7 n_1 Post) := fun s e acc n i nm sp k j n Post h => Go.Ab.AWP.loop' g326 (Cfg.live g326) c326_9 (by kernel_rfl) (by kernel_rfl) (Go.Ab.kc (by kernel_rfl) h)

-- 277
noncomputable def l277 : Nat → List Nat
  | 7 => [2, 4, 5, 6, 7]
  | _ => []
noncomputable def u277 : Nat → Bool
  | _ => false
noncomputable def m277 : Nat → Bool
  | _ => false
noncomputable def g277 : Cfg := { N := 53, live := l277, cut := u277, mu := m277, ret := rets }
noncomputable def c277 : Go.Code := Go.Ab.bodyOf Go.Proofs.Try.f277
noncomputable def q277_0 : Nat → (AV → List AObj → Prop) → AQ := fun (n : Nat) (Post : AV → List AObj → Prop) => endQ Try.prog (resultsOf Try.f277) Post
noncomputable def q277_1 : Nat → (AV → List AObj → Prop) → AQ := fun (n : Nat) (Post : AV → List AObj → Prop) => seqQ (fun (s' : Slots) (H' : List AObj) => awp Try.prog g277 n (codeSnd (codeSnd (codeSnd (codeSnd (codeSnd (codeSnd c277)))))) s' H' (q277_0 n Post)) (q277_0 n Post)
noncomputable def q277_2 : Nat → (AV → List AObj → Prop) → AQ := fun (n : Nat) (Post : AV → List AObj → Prop) => blockQ 0 (q277_1 n Post)
noncomputable def c277_7 : Go.Code := codeFst (codeSnd (codeFst (codeSnd (codeSnd (codeSnd (codeSnd (codeSnd c277)))))))
theorem s277 : ∀ (s : ByteArray) (Post : AV → List AObj → Prop),
  condP (decide ((↑(ByteArray.size s) : Int) > (8192 : Int)))
      (Post (AV.tup [AV.agg [AV.str { data := #[] }, AV.sl 0 (Seq.raw []) Tip.nil], AV.int IntKind.i64 (4 : Int)]) [AObj.cells [AV.str { data := #[] }, AV.sl 0 (Seq.raw []) Tip.nil]])
      (ASpec Try.prog 148 [AV.ptr 1 0, AV.int IntKind.i64 (24 : Int)]
        [AObj.cells [AV.str { data := #[] }, AV.sl 0 (Seq.raw []) Tip.nil], AObj.cells [AV.str s, AV.int IntKind.i64 (0 : Int)]] fun (r : AV) (H' : List AObj) =>
        ∃ (x : ByteArray × ByteArray × Int),
        r = AV.str (Prod.fst x) ∧
        H' = [AObj.cells [AV.str { data := #[] }, AV.sl 0 (Seq.raw []) Tip.nil], AObj.cells [AV.str (Prod.fst (Prod.snd x)), AV.int IntKind.i64 (Prod.snd (Prod.snd x))]] ∧
        ASpec Try.prog 147 [AV.ptr 1 0, AV.int IntKind.i64 (8 : Int)]
        [AObj.cells [AV.str { data := #[] }, AV.sl 0 (Seq.raw []) Tip.nil], AObj.cells [AV.str (Prod.fst (Prod.snd x)), AV.int IntKind.i64 (Prod.snd (Prod.snd x))],
        AObj.cells [AV.str (Prod.fst x), AV.sl 0 (Seq.raw []) Tip.nil]]
        fun (r : AV) (H' : List AObj) =>
        ∃ (x_1 : Int × ByteArray × Int),
        r = AV.int IntKind.i64 (Prod.fst x_1) ∧
        H' =
        [AObj.cells [AV.str { data := #[] }, AV.sl 0 (Seq.raw []) Tip.nil], AObj.cells [AV.str (Prod.fst (Prod.snd x_1)), AV.int IntKind.i64 (Prod.snd (Prod.snd x_1))],
        AObj.cells [AV.str (Prod.fst x), AV.sl 0 (Seq.raw []) Tip.nil]] ∧
        AWP Try.prog 53 0 c277_7
        [(2, AV.ptr 0 0), (4, AV.ptr 1 0), (5, AV.ptr 2 0), (6, AV.int IntKind.i64 (Prod.fst x_1)),
        (7, AV.int IntKind.i64 (0 : Int))]
        [AObj.cells [AV.str { data := #[] }, AV.sl 0 (Seq.raw []) Tip.nil], AObj.cells [AV.str (Prod.fst (Prod.snd x_1)), AV.int IntKind.i64 (Prod.snd (Prod.snd x_1))],
        AObj.cells [AV.str (Prod.fst x), AV.sl 0 (Seq.raw []) Tip.nil]]
        (q277_2 0 Post)) →
    ASpec Try.prog 277 [AV.str s] [] Post := fun s Post h => Go.Ab.ASpec.of_vc g277 Go.Proofs.Try.func277 (by kernel_rfl) (by kernel_rfl) (by kernel_rfl) (Go.Ab.kc (by kernel_rfl) h)
theorem v277_7 : ∀ (s : ByteArray) (e : Int) (nm : ByteArray) (acc : List T.Rel) (n i : Int) (n_1 : Nat) (Post : AV → List AObj → Prop),
  condP (decide (i < n))
      (ASpec Try.prog 147 [AV.ptr 1 0, AV.int IntKind.i64 (1000000000 : Int)]
        [AObj.cells [AV.str { data := #[] }, AV.sl 0 (Seq.raw []) Tip.nil], AObj.cells [AV.str s, AV.int IntKind.i64 e],
        AObj.cells [AV.str nm, AV.sl 2 (Seq.map T.encR ((0 : Int), []) acc) (Tip.tok 3)], AObj.tok]
        fun (r : AV) (H' : List AObj) =>
        ∃ (x : Int × ByteArray × Int),
        r = AV.int IntKind.i64 (Prod.fst x) ∧
        H' =
        [AObj.cells [AV.str { data := #[] }, AV.sl 0 (Seq.raw []) Tip.nil], AObj.cells [AV.str (Prod.fst (Prod.snd x)), AV.int IntKind.i64 (Prod.snd (Prod.snd x))],
        AObj.cells [AV.str nm, AV.sl 2 (Seq.map T.encR ((0 : Int), []) acc) (Tip.tok 3)], AObj.tok] ∧
        ASpec Try.prog 326 [AV.ptr 1 0]
        [AObj.cells [AV.str { data := #[] }, AV.sl 0 (Seq.raw []) Tip.nil], AObj.cells [AV.str (Prod.fst (Prod.snd x)), AV.int IntKind.i64 (Prod.snd (Prod.snd x))],
        AObj.cells [AV.str nm, AV.sl 2 (Seq.map T.encR ((0 : Int), []) acc) (Tip.tok 3)], AObj.tok,
        AObj.cells [AV.int IntKind.i64 (Prod.fst x), AV.sl 0 (Seq.raw []) Tip.nil]]
        fun (r : AV) (H' : List AObj) =>
        ∃ (x_1 : List T.Need × ByteArray × Int),
        r = AV.sl 2 (Seq.map T.encN ([], []) (Prod.fst x_1)) Tip.none ∧
        H' =
        [AObj.cells [AV.str { data := #[] }, AV.sl 0 (Seq.raw []) Tip.nil], AObj.cells [AV.str (Prod.fst (Prod.snd x_1)), AV.int IntKind.i64 (Prod.snd (Prod.snd x_1))],
        AObj.cells [AV.str nm, AV.sl 2 (Seq.map T.encR ((0 : Int), []) acc) (Tip.tok 3)], AObj.tok,
        AObj.cells [AV.int IntKind.i64 (Prod.fst x), AV.sl 0 (Seq.raw []) Tip.nil]] ∧
        needP ((List.length acc + 1) * 32 ≤ 140737488351232)
        (AWP Try.prog 53 n_1 c277_7
        [(2, AV.ptr 0 0), (4, AV.ptr 1 0), (5, AV.ptr 2 0), (6, AV.int IntKind.i64 n),
        (7, AV.int IntKind.i64 (IntKind.wrap IntKind.i64 (i + (1 : Int))))]
        [AObj.cells [AV.str { data := #[] }, AV.sl 0 (Seq.raw []) Tip.nil], AObj.cells [AV.str (Prod.fst (Prod.snd x_1)), AV.int IntKind.i64 (Prod.snd (Prod.snd x_1))],
        AObj.cells
        [AV.str nm,
        AV.sl 2
        (Seq.app (Seq.map T.encR ((0 : Int), []) acc) (Seq.raw [[AV.int IntKind.i64 (Prod.fst x), AV.sl 2 (Seq.map T.encN ([], []) (Prod.fst x_1)) Tip.none]]))
        (Tip.tok 5)],
        AObj.gone, AObj.cells [AV.int IntKind.i64 (Prod.fst x), AV.sl 2 (Seq.map T.encN ([], []) (Prod.fst x_1)) Tip.none], AObj.tok]
        (q277_2 n_1 Post)))
      (ASpec Try.prog 149 [AV.ptr 1 0]
        [AObj.cells [AV.str { data := #[] }, AV.sl 0 (Seq.raw []) Tip.nil], AObj.cells [AV.str s, AV.int IntKind.i64 e],
        AObj.cells [AV.str nm, AV.sl 2 (Seq.map T.encR ((0 : Int), []) acc) (Tip.tok 3)], AObj.tok]
        fun (r : AV) (H' : List AObj) =>
        ∃ (x : Int),
        r = AV.int IntKind.i64 x ∧
        H' =
        [AObj.cells [AV.str { data := #[] }, AV.sl 0 (Seq.raw []) Tip.nil], AObj.cells [AV.str s, AV.int IntKind.i64 e],
        AObj.cells [AV.str nm, AV.sl 2 (Seq.map T.encR ((0 : Int), []) acc) (Tip.tok 3)], AObj.tok] ∧
        condP (x == (0 : Int))
        (ASpec Try.prog 186 [AV.agg [AV.str nm, AV.sl 2 (Seq.map T.encR ((0 : Int), []) acc) (Tip.tok 3)]]
        [AObj.cells [AV.str { data := #[] }, AV.sl 0 (Seq.raw []) Tip.nil], AObj.cells [AV.str s, AV.int IntKind.i64 e],
        AObj.cells [AV.str nm, AV.sl 2 (Seq.map T.encR ((0 : Int), []) acc) (Tip.tok 3)], AObj.tok]
        fun (r : AV) (H' : List AObj) =>
        ∃ (x_1 : Bool),
        r = AV.bool x_1 ∧
        H' =
        [AObj.cells [AV.str { data := #[] }, AV.sl 0 (Seq.raw []) Tip.nil], AObj.cells [AV.str s, AV.int IntKind.i64 e],
        AObj.cells [AV.str nm, AV.sl 2 (Seq.map T.encR ((0 : Int), []) acc) (Tip.tok 3)], AObj.tok] ∧
        condP (!x_1)
        (Post (AV.tup [AV.agg [AV.str { data := #[] }, AV.sl 0 (Seq.raw []) Tip.nil], AV.int IntKind.i64 (3 : Int)])
        [AObj.cells [AV.str { data := #[] }, AV.sl 0 (Seq.raw []) Tip.nil], AObj.cells [AV.str s, AV.int IntKind.i64 e],
        AObj.cells [AV.str nm, AV.sl 2 (Seq.map T.encR ((0 : Int), []) acc) (Tip.tok 3)], AObj.tok])
        (condP (x != (0 : Int))
        (Post (AV.tup [AV.agg [AV.str { data := #[] }, AV.sl 0 (Seq.raw []) Tip.nil], AV.int IntKind.i64 x])
        [AObj.cells [AV.str { data := #[] }, AV.sl 0 (Seq.raw []) Tip.nil], AObj.cells [AV.str s, AV.int IntKind.i64 e],
        AObj.cells [AV.str nm, AV.sl 2 (Seq.map T.encR ((0 : Int), []) acc) (Tip.tok 3)], AObj.tok])
        (Post (AV.tup [AV.agg [AV.str nm, AV.sl 2 (Seq.map T.encR ((0 : Int), []) acc) (Tip.tok 3)], AV.int IntKind.i64 (0 : Int)])
        [AObj.cells [AV.str nm, AV.sl 2 (Seq.map T.encR ((0 : Int), []) acc) (Tip.tok 3)], AObj.cells [AV.str s, AV.int IntKind.i64 e],
        AObj.cells [AV.str nm, AV.sl 2 (Seq.map T.encR ((0 : Int), []) acc) (Tip.tok 3)], AObj.tok])))
        (condP (x != (0 : Int))
        (Post (AV.tup [AV.agg [AV.str { data := #[] }, AV.sl 0 (Seq.raw []) Tip.nil], AV.int IntKind.i64 x])
        [AObj.cells [AV.str { data := #[] }, AV.sl 0 (Seq.raw []) Tip.nil], AObj.cells [AV.str s, AV.int IntKind.i64 e],
        AObj.cells [AV.str nm, AV.sl 2 (Seq.map T.encR ((0 : Int), []) acc) (Tip.tok 3)], AObj.tok])
        (Post (AV.tup [AV.agg [AV.str nm, AV.sl 2 (Seq.map T.encR ((0 : Int), []) acc) (Tip.tok 3)], AV.int IntKind.i64 (0 : Int)])
        [AObj.cells [AV.str nm, AV.sl 2 (Seq.map T.encR ((0 : Int), []) acc) (Tip.tok 3)], AObj.cells [AV.str s, AV.int IntKind.i64 e],
        AObj.cells [AV.str nm, AV.sl 2 (Seq.map T.encR ((0 : Int), []) acc) (Tip.tok 3)], AObj.tok]))) →
    AWP Try.prog 53 n_1 c277_7
      [(2, AV.ptr 0 0), (4, AV.ptr 1 0), (5, AV.ptr 2 0), (6, AV.int IntKind.i64 n), (7, AV.int IntKind.i64 i)]
      [AObj.cells [AV.str { data := #[] }, AV.sl 0 (Seq.raw []) Tip.nil], AObj.cells [AV.str s, AV.int IntKind.i64 e],
        AObj.cells [AV.str nm, AV.sl 2 (Seq.map T.encR ((0 : Int), []) acc) (Tip.tok 3)], AObj.tok]
      (q277_2 n_1 Post) := fun s e nm acc n i n Post h => Go.Ab.AWP.loop' g277 (Cfg.live g277) c277_7 (by kernel_rfl) (by kernel_rfl) (Go.Ab.kc (by kernel_rfl) h)

end
end W
end

section
/- Entries, and what an index knows. -/

open Go Go.Ab Go.Proofs
namespace T
/-- name, body -/
abbrev Ent := List UInt8 × List UInt8
noncomputable def encEn (x : Ent) : List AV := [.str ⟨x.1.toArray⟩, .sl 1 (.map encB 0 x.2) .none]
/-- a manifest, or a name that is broken -/
abbrev Known := Option Mani
noncomputable def encK : Known → AV
  | some m => .iface 276 (.agg (encM m))
  | none => .iface 365 (.agg [])
noncomputable def EK : Enc Known := ⟨encK, fun a K => optionP a (fun m => K (.iface 276 (.agg (encM m)))) (K (.iface 365 (.agg []))), fun a K h => by cases a <;> exact h⟩
abbrev Kn := List (ByteArray × Known)
noncomputable def HX (es : Kn) : List AObj := [.mp (.typed EK es), .cells [.map 0]]
end T
end

section
/- Names as cells. -/

open Go Go.Ab Go.Proofs
namespace T
noncomputable def encL (x : List UInt8) : List AV := [.str ⟨x.toArray⟩]
end T
end
