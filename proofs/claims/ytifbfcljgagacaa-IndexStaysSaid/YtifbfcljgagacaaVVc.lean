/- Printed: what the code of functions 17, 18, 87, 19, 20, 21, 22, 23, 24, 25, 28, 30, 26, 27, 29, 31, 88, 89, 16, 3, 4, 5, 6 asks for, by the framework's own reading of it; each line is checked against the code. -/
import Derived.Test.YtifbfcljgagacaaProg
import Derived.Test.YtifbfcljgagacaaAbGraft
set_option linter.unusedVariables false
set_option maxRecDepth 100000
set_option maxHeartbeats 4000000
open Go Go.Ab Go.Proofs
namespace V
noncomputable section

noncomputable def encR (x : Int × Int) : List AV := [.int .i64 x.1, .int .i64 x.2]
noncomputable def rd (bs : List UInt8) (p e : Int) : AObj := .cells [.sl 1 (.map encB 0 bs) .none, .int .i64 p, .int .i64 e]
noncomputable def upd3 (args : List AV) (H : List AObj) (p e : Int) : List AObj := match args with
  | .ptr id _ :: _ => match H[id]? with
    | some (.cells [b, _, _]) => H.set id (.cells [b, .int .i64 p, .int .i64 e])
    | _ => H
  | _ => H
noncomputable def upd2 (args : List AV) (H : List AObj) (s : ByteArray) (e : Int) : List AObj := match args with
  | .ptr id _ :: _ => H.set id (.cells [.str s, .int .i64 e])
  | _ => H
noncomputable def retL : List (Nat × Ret) := [
  (16, ⟨Unit, fun _ _ _ => .bool true, fun _ H _ => H⟩),
  (17, ⟨List UInt8, fun _ H l => .sl 1 (.map encB 0 l) (.tok H.length), fun _ H _ => H ++ [.tok]⟩),
  (18, ⟨List UInt8, fun _ H l => .sl 1 (.map encB 0 l) (.tok H.length), fun _ H _ => H ++ [.tok]⟩),
  (19, ⟨ByteArray, fun _ _ s => .str s, fun _ H _ => H⟩),
  (20, ⟨ByteArray, fun _ _ s => .str s, fun _ H _ => H⟩),
  (21, ⟨List UInt8, fun _ H _ => .ptr H.length 0, fun _ H l => H ++ [rd l 0 0]⟩),
  (22, ⟨Int × Int × Int, fun _ _ x => .int .i64 x.1, fun a H x => upd3 a H x.2.1 x.2.2⟩),
  (23, ⟨ByteArray × Int × Int, fun _ _ x => .str x.1, fun a H x => upd3 a H x.2.1 x.2.2⟩),
  (24, ⟨Int, fun _ _ x => .int .i64 x, fun _ H _ => H⟩),
  (25, ⟨Int, fun _ _ x => .int .i64 x, fun _ H _ => H⟩),
  (26, ⟨Int × ByteArray × Int, fun _ _ x => .int .i64 x.1, fun a H x => upd2 a H x.2.1 x.2.2⟩),
  (27, ⟨ByteArray × ByteArray × Int, fun _ _ x => .str x.1, fun a H x => upd2 a H x.2.1 x.2.2⟩),
  (28, ⟨Int × Int, fun _ _ x => .tup [], fun a H x => upd3 a H x.1 x.2⟩),
  (29, ⟨ByteArray × Int, fun _ _ x => .tup [], fun a H x => upd2 a H x.1 x.2⟩),
  (30, ⟨Int, fun _ _ x => .int .i64 x, fun _ H _ => H⟩),
  (31, ⟨Int, fun _ _ x => .int .i64 x, fun _ H _ => H⟩),
  (87, ⟨ByteArray, fun _ _ s => .str s, fun _ H _ => H⟩),
  (88, ⟨Int × Int × Int × Int, fun _ _ x => .tup [.int .i64 x.1, .int .i64 x.2.1], fun a H x => upd3 a H x.2.2.1 x.2.2.2⟩),
  (89, ⟨Int × Int × Int, fun _ _ x => .tup [.int .i64 x.1, .int .i64 x.2.1, .int .i64 x.2.2], fun _ H _ => H⟩)]
noncomputable def rets : FuncId → List Ret := lookupR retL

-- 17
noncomputable def l17 : Nat → List Nat
  | 3 => [5, 12, 13, 14]
  | 7 => [5, 7, 8, 12, 13, 14]
  | 9 => [5, 7, 8, 12, 13, 14]
  | _ => []
noncomputable def u17 : Nat → Bool
  | _ => false
noncomputable def m17 : Nat → Bool
  | _ => false
noncomputable def g17 : Cfg := { N := 48, live := l17, cut := u17, mu := m17, ret := rets }
noncomputable def c17 : Go.Code := Go.Ab.bodyOf Go.Proofs.Try.f17
noncomputable def q17_0 : Nat → (AV → List AObj → Prop) → AQ := fun (n : Nat) (Post : AV → List AObj → Prop) => endQ Try.prog (resultsOf Try.f17) Post
noncomputable def q17_1 : Nat → (AV → List AObj → Prop) → AQ := fun (n : Nat) (Post : AV → List AObj → Prop) => seqQ (fun (s' : Slots) (H' : List AObj) => awp Try.prog g17 n (codeSnd (codeSnd (codeSnd c17))) s' H' (q17_0 n Post)) (q17_0 n Post)
noncomputable def q17_2 : Nat → (AV → List AObj → Prop) → AQ := fun (n : Nat) (Post : AV → List AObj → Prop) => blockQ 0 (q17_1 n Post)
noncomputable def c17_3 : Go.Code := codeFst (codeSnd (codeFst (codeSnd (codeSnd c17))))
theorem s17 : ∀ (bs : List UInt8) (tip : Tip) (ns : List Int) (tip2 : Tip) (Post : AV → List AObj → Prop),
  needP (∀ (x : UInt8), List.all (encB x) oneAV = true)
      (needP ((0 + List.length bs) * 1 ≤ 140737488351232)
        (AWP Try.prog 48 0 c17_3
          [(5, AV.sl 1 (Seq.app (Seq.raw []) (Seq.map encB (0 : UInt8) bs)) (Tip.tok 0)), (12, AV.sl 1 (Seq.map encI (0 : Int) ns) tip2),
            (13, AV.int IntKind.i64 (↑(List.length ns) : Int)), (14, AV.int IntKind.i64 (0 : Int))]
          [AObj.tok] (q17_2 0 Post))) →
    ASpec Try.prog 17 [AV.sl 1 (Seq.map encB (0 : UInt8) bs) tip, AV.sl 1 (Seq.map encI (0 : Int) ns) tip2] [] Post := fun bs tip ns tip2 Post h => Go.Ab.ASpec.of_vc g17 Go.Proofs.Try.func17 (by kernel_rfl) (by kernel_rfl) (by kernel_rfl) (Go.Ab.kc (by kernel_rfl) h)
noncomputable def q17_3 : Nat → (AV → List AObj → Prop) → AQ := fun (n : Nat) (Post : AV → List AObj → Prop) => loopQ Try.prog 48 n c17_3 (q17_2 n Post) (Cfg.live g17)
noncomputable def q17_4 : Nat → (AV → List AObj → Prop) → AQ := fun (n : Nat) (Post : AV → List AObj → Prop) => seqQ (fun (s' : Slots) (H' : List AObj) => awp Try.prog g17 n (codeSnd (codeSnd (codeSnd (codeFst c17_3)))) s' H' (q17_3 n Post)) (q17_3 n Post)
noncomputable def q17_5 : Nat → (AV → List AObj → Prop) → AQ := fun (n : Nat) (Post : AV → List AObj → Prop) => blockQ 1 (q17_4 n Post)
noncomputable def q17_6 : Nat → (AV → List AObj → Prop) → AQ := fun (n : Nat) (Post : AV → List AObj → Prop) => seqQ (fun (s' : Slots) (H' : List AObj) => awp Try.prog g17 n (codeSnd (codeSnd (codeSnd (codeSnd (codeFst (codeFst (codeSnd (codeSnd (codeFst c17_3))))))))) s' H' (q17_5 n Post)) (q17_5 n Post)
noncomputable def q17_7 : Nat → (AV → List AObj → Prop) → AQ := fun (n : Nat) (Post : AV → List AObj → Prop) => blockQ 2 (q17_6 n Post)
noncomputable def c17_7 : Go.Code := codeFst (codeFst (codeSnd (codeSnd (codeSnd (codeFst (codeFst (codeSnd (codeSnd (codeFst c17_3)))))))))
theorem v17_3 : ∀ (l : List UInt8) (ns : List Int) (tip2 : Tip) (k : Nat) (i : Int) (n : Nat) (Post : AV → List AObj → Prop),
  condP (decide (i < (↑k : Int)))
      (needP ((0 : Int) ≤ i ∧ i < (↑(List.length ns) : Int))
        (AWP Try.prog 48 n c17_7
          [(5, AV.sl 1 (Seq.map encB (0 : UInt8) l) (Tip.tok 0)),
            (7,
              AV.int IntKind.i64
                (if (1099511627776 : Int) < if (0 : Int) > List.getD ns (Int.toNat i) (0 : Int) then (0 : Int) else List.getD ns (Int.toNat i) (0 : Int) then (1099511627776 : Int)
                else if (0 : Int) > List.getD ns (Int.toNat i) (0 : Int) then (0 : Int) else List.getD ns (Int.toNat i) (0 : Int))),
            (8, AV.int IntKind.i64 (1 : Int)), (12, AV.sl 1 (Seq.map encI (0 : Int) ns) tip2), (13, AV.int IntKind.i64 (↑k : Int)), (14, AV.int IntKind.i64 i)]
          [AObj.tok] (q17_7 n Post)))
      (Post (AV.sl 1 (Seq.map encB (0 : UInt8) l) (Tip.tok 0)) [AObj.tok]) →
    AWP Try.prog 48 n c17_3
      [(5, AV.sl 1 (Seq.map encB (0 : UInt8) l) (Tip.tok 0)), (12, AV.sl 1 (Seq.map encI (0 : Int) ns) tip2), (13, AV.int IntKind.i64 (↑k : Int)),
        (14, AV.int IntKind.i64 i)]
      [AObj.tok] (q17_2 n Post) := fun l ns tip2 k i n Post h => Go.Ab.AWP.loop' g17 (Cfg.live g17) c17_3 (by kernel_rfl) (by kernel_rfl) (Go.Ab.kc (by kernel_rfl) h)
noncomputable def q17_8 : Nat → (AV → List AObj → Prop) → AQ := fun (n : Nat) (Post : AV → List AObj → Prop) => seqQ (fun (s' : Slots) (H' : List AObj) => awp Try.prog g17 n (codeSnd (codeSnd (codeSnd (codeSnd (codeSnd (codeFst (codeFst (codeSnd (codeSnd (codeFst c17_3)))))))))) s' H' (q17_5 n Post)) (q17_5 n Post)
noncomputable def q17_9 : Nat → (AV → List AObj → Prop) → AQ := fun (n : Nat) (Post : AV → List AObj → Prop) => blockQ 4 (q17_8 n Post)
noncomputable def c17_9 : Go.Code := codeFst (codeFst (codeSnd (codeSnd (codeSnd (codeSnd (codeFst (codeFst (codeSnd (codeSnd (codeFst c17_3))))))))))
theorem v17_7 : ∀ (l : List UInt8) (v w : Int) (ns : List Int) (tip2 : Tip) (k : Nat) (i : Int) (n : Nat) (Post : AV → List AObj → Prop),
  needP (w ≠ (0 : Int))
      (condP (decide (IntKind.wrap IntKind.i64 (Int.tdiv v w) ≥ (128 : Int)))
        (AWP Try.prog 48 n c17_7
          [(5, AV.sl 1 (Seq.map encB (0 : UInt8) l) (Tip.tok 0)), (7, AV.int IntKind.i64 v),
            (8, AV.int IntKind.i64 (IntKind.wrap IntKind.i64 (w * (128 : Int)))), (12, AV.sl 1 (Seq.map encI (0 : Int) ns) tip2), (13, AV.int IntKind.i64 (↑k : Int)),
            (14, AV.int IntKind.i64 i)]
          [AObj.tok] (q17_7 n Post))
        (AWP Try.prog 48 n c17_9
          [(5, AV.sl 1 (Seq.map encB (0 : UInt8) l) (Tip.tok 0)), (7, AV.int IntKind.i64 v), (8, AV.int IntKind.i64 w),
            (12, AV.sl 1 (Seq.map encI (0 : Int) ns) tip2), (13, AV.int IntKind.i64 (↑k : Int)), (14, AV.int IntKind.i64 i)]
          [AObj.tok] (q17_9 n Post))) →
    AWP Try.prog 48 n c17_7
      [(5, AV.sl 1 (Seq.map encB (0 : UInt8) l) (Tip.tok 0)), (7, AV.int IntKind.i64 v), (8, AV.int IntKind.i64 w),
        (12, AV.sl 1 (Seq.map encI (0 : Int) ns) tip2), (13, AV.int IntKind.i64 (↑k : Int)), (14, AV.int IntKind.i64 i)]
      [AObj.tok] (q17_7 n Post) := fun l v w ns tip2 k i n Post h => Go.Ab.AWP.loop' g17 (Cfg.live g17) c17_7 (by kernel_rfl) (by kernel_rfl) (Go.Ab.kc (by kernel_rfl) h)
theorem v17_9 : ∀ (l : List UInt8) (v w : Int) (ns : List Int) (tip2 : Tip) (k : Nat) (i : Int) (n : Nat) (Post : AV → List AObj → Prop),
  condP (decide (w > (1 : Int)))
      (needP (w ≠ (0 : Int))
        (needP ((128 : Int) ≠ (0 : Int))
          (needP ((List.length l + 1) * 1 ≤ 140737488351232)
            (needP ((128 : Int) ≠ (0 : Int))
              (AWP Try.prog 48 n c17_9
                [(5,
                    AV.sl 1
                      (Seq.app (Seq.map encB (0 : UInt8) l)
                        (Seq.raw [[AV.int IntKind.u8 (IntKind.wrap IntKind.u8 (IntKind.wrap IntKind.i64 ((128 : Int) + Int.tmod (IntKind.wrap IntKind.i64 (Int.tdiv v w)) (128 : Int))))]]))
                      (Tip.tok 1)),
                  (7, AV.int IntKind.i64 v), (8, AV.int IntKind.i64 (IntKind.wrap IntKind.i64 (Int.tdiv w (128 : Int)))),
                  (12, AV.sl 1 (Seq.map encI (0 : Int) ns) tip2), (13, AV.int IntKind.i64 (↑k : Int)), (14, AV.int IntKind.i64 i)]
                [AObj.gone, AObj.tok] (q17_9 n Post))))))
      (needP ((128 : Int) ≠ (0 : Int))
        (needP ((List.length l + 1) * 1 ≤ 140737488351232)
          (AWP Try.prog 48 n c17_3
            [(5, AV.sl 1 (Seq.app (Seq.map encB (0 : UInt8) l) (Seq.raw [[AV.int IntKind.u8 (IntKind.wrap IntKind.u8 (Int.tmod v (128 : Int)))]])) (Tip.tok 1)),
              (12, AV.sl 1 (Seq.map encI (0 : Int) ns) tip2), (13, AV.int IntKind.i64 (↑k : Int)), (14, AV.int IntKind.i64 (IntKind.wrap IntKind.i64 (i + (1 : Int))))]
            [AObj.gone, AObj.tok] (q17_2 n Post)))) →
    AWP Try.prog 48 n c17_9
      [(5, AV.sl 1 (Seq.map encB (0 : UInt8) l) (Tip.tok 0)), (7, AV.int IntKind.i64 v), (8, AV.int IntKind.i64 w),
        (12, AV.sl 1 (Seq.map encI (0 : Int) ns) tip2), (13, AV.int IntKind.i64 (↑k : Int)), (14, AV.int IntKind.i64 i)]
      [AObj.tok] (q17_9 n Post) := fun l v w ns tip2 k i n Post h => Go.Ab.AWP.loop' g17 (Cfg.live g17) c17_9 (by kernel_rfl) (by kernel_rfl) (Go.Ab.kc (by kernel_rfl) h)

-- 18
noncomputable def l18 : Nat → List Nat
  | _ => []
noncomputable def u18 : Nat → Bool
  | _ => false
noncomputable def m18 : Nat → Bool
  | _ => false
noncomputable def g18 : Cfg := { N := 12, live := l18, cut := u18, mu := m18, ret := rets }
noncomputable def c18 : Go.Code := Go.Ab.bodyOf Go.Proofs.Try.f18
theorem s18 : ∀ (bs : List UInt8) (tip : Tip) (s : ByteArray) (Post : AV → List AObj → Prop),
  (ASpec Try.prog 17 [AV.sl 1 (Seq.map encB (0 : UInt8) bs) tip, AV.sl 1 (Seq.raw [[AV.int IntKind.i64 (↑(ByteArray.size s) : Int)]]) Tip.full] []
      fun (r : AV) (H' : List AObj) =>
      ∃ (x : List UInt8),
        r = AV.sl 1 (Seq.map encB (0 : UInt8) x) (Tip.tok 0) ∧
          H' = [AObj.tok] ∧
            needP (∀ (x : UInt8), List.all (encB x) oneAV = true)
              (needP ((List.length x + Seq.len (bytesSeq s)) * 1 ≤ 140737488351232)
                (Post (AV.sl 1 (Seq.app (Seq.map encB (0 : UInt8) x) (bytesSeq s)) (Tip.tok 1)) [AObj.gone, AObj.tok]))) →
    ASpec Try.prog 18 [AV.sl 1 (Seq.map encB (0 : UInt8) bs) tip, AV.str s] [] Post := fun bs tip s Post h => Go.Ab.ASpec.of_vc g18 Go.Proofs.Try.func18 (by kernel_rfl) (by kernel_rfl) (by kernel_rfl) (Go.Ab.kc (by kernel_rfl) h)

-- 87
noncomputable def l87 : Nat → List Nat
  | 3 => [0, 3]
  | _ => []
noncomputable def u87 : Nat → Bool
  | _ => false
noncomputable def m87 : Nat → Bool
  | _ => false
noncomputable def g87 : Cfg := { N := 25, live := l87, cut := u87, mu := m87, ret := rets }
noncomputable def c87 : Go.Code := Go.Ab.bodyOf Go.Proofs.Try.f87
noncomputable def q87_0 : Nat → (AV → List AObj → Prop) → AQ := fun (n : Nat) (Post : AV → List AObj → Prop) => endQ Try.prog (resultsOf Try.f87) Post
noncomputable def q87_1 : Nat → (AV → List AObj → Prop) → AQ := fun (n : Nat) (Post : AV → List AObj → Prop) => seqQ (fun (s' : Slots) (H' : List AObj) => awp Try.prog g87 n (codeSnd (codeSnd (codeSnd (codeSnd c87)))) s' H' (q87_0 n Post)) (q87_0 n Post)
noncomputable def q87_2 : Nat → (AV → List AObj → Prop) → AQ := fun (n : Nat) (Post : AV → List AObj → Prop) => blockQ 0 (q87_1 n Post)
noncomputable def c87_3 : Go.Code := codeFst (codeFst (codeSnd (codeSnd (codeSnd c87))))
theorem s87 : ∀ (x : Int) (Post : AV → List AObj → Prop),
  needP ((128 : Int) ≠ (0 : Int))
      (needP
        (allBytes
          (Seq.raw
            [[AV.int IntKind.u8
                  (IntKind.wrap IntKind.u8
                    (Int.tmod (if (1099511627776 : Int) < if (0 : Int) > x then (0 : Int) else x then (1099511627776 : Int) else if (0 : Int) > x then (0 : Int) else x) (128 : Int)))]]))
        (AWP Try.prog 25 0 c87_3
          [(0, AV.int IntKind.i64 (if (1099511627776 : Int) < if (0 : Int) > x then (0 : Int) else x then (1099511627776 : Int) else if (0 : Int) > x then (0 : Int) else x)),
            (3,
              AV.str
                (bytesOf
                  (Seq.raw
                    [[AV.int IntKind.u8
                          (IntKind.wrap IntKind.u8
                            (Int.tmod (if (1099511627776 : Int) < if (0 : Int) > x then (0 : Int) else x then (1099511627776 : Int) else if (0 : Int) > x then (0 : Int) else x) (128 : Int)))]])))]
          [] (q87_2 0 Post))) →
    ASpec Try.prog 87 [AV.int IntKind.i64 x] [] Post := fun x Post h => Go.Ab.ASpec.of_vc g87 Go.Proofs.Try.func87 (by kernel_rfl) (by kernel_rfl) (by kernel_rfl) (Go.Ab.kc (by kernel_rfl) h)
theorem v87_3 : ∀ (x : Int) (s : ByteArray) (n : Nat) (Post : AV → List AObj → Prop),
  condP (decide (x ≥ (128 : Int)))
      (needP ((128 : Int) ≠ (0 : Int))
        (needP ((128 : Int) ≠ (0 : Int))
          (needP
            (allBytes (Seq.raw [[AV.int IntKind.u8 (IntKind.wrap IntKind.u8 (IntKind.wrap IntKind.i64 ((128 : Int) + Int.tmod (IntKind.wrap IntKind.i64 (Int.tdiv x (128 : Int))) (128 : Int))))]]))
            (needP
              ((↑(ByteArray.size
                        (bytesOf
                          (Seq.raw
                            [[AV.int IntKind.u8 (IntKind.wrap IntKind.u8 (IntKind.wrap IntKind.i64 ((128 : Int) + Int.tmod (IntKind.wrap IntKind.i64 (Int.tdiv x (128 : Int))) (128 : Int))))]])) +
                      ByteArray.size s) :
                  Int) ≤
                (9223372036854775807 : Int))
              (AWP Try.prog 25 n c87_3
                [(0, AV.int IntKind.i64 (IntKind.wrap IntKind.i64 (Int.tdiv x (128 : Int)))),
                  (3,
                    AV.str
                      (bytesOf
                          (Seq.raw
                            [[AV.int IntKind.u8 (IntKind.wrap IntKind.u8 (IntKind.wrap IntKind.i64 ((128 : Int) + Int.tmod (IntKind.wrap IntKind.i64 (Int.tdiv x (128 : Int))) (128 : Int))))]]) ++
                        s))]
                [] (q87_2 n Post))))))
      (Post (AV.str s) []) →
    AWP Try.prog 25 n c87_3 [(0, AV.int IntKind.i64 x), (3, AV.str s)] [] (q87_2 n Post) := fun x s n Post h => Go.Ab.AWP.loop' g87 (Cfg.live g87) c87_3 (by kernel_rfl) (by kernel_rfl) (Go.Ab.kc (by kernel_rfl) h)

-- 19
noncomputable def l19 : Nat → List Nat
  | 3 => [0, 3, 4]
  | _ => []
noncomputable def u19 : Nat → Bool
  | _ => false
noncomputable def m19 : Nat → Bool
  | _ => false
noncomputable def g19 : Cfg := { N := 19, live := l19, cut := u19, mu := m19, ret := rets }
noncomputable def c19 : Go.Code := Go.Ab.bodyOf Go.Proofs.Try.f19
noncomputable def q19_0 : Nat → (AV → List AObj → Prop) → AQ := fun (n : Nat) (Post : AV → List AObj → Prop) => endQ Try.prog (resultsOf Try.f19) Post
noncomputable def q19_1 : Nat → (AV → List AObj → Prop) → AQ := fun (n : Nat) (Post : AV → List AObj → Prop) => seqQ (fun (s' : Slots) (H' : List AObj) => awp Try.prog g19 n (codeSnd (codeSnd (codeSnd c19))) s' H' (q19_0 n Post)) (q19_0 n Post)
noncomputable def q19_2 : Nat → (AV → List AObj → Prop) → AQ := fun (n : Nat) (Post : AV → List AObj → Prop) => blockQ 0 (q19_1 n Post)
noncomputable def c19_3 : Go.Code := codeFst (codeSnd (codeFst (codeSnd (codeSnd c19))))
theorem s19 : ∀ (ns : List Int) (tip : Tip) (Post : AV → List AObj → Prop),
  AWP Try.prog 19 0 c19_3 [(0, AV.sl 1 (Seq.map encI (0 : Int) ns) tip), (3, AV.str { data := #[] }), (4, AV.int IntKind.i64 (0 : Int))] []
      (q19_2 0 Post) →
    ASpec Try.prog 19 [AV.sl 1 (Seq.map encI (0 : Int) ns) tip] [] Post := fun ns tip Post h => Go.Ab.ASpec.of_vc g19 Go.Proofs.Try.func19 (by kernel_rfl) (by kernel_rfl) (by kernel_rfl) (Go.Ab.kc (by kernel_rfl) h)
theorem v19_3 : ∀ (ns : List Int) (tip : Tip) (s : ByteArray) (i : Int) (n : Nat) (Post : AV → List AObj → Prop),
  condP (decide (i < (↑(List.length ns) : Int)))
      (needP ((0 : Int) ≤ i ∧ i < (↑(List.length ns) : Int))
        (ASpec Try.prog 87 [AV.int IntKind.i64 (List.getD ns (Int.toNat i) (0 : Int))] [] fun (r : AV) (H' : List AObj) =>
          ∃ (x : ByteArray),
            r = AV.str x ∧
              H' = [] ∧
                needP ((↑(ByteArray.size s + ByteArray.size x) : Int) ≤ (9223372036854775807 : Int))
                  (AWP Try.prog 19 n c19_3
                    [(0, AV.sl 1 (Seq.map encI (0 : Int) ns) tip), (3, AV.str (s ++ x)), (4, AV.int IntKind.i64 (IntKind.wrap IntKind.i64 (i + (1 : Int))))] []
                    (q19_2 n Post))))
      (Post (AV.str s) []) →
    AWP Try.prog 19 n c19_3 [(0, AV.sl 1 (Seq.map encI (0 : Int) ns) tip), (3, AV.str s), (4, AV.int IntKind.i64 i)] [] (q19_2 n Post) := fun ns tip s i n Post h => Go.Ab.AWP.loop' g19 (Cfg.live g19) c19_3 (by kernel_rfl) (by kernel_rfl) (Go.Ab.kc (by kernel_rfl) h)

-- 20
noncomputable def l20 : Nat → List Nat
  | _ => []
noncomputable def u20 : Nat → Bool
  | _ => false
noncomputable def m20 : Nat → Bool
  | _ => false
noncomputable def g20 : Cfg := { N := 8, live := l20, cut := u20, mu := m20, ret := rets }
noncomputable def c20 : Go.Code := Go.Ab.bodyOf Go.Proofs.Try.f20
theorem s20 : ∀ (s : ByteArray) (Post : AV → List AObj → Prop),
  (ASpec Try.prog 87 [AV.int IntKind.i64 (↑(ByteArray.size s) : Int)] [] fun (r : AV) (H' : List AObj) =>
      ∃ (x : ByteArray), r = AV.str x ∧ H' = [] ∧ needP ((↑(ByteArray.size x + ByteArray.size s) : Int) ≤ (9223372036854775807 : Int)) (Post (AV.str (x ++ s)) [])) →
    ASpec Try.prog 20 [AV.str s] [] Post := fun s Post h => Go.Ab.ASpec.of_vc g20 Go.Proofs.Try.func20 (by kernel_rfl) (by kernel_rfl) (by kernel_rfl) (Go.Ab.kc (by kernel_rfl) h)

-- 21
noncomputable def l21 : Nat → List Nat
  | 3 => [3]
  | _ => []
noncomputable def u21 : Nat → Bool
  | 3 => true
  | _ => false
noncomputable def m21 : Nat → Bool
  | _ => true
noncomputable def g21 : Cfg := { N := 13, live := l21, cut := u21, mu := m21, ret := rets }
noncomputable def c21 : Go.Code := Go.Ab.bodyOf Go.Proofs.Try.f21
noncomputable def q21_0 : Nat → (AV → List AObj → Prop) → AQ := fun (n : Nat) (Post : AV → List AObj → Prop) => endQ Try.prog (resultsOf Try.f21) Post
noncomputable def c21_3 : Go.Code := codeSnd (codeSnd (codeSnd c21))
theorem s21 : ∀ (bs : List UInt8) (tip : Tip) (Post : AV → List AObj → Prop),
  needP
      ((0 : Int) ≤ (↑(List.length bs) : Int) ∧
        (↑(List.length bs) : Int) ≤ (↑(List.length bs) : Int) ∧ (↑(List.length bs) : Int) ≤ (9223372036854775807 : Int) ∧ (1 : Int) * (↑(List.length bs) : Int) ≤ (281474976710656 : Int))
      (needP (∀ (x : UInt8), List.all (encB x) oneAV = true)
        (needP
          (0 + List.length bs ≤ List.length (List.replicate (List.length bs) (List.map ofCell (Array.toList (Value.cells (Value.int IntKind.u8 (0 : Int)))))) ∧ List.length bs ≤ List.length bs)
          (AWP Try.prog 13 0 c21_3 [(3, AV.msl 1 0 0 (List.length bs))]
            [AObj.arr 1
                (copied (Seq.raw (List.replicate (List.length bs) (List.map ofCell (Array.toList (Value.cells (Value.int IntKind.u8 (0 : Int))))))) 0 (Seq.map encB (0 : UInt8) bs))]
            (q21_0 0 Post)))) →
    ASpec Try.prog 21 [AV.sl 1 (Seq.map encB (0 : UInt8) bs) tip] [] Post := fun bs tip Post h => Go.Ab.ASpec.of_vc g21 Go.Proofs.Try.func21 (by kernel_rfl) (by kernel_rfl) (by kernel_rfl) (Go.Ab.kc (by kernel_rfl) h)
theorem v21_3 : ∀ (bs : List UInt8) (n : Nat) (Post : AV → List AObj → Prop),
  Post (AV.ptr 0 0) [AObj.cells [AV.sl 1 (Seq.map encB (0 : UInt8) bs) Tip.none, AV.int IntKind.i64 (0 : Int), AV.int IntKind.i64 (0 : Int)]] →
    AWP Try.prog 13 n c21_3 [(3, AV.sl 1 (Seq.map encB (0 : UInt8) bs) Tip.none)] [] (q21_0 n Post) := fun bs n Post h => Go.Ab.awp_sound g21 n _ _ _ _ (Go.Ab.kc (by kernel_rfl) h)

-- 22
noncomputable def l22 : Nat → List Nat
  | _ => []
noncomputable def u22 : Nat → Bool
  | _ => false
noncomputable def m22 : Nat → Bool
  | _ => false
noncomputable def g22 : Cfg := { N := 27, live := l22, cut := u22, mu := m22, ret := rets }
noncomputable def c22 : Go.Code := Go.Ab.bodyOf Go.Proofs.Try.f22
theorem s22 : ∀ (bs : List UInt8) (p e most : Int) (Post : AV → List AObj → Prop),
  condP (e != (0 : Int)) (Post (AV.int IntKind.i64 (0 : Int)) [AObj.cells [AV.sl 1 (Seq.map encB (0 : UInt8) bs) Tip.none, AV.int IntKind.i64 p, AV.int IntKind.i64 e]])
      (ASpec Try.prog 88 [AV.ptr 0 0, AV.int IntKind.i64 most] [AObj.cells [AV.sl 1 (Seq.map encB (0 : UInt8) bs) Tip.none, AV.int IntKind.i64 p, AV.int IntKind.i64 e]]
        fun (r : AV) (H' : List AObj) =>
        ∃ (x : Int × Int × Int × Int),
          r = AV.tup [AV.int IntKind.i64 (Prod.fst x), AV.int IntKind.i64 (Prod.fst (Prod.snd x))] ∧
            H' = [AObj.cells [AV.sl 1 (Seq.map encB (0 : UInt8) bs) Tip.none, AV.int IntKind.i64 (Prod.fst (Prod.snd (Prod.snd x))), AV.int IntKind.i64 (Prod.snd (Prod.snd (Prod.snd x)))]] ∧
              Post (AV.int IntKind.i64 (Prod.fst x))
                [AObj.cells [AV.sl 1 (Seq.map encB (0 : UInt8) bs) Tip.none, AV.int IntKind.i64 (Prod.fst (Prod.snd x)), AV.int IntKind.i64 (Prod.snd (Prod.snd (Prod.snd x)))]]) →
    ASpec Try.prog 22 [AV.ptr 0 0, AV.int IntKind.i64 most] [rd bs p e] Post := fun bs p e most Post h => Go.Ab.ASpec.of_vc g22 Go.Proofs.Try.func22 (by kernel_rfl) (by kernel_rfl) (by kernel_rfl) (Go.Ab.kc (by kernel_rfl) h)
theorem s22n : ∀ (most : Int) (Post : AV → List AObj → Prop), Post (AV.int IntKind.i64 (0 : Int)) [] → ASpec Try.prog 22 [AV.nilp, AV.int IntKind.i64 most] [] Post := fun most Post h => Go.Ab.ASpec.of_vc g22 Go.Proofs.Try.func22 (by kernel_rfl) (by kernel_rfl) (by kernel_rfl) (Go.Ab.kc (by kernel_rfl) h)

-- 23
noncomputable def l23 : Nat → List Nat
  | _ => []
noncomputable def u23 : Nat → Bool
  | _ => false
noncomputable def m23 : Nat → Bool
  | _ => false
noncomputable def g23 : Cfg := { N := 56, live := l23, cut := u23, mu := m23, ret := rets }
noncomputable def c23 : Go.Code := Go.Ab.bodyOf Go.Proofs.Try.f23
theorem s23 : ∀ (bs : List UInt8) (p e most : Int) (Post : AV → List AObj → Prop),
  condP (e != (0 : Int)) (Post (AV.str { data := #[] }) [AObj.cells [AV.sl 1 (Seq.map encB (0 : UInt8) bs) Tip.none, AV.int IntKind.i64 p, AV.int IntKind.i64 e]])
      (ASpec Try.prog 88 [AV.ptr 0 0, AV.int IntKind.i64 most] [AObj.cells [AV.sl 1 (Seq.map encB (0 : UInt8) bs) Tip.none, AV.int IntKind.i64 p, AV.int IntKind.i64 e]]
        fun (r : AV) (H' : List AObj) =>
        ∃ (x : Int × Int × Int × Int),
          r = AV.tup [AV.int IntKind.i64 (Prod.fst x), AV.int IntKind.i64 (Prod.fst (Prod.snd x))] ∧
            H' = [AObj.cells [AV.sl 1 (Seq.map encB (0 : UInt8) bs) Tip.none, AV.int IntKind.i64 (Prod.fst (Prod.snd (Prod.snd x))), AV.int IntKind.i64 (Prod.snd (Prod.snd (Prod.snd x)))]] ∧
              condP (Prod.snd (Prod.snd (Prod.snd x)) != (0 : Int))
                (Post (AV.str { data := #[] })
                  [AObj.cells [AV.sl 1 (Seq.map encB (0 : UInt8) bs) Tip.none, AV.int IntKind.i64 (Prod.fst (Prod.snd (Prod.snd x))), AV.int IntKind.i64 (Prod.snd (Prod.snd (Prod.snd x)))]])
                (condP (decide (Prod.fst x > IntKind.wrap IntKind.i64 ((↑(List.length bs) : Int) - Prod.fst (Prod.snd x))))
                  (Post (AV.str { data := #[] })
                    [AObj.cells [AV.sl 1 (Seq.map encB (0 : UInt8) bs) Tip.none, AV.int IntKind.i64 (Prod.fst (Prod.snd (Prod.snd x))), AV.int IntKind.i64 (2 : Int)]])
                  (needP
                    ((0 : Int) ≤ Prod.fst (Prod.snd x) ∧
                      Prod.fst (Prod.snd x) ≤ IntKind.wrap IntKind.i64 (Prod.fst (Prod.snd x) + Prod.fst x) ∧ IntKind.wrap IntKind.i64 (Prod.fst (Prod.snd x) + Prod.fst x) ≤ (↑(List.length bs) : Int))
                    (needP
                      (allBytes (Seq.map encB (0 : UInt8) (List.drop (Int.toNat (Prod.fst (Prod.snd x))) (List.take (Int.toNat (IntKind.wrap IntKind.i64 (Prod.fst (Prod.snd x) + Prod.fst x))) bs))))
                      (Post
                        (AV.str
                          (bytesOf
                            (Seq.map encB (0 : UInt8) (List.drop (Int.toNat (Prod.fst (Prod.snd x))) (List.take (Int.toNat (IntKind.wrap IntKind.i64 (Prod.fst (Prod.snd x) + Prod.fst x))) bs)))))
                        [AObj.cells
                            [AV.sl 1 (Seq.map encB (0 : UInt8) bs) Tip.none, AV.int IntKind.i64 (IntKind.wrap IntKind.i64 (Prod.fst (Prod.snd x) + Prod.fst x)),
                              AV.int IntKind.i64 (Prod.snd (Prod.snd (Prod.snd x)))]]))))) →
    ASpec Try.prog 23 [AV.ptr 0 0, AV.int IntKind.i64 most] [rd bs p e] Post := fun bs p e most Post h => Go.Ab.ASpec.of_vc g23 Go.Proofs.Try.func23 (by kernel_rfl) (by kernel_rfl) (by kernel_rfl) (Go.Ab.kc (by kernel_rfl) h)
theorem s23n : ∀ (most : Int) (Post : AV → List AObj → Prop), Post (AV.str { data := #[] }) [] → ASpec Try.prog 23 [AV.nilp, AV.int IntKind.i64 most] [] Post := fun most Post h => Go.Ab.ASpec.of_vc g23 Go.Proofs.Try.func23 (by kernel_rfl) (by kernel_rfl) (by kernel_rfl) (Go.Ab.kc (by kernel_rfl) h)

-- 24
noncomputable def l24 : Nat → List Nat
  | _ => []
noncomputable def u24 : Nat → Bool
  | _ => false
noncomputable def m24 : Nat → Bool
  | _ => false
noncomputable def g24 : Cfg := { N := 9, live := l24, cut := u24, mu := m24, ret := rets }
noncomputable def c24 : Go.Code := Go.Ab.bodyOf Go.Proofs.Try.f24
theorem s24 : ∀ (bs : List UInt8) (p e : Int) (Post : AV → List AObj → Prop),
  Post (AV.int IntKind.i64 e) [AObj.cells [AV.sl 1 (Seq.map encB (0 : UInt8) bs) Tip.none, AV.int IntKind.i64 p, AV.int IntKind.i64 e]] →
    ASpec Try.prog 24 [AV.ptr 0 0] [rd bs p e] Post := fun bs p e Post h => Go.Ab.ASpec.of_vc g24 Go.Proofs.Try.func24 (by kernel_rfl) (by kernel_rfl) (by kernel_rfl) (Go.Ab.kc (by kernel_rfl) h)
theorem s24n : ∀ (Post : AV → List AObj → Prop), Post (AV.int IntKind.i64 (1 : Int)) [] → ASpec Try.prog 24 [AV.nilp] [] Post := fun Post h => Go.Ab.ASpec.of_vc g24 Go.Proofs.Try.func24 (by kernel_rfl) (by kernel_rfl) (by kernel_rfl) (Go.Ab.kc (by kernel_rfl) h)

-- 25
noncomputable def l25 : Nat → List Nat
  | _ => []
noncomputable def u25 : Nat → Bool
  | _ => false
noncomputable def m25 : Nat → Bool
  | _ => false
noncomputable def g25 : Cfg := { N := 15, live := l25, cut := u25, mu := m25, ret := rets }
noncomputable def c25 : Go.Code := Go.Ab.bodyOf Go.Proofs.Try.f25
theorem s25 : ∀ (bs : List UInt8) (p e : Int) (Post : AV → List AObj → Prop),
  Post (AV.int IntKind.i64 (IntKind.wrap IntKind.i64 ((↑(List.length bs) : Int) - p)))
      [AObj.cells [AV.sl 1 (Seq.map encB (0 : UInt8) bs) Tip.none, AV.int IntKind.i64 p, AV.int IntKind.i64 e]] →
    ASpec Try.prog 25 [AV.ptr 0 0] [rd bs p e] Post := fun bs p e Post h => Go.Ab.ASpec.of_vc g25 Go.Proofs.Try.func25 (by kernel_rfl) (by kernel_rfl) (by kernel_rfl) (Go.Ab.kc (by kernel_rfl) h)
theorem s25n : ∀ (Post : AV → List AObj → Prop), Post (AV.int IntKind.i64 (0 : Int)) [] → ASpec Try.prog 25 [AV.nilp] [] Post := fun Post h => Go.Ab.ASpec.of_vc g25 Go.Proofs.Try.func25 (by kernel_rfl) (by kernel_rfl) (by kernel_rfl) (Go.Ab.kc (by kernel_rfl) h)

-- 28
noncomputable def l28 : Nat → List Nat
  | _ => []
noncomputable def u28 : Nat → Bool
  | _ => false
noncomputable def m28 : Nat → Bool
  | _ => false
noncomputable def g28 : Cfg := { N := 17, live := l28, cut := u28, mu := m28, ret := rets }
noncomputable def c28 : Go.Code := Go.Ab.bodyOf Go.Proofs.Try.f28
theorem s28 : ∀ (bs : List UInt8) (p e x : Int) (Post : AV → List AObj → Prop),
  condP (e == (0 : Int)) (Post (AV.tup []) [AObj.cells [AV.sl 1 (Seq.map encB (0 : UInt8) bs) Tip.none, AV.int IntKind.i64 p, AV.int IntKind.i64 x]])
      (Post (AV.tup []) [AObj.cells [AV.sl 1 (Seq.map encB (0 : UInt8) bs) Tip.none, AV.int IntKind.i64 p, AV.int IntKind.i64 e]]) →
    ASpec Try.prog 28 [AV.ptr 0 0, AV.int IntKind.i64 x] [rd bs p e] Post := fun bs p e x Post h => Go.Ab.ASpec.of_vc g28 Go.Proofs.Try.func28 (by kernel_rfl) (by kernel_rfl) (by kernel_rfl) (Go.Ab.kc (by kernel_rfl) h)
theorem s28n : ∀ (x : Int) (Post : AV → List AObj → Prop), Post (AV.tup []) [] → ASpec Try.prog 28 [AV.nilp, AV.int IntKind.i64 x] [] Post := fun x Post h => Go.Ab.ASpec.of_vc g28 Go.Proofs.Try.func28 (by kernel_rfl) (by kernel_rfl) (by kernel_rfl) (Go.Ab.kc (by kernel_rfl) h)

-- 30
noncomputable def l30 : Nat → List Nat
  | _ => []
noncomputable def u30 : Nat → Bool
  | _ => false
noncomputable def m30 : Nat → Bool
  | _ => false
noncomputable def g30 : Cfg := { N := 14, live := l30, cut := u30, mu := m30, ret := rets }
noncomputable def c30 : Go.Code := Go.Ab.bodyOf Go.Proofs.Try.f30
theorem s30 : ∀ (bs : List UInt8) (p e : Int) (Post : AV → List AObj → Prop),
  (ASpec Try.prog 24 [AV.ptr 0 0] [AObj.cells [AV.sl 1 (Seq.map encB (0 : UInt8) bs) Tip.none, AV.int IntKind.i64 p, AV.int IntKind.i64 e]]
      fun (r : AV) (H' : List AObj) =>
      ∃ (x : Int),
        r = AV.int IntKind.i64 x ∧
          H' = [AObj.cells [AV.sl 1 (Seq.map encB (0 : UInt8) bs) Tip.none, AV.int IntKind.i64 p, AV.int IntKind.i64 e]] ∧
            condP (x != (0 : Int)) (Post (AV.int IntKind.i64 x) [AObj.cells [AV.sl 1 (Seq.map encB (0 : UInt8) bs) Tip.none, AV.int IntKind.i64 p, AV.int IntKind.i64 e]])
              (ASpec Try.prog 25 [AV.ptr 0 0] [AObj.cells [AV.sl 1 (Seq.map encB (0 : UInt8) bs) Tip.none, AV.int IntKind.i64 p, AV.int IntKind.i64 e]]
                fun (r : AV) (H' : List AObj) =>
                ∃ (x : Int),
                  r = AV.int IntKind.i64 x ∧
                    H' = [AObj.cells [AV.sl 1 (Seq.map encB (0 : UInt8) bs) Tip.none, AV.int IntKind.i64 p, AV.int IntKind.i64 e]] ∧
                      condP (decide (x > (0 : Int)))
                        (Post (AV.int IntKind.i64 (3 : Int)) [AObj.cells [AV.sl 1 (Seq.map encB (0 : UInt8) bs) Tip.none, AV.int IntKind.i64 p, AV.int IntKind.i64 e]])
                        (Post (AV.int IntKind.i64 (0 : Int)) [AObj.cells [AV.sl 1 (Seq.map encB (0 : UInt8) bs) Tip.none, AV.int IntKind.i64 p, AV.int IntKind.i64 e]]))) →
    ASpec Try.prog 30 [AV.ptr 0 0] [rd bs p e] Post := fun bs p e Post h => Go.Ab.ASpec.of_vc g30 Go.Proofs.Try.func30 (by kernel_rfl) (by kernel_rfl) (by kernel_rfl) (Go.Ab.kc (by kernel_rfl) h)
theorem s30n : ∀ (Post : AV → List AObj → Prop),
  (ASpec Try.prog 24 [AV.nilp] [] fun (r : AV) (H' : List AObj) =>
      ∃ (x : Int),
        r = AV.int IntKind.i64 x ∧
          H' = [] ∧
            condP (x != (0 : Int)) (Post (AV.int IntKind.i64 x) [])
              (ASpec Try.prog 25 [AV.nilp] [] fun (r : AV) (H' : List AObj) =>
                ∃ (x : Int), r = AV.int IntKind.i64 x ∧ H' = [] ∧ condP (decide (x > (0 : Int))) (Post (AV.int IntKind.i64 (3 : Int)) []) (Post (AV.int IntKind.i64 (0 : Int)) []))) →
    ASpec Try.prog 30 [AV.nilp] [] Post := fun Post h => Go.Ab.ASpec.of_vc g30 Go.Proofs.Try.func30 (by kernel_rfl) (by kernel_rfl) (by kernel_rfl) (Go.Ab.kc (by kernel_rfl) h)

-- 26
noncomputable def l26 : Nat → List Nat
  | _ => []
noncomputable def u26 : Nat → Bool
  | _ => false
noncomputable def m26 : Nat → Bool
  | _ => false
noncomputable def g26 : Cfg := { N := 37, live := l26, cut := u26, mu := m26, ret := rets }
noncomputable def c26 : Go.Code := Go.Ab.bodyOf Go.Proofs.Try.f26
theorem s26 : ∀ (s : ByteArray) (e most : Int) (Post : AV → List AObj → Prop),
  condP (e != (0 : Int)) (Post (AV.int IntKind.i64 (0 : Int)) [AObj.cells [AV.str s, AV.int IntKind.i64 e]])
      (ASpec Try.prog 89 [AV.str s, AV.int IntKind.i64 most] [AObj.cells [AV.str s, AV.int IntKind.i64 e]] fun (r : AV) (H' : List AObj) =>
        ∃ (x : Int × Int × Int),
          r = AV.tup [AV.int IntKind.i64 (Prod.fst x), AV.int IntKind.i64 (Prod.fst (Prod.snd x)), AV.int IntKind.i64 (Prod.snd (Prod.snd x))] ∧
            H' = [AObj.cells [AV.str s, AV.int IntKind.i64 e]] ∧
              needP ((0 : Int) ≤ Prod.fst (Prod.snd x) ∧ Prod.fst (Prod.snd x) ≤ (↑(ByteArray.size s) : Int))
                (Post (AV.int IntKind.i64 (Prod.fst x))
                  [AObj.cells [AV.str (ByteArray.extract s (Int.toNat (Prod.fst (Prod.snd x))) (ByteArray.size s)), AV.int IntKind.i64 (Prod.snd (Prod.snd x))]])) →
    ASpec Try.prog 26 [AV.ptr 0 0, AV.int IntKind.i64 most] [AObj.cells [AV.str s, AV.int IntKind.i64 e]] Post := fun s e most Post h => Go.Ab.ASpec.of_vc g26 Go.Proofs.Try.func26 (by kernel_rfl) (by kernel_rfl) (by kernel_rfl) (Go.Ab.kc (by kernel_rfl) h)

-- 27
noncomputable def l27 : Nat → List Nat
  | _ => []
noncomputable def u27 : Nat → Bool
  | _ => false
noncomputable def m27 : Nat → Bool
  | _ => false
noncomputable def g27 : Cfg := { N := 64, live := l27, cut := u27, mu := m27, ret := rets }
noncomputable def c27 : Go.Code := Go.Ab.bodyOf Go.Proofs.Try.f27
theorem s27 : ∀ (s : ByteArray) (e most : Int) (Post : AV → List AObj → Prop),
  condP (e != (0 : Int)) (Post (AV.str { data := #[] }) [AObj.cells [AV.str s, AV.int IntKind.i64 e]])
      (ASpec Try.prog 89 [AV.str s, AV.int IntKind.i64 most] [AObj.cells [AV.str s, AV.int IntKind.i64 e]] fun (r : AV) (H' : List AObj) =>
        ∃ (x : Int × Int × Int),
          r = AV.tup [AV.int IntKind.i64 (Prod.fst x), AV.int IntKind.i64 (Prod.fst (Prod.snd x)), AV.int IntKind.i64 (Prod.snd (Prod.snd x))] ∧
            H' = [AObj.cells [AV.str s, AV.int IntKind.i64 e]] ∧
              condP (Prod.snd (Prod.snd x) == (0 : Int))
                (condP (decide (Prod.fst x > IntKind.wrap IntKind.i64 ((↑(ByteArray.size s) : Int) - Prod.fst (Prod.snd x))))
                  (Post (AV.str { data := #[] }) [AObj.cells [AV.str s, AV.int IntKind.i64 (2 : Int)]])
                  (condP (Prod.snd (Prod.snd x) != (0 : Int)) (Post (AV.str { data := #[] }) [AObj.cells [AV.str s, AV.int IntKind.i64 (Prod.snd (Prod.snd x))]])
                    (needP
                      ((0 : Int) ≤ Prod.fst (Prod.snd x) ∧
                        Prod.fst (Prod.snd x) ≤ IntKind.wrap IntKind.i64 (Prod.fst (Prod.snd x) + Prod.fst x) ∧
                          IntKind.wrap IntKind.i64 (Prod.fst (Prod.snd x) + Prod.fst x) ≤ (↑(ByteArray.size s) : Int))
                      (needP ((0 : Int) ≤ IntKind.wrap IntKind.i64 (Prod.fst (Prod.snd x) + Prod.fst x) ∧ IntKind.wrap IntKind.i64 (Prod.fst (Prod.snd x) + Prod.fst x) ≤ (↑(ByteArray.size s) : Int))
                        (Post (AV.str (ByteArray.extract s (Int.toNat (Prod.fst (Prod.snd x))) (Int.toNat (IntKind.wrap IntKind.i64 (Prod.fst (Prod.snd x) + Prod.fst x)))))
                          [AObj.cells
                              [AV.str (ByteArray.extract s (Int.toNat (IntKind.wrap IntKind.i64 (Prod.fst (Prod.snd x) + Prod.fst x))) (ByteArray.size s)),
                                AV.int IntKind.i64 (Prod.snd (Prod.snd x))]])))))
                (condP (Prod.snd (Prod.snd x) != (0 : Int)) (Post (AV.str { data := #[] }) [AObj.cells [AV.str s, AV.int IntKind.i64 (Prod.snd (Prod.snd x))]])
                  (needP
                    ((0 : Int) ≤ Prod.fst (Prod.snd x) ∧
                      Prod.fst (Prod.snd x) ≤ IntKind.wrap IntKind.i64 (Prod.fst (Prod.snd x) + Prod.fst x) ∧
                        IntKind.wrap IntKind.i64 (Prod.fst (Prod.snd x) + Prod.fst x) ≤ (↑(ByteArray.size s) : Int))
                    (needP ((0 : Int) ≤ IntKind.wrap IntKind.i64 (Prod.fst (Prod.snd x) + Prod.fst x) ∧ IntKind.wrap IntKind.i64 (Prod.fst (Prod.snd x) + Prod.fst x) ≤ (↑(ByteArray.size s) : Int))
                      (Post (AV.str (ByteArray.extract s (Int.toNat (Prod.fst (Prod.snd x))) (Int.toNat (IntKind.wrap IntKind.i64 (Prod.fst (Prod.snd x) + Prod.fst x)))))
                        [AObj.cells
                            [AV.str (ByteArray.extract s (Int.toNat (IntKind.wrap IntKind.i64 (Prod.fst (Prod.snd x) + Prod.fst x))) (ByteArray.size s)),
                              AV.int IntKind.i64 (Prod.snd (Prod.snd x))]]))))) →
    ASpec Try.prog 27 [AV.ptr 0 0, AV.int IntKind.i64 most] [AObj.cells [AV.str s, AV.int IntKind.i64 e]] Post := fun s e most Post h => Go.Ab.ASpec.of_vc g27 Go.Proofs.Try.func27 (by kernel_rfl) (by kernel_rfl) (by kernel_rfl) (Go.Ab.kc (by kernel_rfl) h)

-- 29
noncomputable def l29 : Nat → List Nat
  | _ => []
noncomputable def u29 : Nat → Bool
  | _ => false
noncomputable def m29 : Nat → Bool
  | _ => false
noncomputable def g29 : Cfg := { N := 13, live := l29, cut := u29, mu := m29, ret := rets }
noncomputable def c29 : Go.Code := Go.Ab.bodyOf Go.Proofs.Try.f29
theorem s29 : ∀ (s : ByteArray) (e x : Int) (Post : AV → List AObj → Prop),
  condP (e == (0 : Int)) (Post (AV.tup []) [AObj.cells [AV.str s, AV.int IntKind.i64 x]]) (Post (AV.tup []) [AObj.cells [AV.str s, AV.int IntKind.i64 e]]) →
    ASpec Try.prog 29 [AV.ptr 0 0, AV.int IntKind.i64 x] [AObj.cells [AV.str s, AV.int IntKind.i64 e]] Post := fun s e x Post h => Go.Ab.ASpec.of_vc g29 Go.Proofs.Try.func29 (by kernel_rfl) (by kernel_rfl) (by kernel_rfl) (Go.Ab.kc (by kernel_rfl) h)

-- 31
noncomputable def l31 : Nat → List Nat
  | _ => []
noncomputable def u31 : Nat → Bool
  | _ => false
noncomputable def m31 : Nat → Bool
  | _ => false
noncomputable def g31 : Cfg := { N := 19, live := l31, cut := u31, mu := m31, ret := rets }
noncomputable def c31 : Go.Code := Go.Ab.bodyOf Go.Proofs.Try.f31
theorem s31 : ∀ (s : ByteArray) (e : Int) (Post : AV → List AObj → Prop),
  condP (e == (0 : Int))
      (condP (!ByteArray.toList s == ByteArray.toList { data := #[] }) (Post (AV.int IntKind.i64 (3 : Int)) [AObj.cells [AV.str s, AV.int IntKind.i64 e]])
        (Post (AV.int IntKind.i64 e) [AObj.cells [AV.str s, AV.int IntKind.i64 e]]))
      (Post (AV.int IntKind.i64 e) [AObj.cells [AV.str s, AV.int IntKind.i64 e]]) →
    ASpec Try.prog 31 [AV.ptr 0 0] [AObj.cells [AV.str s, AV.int IntKind.i64 e]] Post := fun s e Post h => Go.Ab.ASpec.of_vc g31 Go.Proofs.Try.func31 (by kernel_rfl) (by kernel_rfl) (by kernel_rfl) (Go.Ab.kc (by kernel_rfl) h)

-- 88
noncomputable def l88 : Nat → List Nat
  | 9 => [0, 1, 6, 44]
  | _ => []
noncomputable def u88 : Nat → Bool
  | _ => false
noncomputable def m88 : Nat → Bool
  | _ => false
noncomputable def g88 : Cfg := { N := 113, live := l88, cut := u88, mu := m88, ret := rets }
noncomputable def c88 : Go.Code := Go.Ab.bodyOf Go.Proofs.Try.f88
noncomputable def q88_0 : Nat → (AV → List AObj → Prop) → AQ := fun (n : Nat) (Post : AV → List AObj → Prop) => endQ Try.prog (resultsOf Try.f88) Post
noncomputable def q88_1 : Nat → (AV → List AObj → Prop) → AQ := fun (n : Nat) (Post : AV → List AObj → Prop) => seqQ (fun (s' : Slots) (H' : List AObj) => awp Try.prog g88 n (codeSnd (codeSnd (codeSnd (codeSnd (codeSnd c88))))) s' H' (q88_0 n Post)) (q88_0 n Post)
noncomputable def q88_2 : Nat → (AV → List AObj → Prop) → AQ := fun (n : Nat) (Post : AV → List AObj → Prop) => blockQ 0 (q88_1 n Post)
noncomputable def c88_9 : Go.Code := codeFst (codeSnd (codeFst (codeSnd (codeSnd (codeSnd (codeSnd c88))))))
theorem s88 : ∀ (bs : List UInt8) (p e most : Int) (Post : AV → List AObj → Prop),
  condP (p == (↑(List.length bs) : Int))
      ((AV.int IntKind.i64 p = AV.int IntKind.i64 p ∧
          [AObj.cells [AV.sl 1 (Seq.map encB (0 : UInt8) bs) Tip.none, AV.int IntKind.i64 p, AV.int IntKind.i64 (2 : Int)]] =
            [AObj.cells [AV.sl 1 (Seq.map encB (0 : UInt8) bs) Tip.none, AV.int IntKind.i64 p, AV.int IntKind.i64 (2 : Int)]]) ∧
        Post (AV.tup [AV.int IntKind.i64 (0 : Int), AV.int IntKind.i64 p]) [AObj.cells [AV.sl 1 (Seq.map encB (0 : UInt8) bs) Tip.none, AV.int IntKind.i64 p, AV.int IntKind.i64 (2 : Int)]])
      (needP ((0 : Int) ≤ p ∧ p < (↑(List.length bs) : Int))
        (condP ((↑(UInt8.toNat (List.getD bs (Int.toNat p) (0 : UInt8))) : Int) == (128 : Int))
          ((AV.int IntKind.i64 p = AV.int IntKind.i64 p ∧
              [AObj.cells [AV.sl 1 (Seq.map encB (0 : UInt8) bs) Tip.none, AV.int IntKind.i64 p, AV.int IntKind.i64 (3 : Int)]] =
                [AObj.cells [AV.sl 1 (Seq.map encB (0 : UInt8) bs) Tip.none, AV.int IntKind.i64 p, AV.int IntKind.i64 (3 : Int)]]) ∧
            Post (AV.tup [AV.int IntKind.i64 (0 : Int), AV.int IntKind.i64 p])
              [AObj.cells [AV.sl 1 (Seq.map encB (0 : UInt8) bs) Tip.none, AV.int IntKind.i64 p, AV.int IntKind.i64 (3 : Int)]])
          (AWP Try.prog 113 1 c88_9
            [(0, AV.ptr 0 0), (1, AV.int IntKind.i64 most), (6, AV.int IntKind.i64 (0 : Int)), (44, AV.int IntKind.i64 (0 : Int))]
            [AObj.cells [AV.sl 1 (Seq.map encB (0 : UInt8) bs) Tip.none, AV.int IntKind.i64 p, AV.int IntKind.i64 e]] (q88_2 1 Post)))) →
    ASpec Try.prog 88 [AV.ptr 0 0, AV.int IntKind.i64 most] [rd bs p e] Post := fun bs p e most Post h => Go.Ab.ASpec.of_vc g88 Go.Proofs.Try.func88 (by kernel_rfl) (by kernel_rfl) (by kernel_rfl) (Go.Ab.kc (by kernel_rfl) h)
theorem v88_9 : ∀ (bs : List UInt8) (p e most x i : Int) (n : Nat) (Post : AV → List AObj → Prop),
  condP (decide (i < (6 : Int)))
      (condP (IntKind.wrap IntKind.i64 (p + i) == (↑(List.length bs) : Int))
        ((AV.int IntKind.i64 p = AV.int IntKind.i64 p ∧
            [AObj.cells [AV.sl 1 (Seq.map encB (0 : UInt8) bs) Tip.none, AV.int IntKind.i64 p, AV.int IntKind.i64 (2 : Int)]] =
              [AObj.cells [AV.sl 1 (Seq.map encB (0 : UInt8) bs) Tip.none, AV.int IntKind.i64 p, AV.int IntKind.i64 (2 : Int)]]) ∧
          Post (AV.tup [AV.int IntKind.i64 (0 : Int), AV.int IntKind.i64 p]) [AObj.cells [AV.sl 1 (Seq.map encB (0 : UInt8) bs) Tip.none, AV.int IntKind.i64 p, AV.int IntKind.i64 (2 : Int)]])
        (needP ((0 : Int) ≤ IntKind.wrap IntKind.i64 (p + i) ∧ IntKind.wrap IntKind.i64 (p + i) < (↑(List.length bs) : Int))
          (needP ((128 : Int) ≠ (0 : Int))
            (condP (decide (IntKind.wrap IntKind.i64 (↑(UInt8.toNat (List.getD bs (Int.toNat (IntKind.wrap IntKind.i64 (p + i))) (0 : UInt8))) : Int) ≥ (128 : Int)))
              (AWP Try.prog 113 n c88_9
                [(0, AV.ptr 0 0), (1, AV.int IntKind.i64 most),
                  (6,
                    AV.int IntKind.i64
                      (IntKind.wrap IntKind.i64
                        (IntKind.wrap IntKind.i64 (x * (128 : Int)) +
                          Int.tmod (IntKind.wrap IntKind.i64 (↑(UInt8.toNat (List.getD bs (Int.toNat (IntKind.wrap IntKind.i64 (p + i))) (0 : UInt8))) : Int)) (128 : Int)))),
                  (44, AV.int IntKind.i64 (IntKind.wrap IntKind.i64 (i + (1 : Int))))]
                [AObj.cells [AV.sl 1 (Seq.map encB (0 : UInt8) bs) Tip.none, AV.int IntKind.i64 p, AV.int IntKind.i64 e]] (q88_2 n Post))
              (condP
                (decide
                  (IntKind.wrap IntKind.i64
                      (IntKind.wrap IntKind.i64 (x * (128 : Int)) +
                        Int.tmod (IntKind.wrap IntKind.i64 (↑(UInt8.toNat (List.getD bs (Int.toNat (IntKind.wrap IntKind.i64 (p + i))) (0 : UInt8))) : Int)) (128 : Int)) >
                    if (1099511627776 : Int) < most then (1099511627776 : Int) else most))
                ((AV.int IntKind.i64 p = AV.int IntKind.i64 p ∧
                    [AObj.cells [AV.sl 1 (Seq.map encB (0 : UInt8) bs) Tip.none, AV.int IntKind.i64 p, AV.int IntKind.i64 (4 : Int)]] =
                      [AObj.cells [AV.sl 1 (Seq.map encB (0 : UInt8) bs) Tip.none, AV.int IntKind.i64 p, AV.int IntKind.i64 (4 : Int)]]) ∧
                  Post (AV.tup [AV.int IntKind.i64 (0 : Int), AV.int IntKind.i64 p])
                    [AObj.cells [AV.sl 1 (Seq.map encB (0 : UInt8) bs) Tip.none, AV.int IntKind.i64 p, AV.int IntKind.i64 (4 : Int)]])
                ((AV.int IntKind.i64 p = AV.int IntKind.i64 p ∧
                    [AObj.cells [AV.sl 1 (Seq.map encB (0 : UInt8) bs) Tip.none, AV.int IntKind.i64 p, AV.int IntKind.i64 e]] =
                      [AObj.cells [AV.sl 1 (Seq.map encB (0 : UInt8) bs) Tip.none, AV.int IntKind.i64 p, AV.int IntKind.i64 e]]) ∧
                  Post
                    (AV.tup
                      [AV.int IntKind.i64
                          (IntKind.wrap IntKind.i64
                            (IntKind.wrap IntKind.i64 (x * (128 : Int)) +
                              Int.tmod (IntKind.wrap IntKind.i64 (↑(UInt8.toNat (List.getD bs (Int.toNat (IntKind.wrap IntKind.i64 (p + i))) (0 : UInt8))) : Int)) (128 : Int))),
                        AV.int IntKind.i64 (IntKind.wrap IntKind.i64 (IntKind.wrap IntKind.i64 (p + i) + (1 : Int)))])
                    [AObj.cells [AV.sl 1 (Seq.map encB (0 : UInt8) bs) Tip.none, AV.int IntKind.i64 p, AV.int IntKind.i64 e]]))))))
      ((AV.int IntKind.i64 p = AV.int IntKind.i64 p ∧
          [AObj.cells [AV.sl 1 (Seq.map encB (0 : UInt8) bs) Tip.none, AV.int IntKind.i64 p, AV.int IntKind.i64 (4 : Int)]] =
            [AObj.cells [AV.sl 1 (Seq.map encB (0 : UInt8) bs) Tip.none, AV.int IntKind.i64 p, AV.int IntKind.i64 (4 : Int)]]) ∧
        Post (AV.tup [AV.int IntKind.i64 (0 : Int), AV.int IntKind.i64 p]) [AObj.cells [AV.sl 1 (Seq.map encB (0 : UInt8) bs) Tip.none, AV.int IntKind.i64 p, AV.int IntKind.i64 (4 : Int)]]) →
    AWP Try.prog 113 n c88_9 [(0, AV.ptr 0 0), (1, AV.int IntKind.i64 most), (6, AV.int IntKind.i64 x), (44, AV.int IntKind.i64 i)] [rd bs p e]
      (q88_2 n Post) := fun bs p e most x i n Post h => Go.Ab.AWP.loop' g88 (Cfg.live g88) c88_9 (by kernel_rfl) (by kernel_rfl) (Go.Ab.kc (by kernel_rfl) h)

-- 89
noncomputable def l89 : Nat → List Nat
  | 6 => [0, 1, 7]
  | 14 => [0, 1, 7, 8, 9]
  | _ => []
noncomputable def u89 : Nat → Bool
  | _ => false
noncomputable def m89 : Nat → Bool
  | _ => false
noncomputable def g89 : Cfg := { N := 60, live := l89, cut := u89, mu := m89, ret := rets }
noncomputable def c89 : Go.Code := Go.Ab.bodyOf Go.Proofs.Try.f89
noncomputable def q89_0 : Nat → (AV → List AObj → Prop) → AQ := fun (n : Nat) (Post : AV → List AObj → Prop) => endQ Try.prog (resultsOf Try.f89) Post
noncomputable def q89_1 : Nat → (AV → List AObj → Prop) → AQ := fun (n : Nat) (Post : AV → List AObj → Prop) => seqQ (fun (s' : Slots) (H' : List AObj) => awp Try.prog g89 n (codeSnd (codeSnd (codeSnd (codeSnd (codeSnd c89))))) s' H' (q89_0 n Post)) (q89_0 n Post)
noncomputable def q89_2 : Nat → (AV → List AObj → Prop) → AQ := fun (n : Nat) (Post : AV → List AObj → Prop) => blockQ 0 (q89_1 n Post)
noncomputable def c89_6 : Go.Code := codeFst (codeFst (codeSnd (codeSnd (codeSnd (codeSnd c89)))))
theorem s89 : ∀ (s : ByteArray) (most : Int) (Post : AV → List AObj → Prop),
  condP (ByteArray.toList s == ByteArray.toList { data := #[] }) (Post (AV.tup [AV.int IntKind.i64 (0 : Int), AV.int IntKind.i64 (0 : Int), AV.int IntKind.i64 (2 : Int)]) [])
      (needP ((0 : Int) ≤ (0 : Int) ∧ (0 : Int) < (↑(ByteArray.size s) : Int))
        (condP ((↑(UInt8.toNat (List.getD (Array.toList (ByteArray.data s)) 0 (0 : UInt8))) : Int) == (128 : Int))
          (Post (AV.tup [AV.int IntKind.i64 (0 : Int), AV.int IntKind.i64 (0 : Int), AV.int IntKind.i64 (3 : Int)]) [])
          (AWP Try.prog 60 0 c89_6 [(0, AV.str s), (1, AV.int IntKind.i64 most), (7, AV.int IntKind.i64 (0 : Int))] [] (q89_2 0 Post)))) →
    ASpec Try.prog 89 [AV.str s, AV.int IntKind.i64 most] [] Post := fun s most Post h => Go.Ab.ASpec.of_vc g89 Go.Proofs.Try.func89 (by kernel_rfl) (by kernel_rfl) (by kernel_rfl) (Go.Ab.kc (by kernel_rfl) h)
noncomputable def q89_3 : Nat → (AV → List AObj → Prop) → AQ := fun (n : Nat) (Post : AV → List AObj → Prop) => seqQ (fun (s' : Slots) (H' : List AObj) => awp Try.prog g89 n (codeSnd (codeSnd (codeSnd (codeSnd (codeSnd (codeSnd (codeSnd (codeSnd (codeSnd c89))))))))) s' H' (q89_0 n Post)) (q89_0 n Post)
noncomputable def q89_4 : Nat → (AV → List AObj → Prop) → AQ := fun (n : Nat) (Post : AV → List AObj → Prop) => blockQ 2 (q89_3 n Post)
noncomputable def c89_14 : Go.Code := codeFst (codeSnd (codeFst (codeSnd (codeSnd (codeSnd (codeSnd (codeSnd (codeSnd (codeSnd (codeSnd c89))))))))))
theorem v89_6 : ∀ (s : ByteArray) (most k : Int) (n : Nat) (Post : AV → List AObj → Prop),
  condP (decide (k < (↑(ByteArray.size s) : Int)))
      (condP (decide (k < (6 : Int)))
        (needP ((0 : Int) ≤ k ∧ k < (↑(ByteArray.size s) : Int))
          (condP (decide ((↑(UInt8.toNat (List.getD (Array.toList (ByteArray.data s)) (Int.toNat k) (0 : UInt8))) : Int) ≥ (128 : Int)))
            (AWP Try.prog 60 n c89_6 [(0, AV.str s), (1, AV.int IntKind.i64 most), (7, AV.int IntKind.i64 (IntKind.wrap IntKind.i64 (k + (1 : Int))))] []
              (q89_2 n Post))
            (condP (k == (6 : Int)) (Post (AV.tup [AV.int IntKind.i64 (0 : Int), AV.int IntKind.i64 (0 : Int), AV.int IntKind.i64 (4 : Int)]) [])
              (condP (k == (↑(ByteArray.size s) : Int)) (Post (AV.tup [AV.int IntKind.i64 (0 : Int), AV.int IntKind.i64 (0 : Int), AV.int IntKind.i64 (2 : Int)]) [])
                (AWP Try.prog 60 n c89_14
                  [(0, AV.str s), (1, AV.int IntKind.i64 most), (7, AV.int IntKind.i64 k), (8, AV.int IntKind.i64 (0 : Int)), (9, AV.int IntKind.i64 (0 : Int))]
                  [] (q89_4 n Post))))))
        (condP (k == (6 : Int)) (Post (AV.tup [AV.int IntKind.i64 (0 : Int), AV.int IntKind.i64 (0 : Int), AV.int IntKind.i64 (4 : Int)]) [])
          (condP (k == (↑(ByteArray.size s) : Int)) (Post (AV.tup [AV.int IntKind.i64 (0 : Int), AV.int IntKind.i64 (0 : Int), AV.int IntKind.i64 (2 : Int)]) [])
            (AWP Try.prog 60 n c89_14
              [(0, AV.str s), (1, AV.int IntKind.i64 most), (7, AV.int IntKind.i64 k), (8, AV.int IntKind.i64 (0 : Int)), (9, AV.int IntKind.i64 (0 : Int))] []
              (q89_4 n Post)))))
      (condP (k == (6 : Int)) (Post (AV.tup [AV.int IntKind.i64 (0 : Int), AV.int IntKind.i64 (0 : Int), AV.int IntKind.i64 (4 : Int)]) [])
        (condP (k == (↑(ByteArray.size s) : Int)) (Post (AV.tup [AV.int IntKind.i64 (0 : Int), AV.int IntKind.i64 (0 : Int), AV.int IntKind.i64 (2 : Int)]) [])
          (AWP Try.prog 60 n c89_14
            [(0, AV.str s), (1, AV.int IntKind.i64 most), (7, AV.int IntKind.i64 k), (8, AV.int IntKind.i64 (0 : Int)), (9, AV.int IntKind.i64 (0 : Int))] []
            (q89_4 n Post)))) →
    AWP Try.prog 60 n c89_6 [(0, AV.str s), (1, AV.int IntKind.i64 most), (7, AV.int IntKind.i64 k)] [] (q89_2 n Post) := fun s most k n Post h => Go.Ab.AWP.loop' g89 (Cfg.live g89) c89_6 (by kernel_rfl) (by kernel_rfl) (Go.Ab.kc (by kernel_rfl) h)
theorem v89_14 : ∀ (s : ByteArray) (most k x i : Int) (n : Nat) (Post : AV → List AObj → Prop),
  condP (decide (i ≤ k))
      (needP ((0 : Int) ≤ i ∧ i < (↑(ByteArray.size s) : Int))
        (needP ((128 : Int) ≠ (0 : Int))
          (AWP Try.prog 60 n c89_14
            [(0, AV.str s), (1, AV.int IntKind.i64 most), (7, AV.int IntKind.i64 k),
              (8,
                AV.int IntKind.i64
                  (IntKind.wrap IntKind.i64
                    (IntKind.wrap IntKind.i64 (x * (128 : Int)) +
                      IntKind.wrap IntKind.i64 (Int.tmod (↑(UInt8.toNat (List.getD (Array.toList (ByteArray.data s)) (Int.toNat i) (0 : UInt8))) : Int) (128 : Int))))),
              (9, AV.int IntKind.i64 (IntKind.wrap IntKind.i64 (i + (1 : Int))))]
            [] (q89_4 n Post))))
      (condP (decide (x > (1099511627776 : Int))) (Post (AV.tup [AV.int IntKind.i64 (0 : Int), AV.int IntKind.i64 (0 : Int), AV.int IntKind.i64 (4 : Int)]) [])
        (condP (decide (x > most)) (Post (AV.tup [AV.int IntKind.i64 (0 : Int), AV.int IntKind.i64 (0 : Int), AV.int IntKind.i64 (4 : Int)]) [])
          (Post (AV.tup [AV.int IntKind.i64 x, AV.int IntKind.i64 (IntKind.wrap IntKind.i64 (k + (1 : Int))), AV.int IntKind.i64 (0 : Int)]) []))) →
    AWP Try.prog 60 n c89_14
      [(0, AV.str s), (1, AV.int IntKind.i64 most), (7, AV.int IntKind.i64 k), (8, AV.int IntKind.i64 x), (9, AV.int IntKind.i64 i)] [] (q89_4 n Post) := fun s most k x i n Post h => Go.Ab.AWP.loop' g89 (Cfg.live g89) c89_14 (by kernel_rfl) (by kernel_rfl) (Go.Ab.kc (by kernel_rfl) h)

-- 16
noncomputable def l16 : Nat → List Nat
  | _ => []
noncomputable def u16 : Nat → Bool
  | _ => false
noncomputable def m16 : Nat → Bool
  | _ => false
noncomputable def g16 : Cfg := { N := 20, live := l16, cut := u16, mu := m16, ret := rets }
noncomputable def c16 : Go.Code := Go.Ab.bodyOf Go.Proofs.Try.f16
theorem s16 : ∀ (Post : AV → List AObj → Prop),
  (ASpec Try.prog 21 [AV.sl 1 (Seq.raw [[AV.int IntKind.u8 (128 : Int)], [AV.int IntKind.u8 (5 : Int)]]) Tip.full] [] fun (r : AV) (H' : List AObj) =>
      ∃ (x : List UInt8),
        r = AV.ptr 0 0 ∧
          H' = [AObj.cells [AV.sl 1 (Seq.map encB (0 : UInt8) x) Tip.none, AV.int IntKind.i64 (0 : Int), AV.int IntKind.i64 (0 : Int)]] ∧
            ASpec Try.prog 22 [AV.ptr 0 0, AV.int IntKind.i64 (9 : Int)]
              [AObj.cells [AV.sl 1 (Seq.map encB (0 : UInt8) x) Tip.none, AV.int IntKind.i64 (0 : Int), AV.int IntKind.i64 (0 : Int)]] fun (r : AV) (H' : List AObj) =>
              ∃ (x_1 : Int × Int × Int),
                r = AV.int IntKind.i64 (Prod.fst x_1) ∧
                  H' = [AObj.cells [AV.sl 1 (Seq.map encB (0 : UInt8) x) Tip.none, AV.int IntKind.i64 (Prod.fst (Prod.snd x_1)), AV.int IntKind.i64 (Prod.snd (Prod.snd x_1))]] ∧
                    ASpec Try.prog 17 [AV.sl 0 (Seq.raw []) Tip.nil, AV.sl 1 (Seq.raw [[AV.int IntKind.i64 (300 : Int)]]) Tip.full]
                      [AObj.cells [AV.sl 1 (Seq.map encB (0 : UInt8) x) Tip.none, AV.int IntKind.i64 (Prod.fst (Prod.snd x_1)), AV.int IntKind.i64 (Prod.snd (Prod.snd x_1))]]
                      fun (r : AV) (H' : List AObj) =>
                      ∃ (x_2 : List UInt8),
                        r = AV.sl 1 (Seq.map encB (0 : UInt8) x_2) (Tip.tok 1) ∧
                          H' =
                              [AObj.cells [AV.sl 1 (Seq.map encB (0 : UInt8) x) Tip.none, AV.int IntKind.i64 (Prod.fst (Prod.snd x_1)), AV.int IntKind.i64 (Prod.snd (Prod.snd x_1))],
                                AObj.tok] ∧
                            needP (allBytes (Seq.map encB (0 : UInt8) x_2))
                              (condP (ByteArray.toList (bytesOf (Seq.map encB (0 : UInt8) x_2)) == ByteArray.toList { data := #[(130 : UInt8), (44 : UInt8)] })
                                (condP (Prod.fst x_1 == (0 : Int))
                                  (ASpec Try.prog 24 [AV.ptr 0 0]
                                    [AObj.cells [AV.sl 1 (Seq.map encB (0 : UInt8) x) Tip.none, AV.int IntKind.i64 (Prod.fst (Prod.snd x_1)), AV.int IntKind.i64 (Prod.snd (Prod.snd x_1))],
                                      AObj.tok]
                                    fun (r : AV) (H' : List AObj) =>
                                    ∃ (x_3 : Int),
                                      r = AV.int IntKind.i64 x_3 ∧
                                        H' =
                                            [AObj.cells
                                                [AV.sl 1 (Seq.map encB (0 : UInt8) x) Tip.none, AV.int IntKind.i64 (Prod.fst (Prod.snd x_1)), AV.int IntKind.i64 (Prod.snd (Prod.snd x_1))],
                                              AObj.tok] ∧
                                          Post (AV.bool (x_3 == (3 : Int)))
                                            [AObj.cells
                                                [AV.sl 1 (Seq.map encB (0 : UInt8) x) Tip.none, AV.int IntKind.i64 (Prod.fst (Prod.snd x_1)), AV.int IntKind.i64 (Prod.snd (Prod.snd x_1))],
                                              AObj.tok])
                                  (Post (AV.bool false)
                                    [AObj.cells [AV.sl 1 (Seq.map encB (0 : UInt8) x) Tip.none, AV.int IntKind.i64 (Prod.fst (Prod.snd x_1)), AV.int IntKind.i64 (Prod.snd (Prod.snd x_1))],
                                      AObj.tok]))
                                (Post (AV.bool false)
                                  [AObj.cells [AV.sl 1 (Seq.map encB (0 : UInt8) x) Tip.none, AV.int IntKind.i64 (Prod.fst (Prod.snd x_1)), AV.int IntKind.i64 (Prod.snd (Prod.snd x_1))],
                                    AObj.tok]))) →
    ASpec Try.prog 16 [] [] Post := fun Post h => Go.Ab.ASpec.of_vc g16 Go.Proofs.Try.func16 (by kernel_rfl) (by kernel_rfl) (by kernel_rfl) (Go.Ab.kc (by kernel_rfl) h)

-- 3
noncomputable def l3 : Nat → List Nat
  | _ => []
noncomputable def u3 : Nat → Bool
  | _ => false
noncomputable def m3 : Nat → Bool
  | _ => false
noncomputable def g3 : Cfg := { N := 47, live := l3, cut := u3, mu := m3, ret := rets }
noncomputable def c3 : Go.Code := Go.Ab.bodyOf Go.Proofs.Try.f3
theorem s3 : ∀ (a b : Int) (Post : AV → List AObj → Prop),
  condP (decide (a < (0 : Int))) (ASpec Try.prog 16 [] [] fun (r : AV) (H' : List AObj) => ∃ (x : Unit), r = AV.bool true ∧ H' = [] ∧ Post (AV.bool true) [])
      (condP (decide (b > (1099511627776 : Int))) (ASpec Try.prog 16 [] [] fun (r : AV) (H' : List AObj) => ∃ (x : Unit), r = AV.bool true ∧ H' = [] ∧ Post (AV.bool true) [])
        (condP (decide (a ≥ b)) (ASpec Try.prog 16 [] [] fun (r : AV) (H' : List AObj) => ∃ (x : Unit), r = AV.bool true ∧ H' = [] ∧ Post (AV.bool true) [])
          (ASpec Try.prog 17 [AV.sl 0 (Seq.raw []) Tip.nil, AV.sl 1 (Seq.raw [[AV.int IntKind.i64 a]]) Tip.full] [] fun (r : AV) (H' : List AObj) =>
            ∃ (x : List UInt8),
              r = AV.sl 1 (Seq.map encB (0 : UInt8) x) (Tip.tok 0) ∧
                H' = [AObj.tok] ∧
                  needP (allBytes (Seq.map encB (0 : UInt8) x))
                    (ASpec Try.prog 17 [AV.sl 0 (Seq.raw []) Tip.nil, AV.sl 1 (Seq.raw [[AV.int IntKind.i64 b]]) Tip.full] [AObj.tok] fun (r : AV) (H' : List AObj) =>
                      ∃ (x_1 : List UInt8),
                        r = AV.sl 1 (Seq.map encB (0 : UInt8) x_1) (Tip.tok 1) ∧
                          H' = [AObj.tok, AObj.tok] ∧
                            needP (allBytes (Seq.map encB (0 : UInt8) x_1))
                              (condP (decide ((↑(ByteArray.size (bytesOf (Seq.map encB (0 : UInt8) x))) : Int) < (↑(ByteArray.size (bytesOf (Seq.map encB (0 : UInt8) x_1))) : Int)))
                                (ASpec Try.prog 16 [] [AObj.tok, AObj.tok] fun (r : AV) (H' : List AObj) =>
                                  ∃ (x : Unit), r = AV.bool true ∧ H' = [AObj.tok, AObj.tok] ∧ Post (AV.bool true) [AObj.tok, AObj.tok])
                                (condP ((↑(ByteArray.size (bytesOf (Seq.map encB (0 : UInt8) x))) : Int) == (↑(ByteArray.size (bytesOf (Seq.map encB (0 : UInt8) x_1))) : Int))
                                  (condP (Op.bytesLess (ByteArray.toList (bytesOf (Seq.map encB (0 : UInt8) x))) (ByteArray.toList (bytesOf (Seq.map encB (0 : UInt8) x_1))))
                                    (ASpec Try.prog 16 [] [AObj.tok, AObj.tok] fun (r : AV) (H' : List AObj) =>
                                      ∃ (x : Unit), r = AV.bool true ∧ H' = [AObj.tok, AObj.tok] ∧ Post (AV.bool true) [AObj.tok, AObj.tok])
                                    (Post (AV.bool false) [AObj.tok, AObj.tok]))
                                  (Post (AV.bool false) [AObj.tok, AObj.tok]))))))) →
    ASpec Try.prog 3 [AV.int IntKind.i64 a, AV.int IntKind.i64 b] [] Post := fun a b Post h => Go.Ab.ASpec.of_vc g3 Go.Proofs.Try.func3 (by kernel_rfl) (by kernel_rfl) (by kernel_rfl) (Go.Ab.kc (by kernel_rfl) h)

-- 4
noncomputable def l4 : Nat → List Nat
  | _ => []
noncomputable def u4 : Nat → Bool
  | _ => false
noncomputable def m4 : Nat → Bool
  | _ => false
noncomputable def g4 : Cfg := { N := 69, live := l4, cut := u4, mu := m4, ret := rets }
noncomputable def c4 : Go.Code := Go.Ab.bodyOf Go.Proofs.Try.f4
theorem s4 : ∀ (bs : List UInt8) (tip : Tip) (ns : List Int) (tip2 : Tip) (s : ByteArray) (Post : AV → List AObj → Prop),
  condP (decide ((↑(List.length bs) : Int) > (1000 : Int))) (ASpec Try.prog 16 [] [] fun (r : AV) (H' : List AObj) => ∃ (x : Unit), r = AV.bool true ∧ H' = [] ∧ Post (AV.bool true) [])
      (condP (decide ((↑(ByteArray.size s) : Int) > (1000 : Int))) (ASpec Try.prog 16 [] [] fun (r : AV) (H' : List AObj) => ∃ (x : Unit), r = AV.bool true ∧ H' = [] ∧ Post (AV.bool true) [])
        (condP (decide ((↑(List.length ns) : Int) > (100 : Int))) (ASpec Try.prog 16 [] [] fun (r : AV) (H' : List AObj) => ∃ (x : Unit), r = AV.bool true ∧ H' = [] ∧ Post (AV.bool true) [])
          (needP (allBytes (Seq.map encB (0 : UInt8) bs))
            (needP (∀ (x : UInt8), List.all (encB x) oneAV = true)
              (needP ((0 + List.length bs) * 1 ≤ 140737488351232)
                (needP ((0 + List.length bs + 4) * 1 ≤ 140737488351232)
                  (needP ((0 : Int) ≤ (↑(List.length bs) : Int) ∧ (↑(List.length bs) : Int) ≤ (↑(0 + List.length bs + 4) : Int))
                    (ASpec Try.prog 17
                      [AV.sl 1
                          (Seq.raw
                            (List.drop 0
                              (List.take (List.length bs)
                                (Seq.toList (Seq.app (Seq.raw []) (Seq.map encB (0 : UInt8) bs)) ++
                                  Seq.toList (Seq.raw [[AV.int IntKind.u8 (7 : Int)], [AV.int IntKind.u8 (7 : Int)], [AV.int IntKind.u8 (7 : Int)], [AV.int IntKind.u8 (7 : Int)]])))))
                          Tip.none,
                        AV.sl 1 (Seq.map encI (0 : Int) ns) tip2]
                      [AObj.gone, AObj.tok] fun (r : AV) (H' : List AObj) =>
                      ∃ (x : List UInt8),
                        r = AV.sl 1 (Seq.map encB (0 : UInt8) x) (Tip.tok 2) ∧
                          H' = [AObj.gone, AObj.tok, AObj.tok] ∧
                            needP (allBytes (Seq.map encB (0 : UInt8) x))
                              (ASpec Try.prog 18
                                [AV.sl 1
                                    (Seq.raw
                                      (List.drop 0
                                        (List.take (List.length bs)
                                          (Seq.toList (Seq.app (Seq.raw []) (Seq.map encB (0 : UInt8) bs)) ++
                                            Seq.toList (Seq.raw [[AV.int IntKind.u8 (7 : Int)], [AV.int IntKind.u8 (7 : Int)], [AV.int IntKind.u8 (7 : Int)], [AV.int IntKind.u8 (7 : Int)]])))))
                                    Tip.none,
                                  AV.str s]
                                [AObj.gone, AObj.tok, AObj.tok] fun (r : AV) (H' : List AObj) =>
                                ∃ (x_1 : List UInt8),
                                  r = AV.sl 1 (Seq.map encB (0 : UInt8) x_1) (Tip.tok 3) ∧
                                    H' = [AObj.gone, AObj.tok, AObj.tok, AObj.tok] ∧
                                      needP (allBytes (Seq.map encB (0 : UInt8) x_1))
                                        (ASpec Try.prog 19 [AV.sl 1 (Seq.map encI (0 : Int) ns) tip2] [AObj.gone, AObj.tok, AObj.tok, AObj.tok] fun (r : AV) (H' : List AObj) =>
                                          ∃ (x_2 : ByteArray),
                                            r = AV.str x_2 ∧
                                              H' = [AObj.gone, AObj.tok, AObj.tok, AObj.tok] ∧
                                                needP ((↑(ByteArray.size (bytesOf (Seq.map encB (0 : UInt8) bs)) + ByteArray.size x_2) : Int) ≤ (9223372036854775807 : Int))
                                                  (condP (ByteArray.toList (bytesOf (Seq.map encB (0 : UInt8) x)) == ByteArray.toList (bytesOf (Seq.map encB (0 : UInt8) bs) ++ x_2))
                                                    (ASpec Try.prog 20 [AV.str s] [AObj.gone, AObj.tok, AObj.tok, AObj.tok] fun (r : AV) (H' : List AObj) =>
                                                      ∃ (x : ByteArray),
                                                        r = AV.str x ∧
                                                          H' = [AObj.gone, AObj.tok, AObj.tok, AObj.tok] ∧
                                                            needP ((↑(ByteArray.size (bytesOf (Seq.map encB (0 : UInt8) bs)) + ByteArray.size x) : Int) ≤ (9223372036854775807 : Int))
                                                              (condP (ByteArray.toList (bytesOf (Seq.map encB (0 : UInt8) x_1)) == ByteArray.toList (bytesOf (Seq.map encB (0 : UInt8) bs) ++ x))
                                                                (needP
                                                                  (allBytes
                                                                    (Seq.app (Seq.app (Seq.raw []) (Seq.map encB (0 : UInt8) bs))
                                                                      (Seq.raw
                                                                        [[AV.int IntKind.u8 (7 : Int)], [AV.int IntKind.u8 (7 : Int)], [AV.int IntKind.u8 (7 : Int)], [AV.int IntKind.u8 (7 : Int)]])))
                                                                  (needP ((↑(ByteArray.size (bytesOf (Seq.map encB (0 : UInt8) bs)) + 4) : Int) ≤ (9223372036854775807 : Int))
                                                                    (condP
                                                                      (ByteArray.toList
                                                                          (bytesOf
                                                                            (Seq.app (Seq.app (Seq.raw []) (Seq.map encB (0 : UInt8) bs))
                                                                              (Seq.raw
                                                                                [[AV.int IntKind.u8 (7 : Int)], [AV.int IntKind.u8 (7 : Int)], [AV.int IntKind.u8 (7 : Int)],
                                                                                  [AV.int IntKind.u8 (7 : Int)]]))) ==
                                                                        ByteArray.toList (bytesOf (Seq.map encB (0 : UInt8) bs) ++ { data := #[(7 : UInt8), (7 : UInt8), (7 : UInt8), (7 : UInt8)] }))
                                                                      (ASpec Try.prog 16 [] [AObj.gone, AObj.tok, AObj.tok, AObj.tok] fun (r : AV) (H' : List AObj) =>
                                                                        ∃ (x : Unit),
                                                                          r = AV.bool true ∧
                                                                            H' = [AObj.gone, AObj.tok, AObj.tok, AObj.tok] ∧ Post (AV.bool true) [AObj.gone, AObj.tok, AObj.tok, AObj.tok])
                                                                      (Post (AV.bool false) [AObj.gone, AObj.tok, AObj.tok, AObj.tok]))))
                                                                (Post (AV.bool false) [AObj.gone, AObj.tok, AObj.tok, AObj.tok])))
                                                    (Post (AV.bool false) [AObj.gone, AObj.tok, AObj.tok, AObj.tok])))))))))))) →
    ASpec Try.prog 4 [AV.sl 1 (Seq.map encB (0 : UInt8) bs) tip, AV.sl 1 (Seq.map encI (0 : Int) ns) tip2, AV.str s] [] Post := fun bs tip ns tip2 s Post h => Go.Ab.ASpec.of_vc g4 Go.Proofs.Try.func4 (by kernel_rfl) (by kernel_rfl) (by kernel_rfl) (Go.Ab.kc (by kernel_rfl) h)

-- 5
noncomputable def l5 : Nat → List Nat
  | _ => []
noncomputable def u5 : Nat → Bool
  | _ => false
noncomputable def m5 : Nat → Bool
  | _ => false
noncomputable def g5 : Cfg := { N := 69, live := l5, cut := u5, mu := m5, ret := rets }
noncomputable def c5 : Go.Code := Go.Ab.bodyOf Go.Proofs.Try.f5
theorem s5 : ∀ (x : Int) (s : ByteArray) (bs : List UInt8) (tip : Tip) (Post : AV → List AObj → Prop),
  condP (decide (x < (0 : Int))) (ASpec Try.prog 16 [] [] fun (r : AV) (H' : List AObj) => ∃ (x : Unit), r = AV.bool true ∧ H' = [] ∧ Post (AV.bool true) [])
      (condP (decide (x > (1099511627776 : Int))) (ASpec Try.prog 16 [] [] fun (r : AV) (H' : List AObj) => ∃ (x : Unit), r = AV.bool true ∧ H' = [] ∧ Post (AV.bool true) [])
        (condP (decide ((↑(ByteArray.size s) : Int) > (1000 : Int)))
          (ASpec Try.prog 16 [] [] fun (r : AV) (H' : List AObj) => ∃ (x : Unit), r = AV.bool true ∧ H' = [] ∧ Post (AV.bool true) [])
          (condP (decide ((↑(List.length bs) : Int) > (1000 : Int)))
            (ASpec Try.prog 16 [] [] fun (r : AV) (H' : List AObj) => ∃ (x : Unit), r = AV.bool true ∧ H' = [] ∧ Post (AV.bool true) [])
            (ASpec Try.prog 17 [AV.sl 0 (Seq.raw []) Tip.nil, AV.sl 1 (Seq.raw [[AV.int IntKind.i64 x]]) Tip.full] [] fun (r : AV) (H' : List AObj) =>
              ∃ (x_1 : List UInt8),
                r = AV.sl 1 (Seq.map encB (0 : UInt8) x_1) (Tip.tok 0) ∧
                  H' = [AObj.tok] ∧
                    ASpec Try.prog 18 [AV.sl 1 (Seq.map encB (0 : UInt8) x_1) (Tip.tok 0), AV.str s] [AObj.tok] fun (r : AV) (H' : List AObj) =>
                      ∃ (x_2 : List UInt8),
                        r = AV.sl 1 (Seq.map encB (0 : UInt8) x_2) (Tip.tok 1) ∧
                          H' = [AObj.tok, AObj.tok] ∧
                            needP (∀ (x : UInt8), List.all (encB x) oneAV = true)
                              (needP ((0 + List.length x_2) * 1 ≤ 140737488351232)
                                (needP (∀ (x : UInt8), List.all (encB x) oneAV = true)
                                  (needP ((0 + List.length x_2 + List.length bs) * 1 ≤ 140737488351232)
                                    (ASpec Try.prog 21 [AV.sl 1 (Seq.app (Seq.app (Seq.raw []) (Seq.map encB (0 : UInt8) x_2)) (Seq.map encB (0 : UInt8) bs)) (Tip.tok 3)]
                                      [AObj.tok, AObj.tok, AObj.gone, AObj.tok] fun (r : AV) (H' : List AObj) =>
                                      ∃ (x_3 : List UInt8),
                                        r = AV.ptr 4 0 ∧
                                          H' =
                                              [AObj.tok, AObj.tok, AObj.gone, AObj.tok,
                                                AObj.cells [AV.sl 1 (Seq.map encB (0 : UInt8) x_3) Tip.none, AV.int IntKind.i64 (0 : Int), AV.int IntKind.i64 (0 : Int)]] ∧
                                            ASpec Try.prog 22 [AV.ptr 4 0, AV.int IntKind.i64 x]
                                              [AObj.tok, AObj.tok, AObj.gone, AObj.tok,
                                                AObj.cells [AV.sl 1 (Seq.map encB (0 : UInt8) x_3) Tip.none, AV.int IntKind.i64 (0 : Int), AV.int IntKind.i64 (0 : Int)]]
                                              fun (r : AV) (H' : List AObj) =>
                                              ∃ (x_4 : Int × Int × Int),
                                                r = AV.int IntKind.i64 (Prod.fst x_4) ∧
                                                  H' =
                                                      [AObj.tok, AObj.tok, AObj.gone, AObj.tok,
                                                        AObj.cells
                                                          [AV.sl 1 (Seq.map encB (0 : UInt8) x_3) Tip.none, AV.int IntKind.i64 (Prod.fst (Prod.snd x_4)),
                                                            AV.int IntKind.i64 (Prod.snd (Prod.snd x_4))]] ∧
                                                    ASpec Try.prog 23 [AV.ptr 4 0, AV.int IntKind.i64 (↑(ByteArray.size s) : Int)]
                                                      [AObj.tok, AObj.tok, AObj.gone, AObj.tok,
                                                        AObj.cells
                                                          [AV.sl 1 (Seq.map encB (0 : UInt8) x_3) Tip.none, AV.int IntKind.i64 (Prod.fst (Prod.snd x_4)),
                                                            AV.int IntKind.i64 (Prod.snd (Prod.snd x_4))]]
                                                      fun (r : AV) (H' : List AObj) =>
                                                      ∃ (x_5 : ByteArray × Int × Int),
                                                        r = AV.str (Prod.fst x_5) ∧
                                                          H' =
                                                              [AObj.tok, AObj.tok, AObj.gone, AObj.tok,
                                                                AObj.cells
                                                                  [AV.sl 1 (Seq.map encB (0 : UInt8) x_3) Tip.none, AV.int IntKind.i64 (Prod.fst (Prod.snd x_5)),
                                                                    AV.int IntKind.i64 (Prod.snd (Prod.snd x_5))]] ∧
                                                            condP (Prod.fst x_4 == x)
                                                              (condP (ByteArray.toList (Prod.fst x_5) == ByteArray.toList s)
                                                                (ASpec Try.prog 24 [AV.ptr 4 0]
                                                                  [AObj.tok, AObj.tok, AObj.gone, AObj.tok,
                                                                    AObj.cells
                                                                      [AV.sl 1 (Seq.map encB (0 : UInt8) x_3) Tip.none, AV.int IntKind.i64 (Prod.fst (Prod.snd x_5)),
                                                                        AV.int IntKind.i64 (Prod.snd (Prod.snd x_5))]]
                                                                  fun (r : AV) (H' : List AObj) =>
                                                                  ∃ (x : Int),
                                                                    r = AV.int IntKind.i64 x ∧
                                                                      H' =
                                                                          [AObj.tok, AObj.tok, AObj.gone, AObj.tok,
                                                                            AObj.cells
                                                                              [AV.sl 1 (Seq.map encB (0 : UInt8) x_3) Tip.none, AV.int IntKind.i64 (Prod.fst (Prod.snd x_5)),
                                                                                AV.int IntKind.i64 (Prod.snd (Prod.snd x_5))]] ∧
                                                                        condP (x == (0 : Int))
                                                                          (ASpec Try.prog 25 [AV.ptr 4 0]
                                                                            [AObj.tok, AObj.tok, AObj.gone, AObj.tok,
                                                                              AObj.cells
                                                                                [AV.sl 1 (Seq.map encB (0 : UInt8) x_3) Tip.none, AV.int IntKind.i64 (Prod.fst (Prod.snd x_5)),
                                                                                  AV.int IntKind.i64 (Prod.snd (Prod.snd x_5))]]
                                                                            fun (r : AV) (H' : List AObj) =>
                                                                            ∃ (x : Int),
                                                                              r = AV.int IntKind.i64 x ∧
                                                                                H' =
                                                                                    [AObj.tok, AObj.tok, AObj.gone, AObj.tok,
                                                                                      AObj.cells
                                                                                        [AV.sl 1 (Seq.map encB (0 : UInt8) x_3) Tip.none, AV.int IntKind.i64 (Prod.fst (Prod.snd x_5)),
                                                                                          AV.int IntKind.i64 (Prod.snd (Prod.snd x_5))]] ∧
                                                                                  condP (x == (↑(List.length bs) : Int))
                                                                                    (ASpec Try.prog 16 []
                                                                                      [AObj.tok, AObj.tok, AObj.gone, AObj.tok,
                                                                                        AObj.cells
                                                                                          [AV.sl 1 (Seq.map encB (0 : UInt8) x_3) Tip.none, AV.int IntKind.i64 (Prod.fst (Prod.snd x_5)),
                                                                                            AV.int IntKind.i64 (Prod.snd (Prod.snd x_5))]]
                                                                                      fun (r : AV) (H' : List AObj) =>
                                                                                      ∃ (x : Unit),
                                                                                        r = AV.bool true ∧
                                                                                          H' =
                                                                                              [AObj.tok, AObj.tok, AObj.gone, AObj.tok,
                                                                                                AObj.cells
                                                                                                  [AV.sl 1 (Seq.map encB (0 : UInt8) x_3) Tip.none,
                                                                                                    AV.int IntKind.i64 (Prod.fst (Prod.snd x_5)), AV.int IntKind.i64 (Prod.snd (Prod.snd x_5))]] ∧
                                                                                            Post (AV.bool true)
                                                                                              [AObj.tok, AObj.tok, AObj.gone, AObj.tok,
                                                                                                AObj.cells
                                                                                                  [AV.sl 1 (Seq.map encB (0 : UInt8) x_3) Tip.none,
                                                                                                    AV.int IntKind.i64 (Prod.fst (Prod.snd x_5)), AV.int IntKind.i64 (Prod.snd (Prod.snd x_5))]])
                                                                                    (Post (AV.bool false)
                                                                                      [AObj.tok, AObj.tok, AObj.gone, AObj.tok,
                                                                                        AObj.cells
                                                                                          [AV.sl 1 (Seq.map encB (0 : UInt8) x_3) Tip.none, AV.int IntKind.i64 (Prod.fst (Prod.snd x_5)),
                                                                                            AV.int IntKind.i64 (Prod.snd (Prod.snd x_5))]]))
                                                                          (Post (AV.bool false)
                                                                            [AObj.tok, AObj.tok, AObj.gone, AObj.tok,
                                                                              AObj.cells
                                                                                [AV.sl 1 (Seq.map encB (0 : UInt8) x_3) Tip.none, AV.int IntKind.i64 (Prod.fst (Prod.snd x_5)),
                                                                                  AV.int IntKind.i64 (Prod.snd (Prod.snd x_5))]]))
                                                                (Post (AV.bool false)
                                                                  [AObj.tok, AObj.tok, AObj.gone, AObj.tok,
                                                                    AObj.cells
                                                                      [AV.sl 1 (Seq.map encB (0 : UInt8) x_3) Tip.none, AV.int IntKind.i64 (Prod.fst (Prod.snd x_5)),
                                                                        AV.int IntKind.i64 (Prod.snd (Prod.snd x_5))]]))
                                                              (Post (AV.bool false)
                                                                [AObj.tok, AObj.tok, AObj.gone, AObj.tok,
                                                                  AObj.cells
                                                                    [AV.sl 1 (Seq.map encB (0 : UInt8) x_3) Tip.none, AV.int IntKind.i64 (Prod.fst (Prod.snd x_5)),
                                                                      AV.int IntKind.i64 (Prod.snd (Prod.snd x_5))]]))))))))) →
    ASpec Try.prog 5 [AV.int IntKind.i64 x, AV.str s, AV.sl 1 (Seq.map encB (0 : UInt8) bs) tip] [] Post := fun x s bs tip Post h => Go.Ab.ASpec.of_vc g5 Go.Proofs.Try.func5 (by kernel_rfl) (by kernel_rfl) (by kernel_rfl) (Go.Ab.kc (by kernel_rfl) h)

-- 6
noncomputable def l6 : Nat → List Nat
  | 6 => [1, 5, 6, 7]
  | 7 => [1, 5, 6, 7]
  | 10 => [1, 5, 6, 7]
  | 12 => [1, 5, 6, 7]
  | 15 => [1, 5, 6, 7]
  | 17 => [5, 6]
  | 19 => [5, 6, 8]
  | _ => []
noncomputable def u6 : Nat → Bool
  | 10 => true
  | 12 => true
  | 15 => true
  | 7 => true
  | 17 => true
  | 19 => true
  | _ => false
noncomputable def m6 : Nat → Bool
  | _ => false
noncomputable def g6 : Cfg := { N := 155, live := l6, cut := u6, mu := m6, ret := rets }
noncomputable def c6 : Go.Code := Go.Ab.bodyOf Go.Proofs.Try.f6
noncomputable def q6_0 : Nat → (AV → List AObj → Prop) → AQ := fun (n : Nat) (Post : AV → List AObj → Prop) => endQ Try.prog (resultsOf Try.f6) Post
noncomputable def c6_17 : Go.Code := codeSnd (codeSnd (codeSnd (codeSnd (codeSnd c6))))
noncomputable def q6_1 : Nat → (AV → List AObj → Prop) → AQ := fun (n : Nat) (Post : AV → List AObj → Prop) => seqQ (fun (s' : Slots) (H' : List AObj) => AWP Try.prog (Cfg.N g6) n c6_17 (restrict s' (Cfg.live g6 17)) H' (q6_0 n Post)) (q6_0 n Post)
noncomputable def q6_2 : Nat → (AV → List AObj → Prop) → AQ := fun (n : Nat) (Post : AV → List AObj → Prop) => blockQ 0 (q6_1 n Post)
noncomputable def c6_6 : Go.Code := codeFst (codeSnd (codeFst (codeSnd (codeSnd (codeSnd (codeSnd c6))))))
theorem s6 : ∀ (bs : List UInt8) (tip : Tip) (l : List (Int × Int)) (tip2 : Tip) (Post : AV → List AObj → Prop),
  condP (decide ((↑(List.length bs) : Int) > (2000 : Int))) (ASpec Try.prog 16 [] [] fun (r : AV) (H' : List AObj) => ∃ (x : Unit), r = AV.bool true ∧ H' = [] ∧ Post (AV.bool true) [])
      (ASpec Try.prog 21 [AV.sl 1 (Seq.map encB (0 : UInt8) bs) tip] [] fun (r : AV) (H' : List AObj) =>
        ∃ (x : List UInt8),
          r = AV.ptr 0 0 ∧
            H' = [AObj.cells [AV.sl 1 (Seq.map encB (0 : UInt8) x) Tip.none, AV.int IntKind.i64 (0 : Int), AV.int IntKind.i64 (0 : Int)]] ∧
              needP (allBytes (Seq.map encB (0 : UInt8) bs))
                (AWP Try.prog 155 0 c6_6
                  [(1, AV.sl 2 (Seq.map encR ((0 : Int), (0 : Int)) l) tip2), (5, AV.ptr 0 0), (6, AV.ptr 1 0),
                    (7, AV.int IntKind.i64 (0 : Int))]
                  [AObj.cells [AV.sl 1 (Seq.map encB (0 : UInt8) x) Tip.none, AV.int IntKind.i64 (0 : Int), AV.int IntKind.i64 (0 : Int)],
                    AObj.cells [AV.str (bytesOf (Seq.map encB (0 : UInt8) bs)), AV.int IntKind.i64 (0 : Int)]]
                  (q6_2 0 Post))) →
    ASpec Try.prog 6 [AV.sl 1 (Seq.map encB (0 : UInt8) bs) tip, AV.sl 2 (Seq.map encR ((0 : Int), (0 : Int)) l) tip2] [] Post := fun bs tip l tip2 Post h => Go.Ab.ASpec.of_vc g6 Go.Proofs.Try.func6 (by kernel_rfl) (by kernel_rfl) (by kernel_rfl) (Go.Ab.kc (by kernel_rfl) h)
noncomputable def q6_3 : Nat → (AV → List AObj → Prop) → AQ := fun (n : Nat) (Post : AV → List AObj → Prop) => loopQ Try.prog 155 n c6_6 (q6_2 n Post) (Cfg.live g6)
noncomputable def c6_7 : Go.Code := codeSnd (codeSnd (codeFst c6_6))
noncomputable def q6_4 : Nat → (AV → List AObj → Prop) → AQ := fun (n : Nat) (Post : AV → List AObj → Prop) => seqQ (fun (s' : Slots) (H' : List AObj) => AWP Try.prog (Cfg.N g6) n c6_7 (restrict s' (Cfg.live g6 7)) H' (q6_3 n Post)) (q6_3 n Post)
noncomputable def q6_5 : Nat → (AV → List AObj → Prop) → AQ := fun (n : Nat) (Post : AV → List AObj → Prop) => blockQ 1 (q6_4 n Post)
noncomputable def c6_10 : Go.Code := codeSnd (codeFst (codeFst (codeSnd (codeFst c6_6))))
theorem v6_6 : ∀ (l : List (Int × Int)) (tip2 : Tip) (bs : List UInt8) (p e : Int) (s : ByteArray) (e2 i : Int) (n : Nat) (Post : AV → List AObj → Prop),
  condP (decide (i < (↑(List.length l) : Int)))
      (condP (decide (i < (100 : Int)))
        (needP ((0 : Int) ≤ i ∧ i < (↑(List.length l) : Int))
          (condP (Prod.fst (List.getD l (Int.toNat i) ((0 : Int), (0 : Int))) == (0 : Int))
            (needP ((0 : Int) ≤ i ∧ i < (↑(List.length l) : Int))
              (needP ((0 : Int) ≤ i ∧ i < (↑(List.length l) : Int))
                (ASpec Try.prog 22 [AV.ptr 0 0, AV.int IntKind.i64 (Prod.snd (List.getD l (Int.toNat i) ((0 : Int), (0 : Int))))]
                  [AObj.cells [AV.sl 1 (Seq.map encB (0 : UInt8) bs) Tip.none, AV.int IntKind.i64 p, AV.int IntKind.i64 e], AObj.cells [AV.str s, AV.int IntKind.i64 e2]]
                  fun (r : AV) (H' : List AObj) =>
                  ∃ (x : Int × Int × Int),
                    r = AV.int IntKind.i64 (Prod.fst x) ∧
                      H' =
                          [AObj.cells [AV.sl 1 (Seq.map encB (0 : UInt8) bs) Tip.none, AV.int IntKind.i64 (Prod.fst (Prod.snd x)), AV.int IntKind.i64 (Prod.snd (Prod.snd x))],
                            AObj.cells [AV.str s, AV.int IntKind.i64 e2]] ∧
                        (AV.int IntKind.i64 (Prod.snd (List.getD l (Int.toNat i) ((0 : Int), (0 : Int)))) = AV.int IntKind.i64 (Prod.snd (List.getD l (Int.toNat i) ((0 : Int), (0 : Int)))) ∧
                            [AObj.cells [AV.sl 1 (Seq.map encB (0 : UInt8) bs) Tip.none, AV.int IntKind.i64 (Prod.fst (Prod.snd x)), AV.int IntKind.i64 (Prod.snd (Prod.snd x))],
                                AObj.cells [AV.str s, AV.int IntKind.i64 e2]] =
                              [AObj.cells [AV.sl 1 (Seq.map encB (0 : UInt8) bs) Tip.none, AV.int IntKind.i64 (Prod.fst (Prod.snd x)), AV.int IntKind.i64 (Prod.snd (Prod.snd x))],
                                AObj.cells [AV.str s, AV.int IntKind.i64 e2]]) ∧
                          ASpec Try.prog 26 [AV.ptr 1 0, AV.int IntKind.i64 (Prod.snd (List.getD l (Int.toNat i) ((0 : Int), (0 : Int))))]
                            [AObj.cells [AV.sl 1 (Seq.map encB (0 : UInt8) bs) Tip.none, AV.int IntKind.i64 (Prod.fst (Prod.snd x)), AV.int IntKind.i64 (Prod.snd (Prod.snd x))],
                              AObj.cells [AV.str s, AV.int IntKind.i64 e2]]
                            fun (r : AV) (H' : List AObj) =>
                            ∃ (x_1 : Int × ByteArray × Int),
                              r = AV.int IntKind.i64 (Prod.fst x_1) ∧
                                H' =
                                    [AObj.cells [AV.sl 1 (Seq.map encB (0 : UInt8) bs) Tip.none, AV.int IntKind.i64 (Prod.fst (Prod.snd x)), AV.int IntKind.i64 (Prod.snd (Prod.snd x))],
                                      AObj.cells [AV.str (Prod.fst (Prod.snd x_1)), AV.int IntKind.i64 (Prod.snd (Prod.snd x_1))]] ∧
                                  condP (Prod.fst x != Prod.fst x_1)
                                    (Post (AV.bool false)
                                      [AObj.cells [AV.sl 1 (Seq.map encB (0 : UInt8) bs) Tip.none, AV.int IntKind.i64 (Prod.fst (Prod.snd x)), AV.int IntKind.i64 (Prod.snd (Prod.snd x))],
                                        AObj.cells [AV.str (Prod.fst (Prod.snd x_1)), AV.int IntKind.i64 (Prod.snd (Prod.snd x_1))]])
                                    (AWP Try.prog 155 n c6_10
                                      [(1, AV.sl 2 (Seq.map encR ((0 : Int), (0 : Int)) l) tip2), (5, AV.ptr 0 0), (6, AV.ptr 1 0),
                                        (7, AV.int IntKind.i64 i)]
                                      [AObj.cells [AV.sl 1 (Seq.map encB (0 : UInt8) bs) Tip.none, AV.int IntKind.i64 (Prod.fst (Prod.snd x)), AV.int IntKind.i64 (Prod.snd (Prod.snd x))],
                                        AObj.cells [AV.str (Prod.fst (Prod.snd x_1)), AV.int IntKind.i64 (Prod.snd (Prod.snd x_1))]]
                                      (q6_5 n Post)))))
            (AV.tup [] = AV.tup [] ∧
              AWP Try.prog 155 n c6_10
                [(1, AV.sl 2 (Seq.map encR ((0 : Int), (0 : Int)) l) tip2), (5, AV.ptr 0 0), (6, AV.ptr 1 0),
                  (7, AV.int IntKind.i64 i)]
                [AObj.cells [AV.sl 1 (Seq.map encB (0 : UInt8) bs) Tip.none, AV.int IntKind.i64 p, AV.int IntKind.i64 e], AObj.cells [AV.str s, AV.int IntKind.i64 e2]] (q6_5 n Post))))
        (AWP Try.prog 155 n c6_17 [(5, AV.ptr 0 0), (6, AV.ptr 1 0)]
          [AObj.cells [AV.sl 1 (Seq.map encB (0 : UInt8) bs) Tip.none, AV.int IntKind.i64 p, AV.int IntKind.i64 e], AObj.cells [AV.str s, AV.int IntKind.i64 e2]] (q6_0 n Post)))
      (AWP Try.prog 155 n c6_17 [(5, AV.ptr 0 0), (6, AV.ptr 1 0)]
        [AObj.cells [AV.sl 1 (Seq.map encB (0 : UInt8) bs) Tip.none, AV.int IntKind.i64 p, AV.int IntKind.i64 e], AObj.cells [AV.str s, AV.int IntKind.i64 e2]] (q6_0 n Post)) →
    AWP Try.prog 155 n c6_6
      [(1, AV.sl 2 (Seq.map encR ((0 : Int), (0 : Int)) l) tip2), (5, AV.ptr 0 0), (6, AV.ptr 1 0), (7, AV.int IntKind.i64 i)]
      [rd bs p e, AObj.cells [AV.str s, AV.int IntKind.i64 e2]] (q6_2 n Post) := fun l tip2 bs p e s e2 i n Post h => Go.Ab.AWP.loop' g6 (Cfg.live g6) c6_6 (by kernel_rfl) (by kernel_rfl) (Go.Ab.kc (by kernel_rfl) h)
noncomputable def c6_12 : Go.Code := codeSnd c6_10
theorem v6_10 : ∀ (l : List (Int × Int)) (tip2 : Tip) (bs : List UInt8) (p e : Int) (s : ByteArray) (e2 i : Int) (n : Nat) (Post : AV → List AObj → Prop),
  needP ((0 : Int) ≤ i ∧ i < (↑(List.length l) : Int))
      (condP (Prod.fst (List.getD l (Int.toNat i) ((0 : Int), (0 : Int))) == (1 : Int))
        (needP ((0 : Int) ≤ i ∧ i < (↑(List.length l) : Int))
          (needP ((0 : Int) ≤ i ∧ i < (↑(List.length l) : Int))
            (ASpec Try.prog 23 [AV.ptr 0 0, AV.int IntKind.i64 (Prod.snd (List.getD l (Int.toNat i) ((0 : Int), (0 : Int))))]
              [AObj.cells [AV.sl 1 (Seq.map encB (0 : UInt8) bs) Tip.none, AV.int IntKind.i64 p, AV.int IntKind.i64 e], AObj.cells [AV.str s, AV.int IntKind.i64 e2]]
              fun (r : AV) (H' : List AObj) =>
              ∃ (x : ByteArray × Int × Int),
                r = AV.str (Prod.fst x) ∧
                  H' =
                      [AObj.cells [AV.sl 1 (Seq.map encB (0 : UInt8) bs) Tip.none, AV.int IntKind.i64 (Prod.fst (Prod.snd x)), AV.int IntKind.i64 (Prod.snd (Prod.snd x))],
                        AObj.cells [AV.str s, AV.int IntKind.i64 e2]] ∧
                    (AV.int IntKind.i64 (Prod.snd (List.getD l (Int.toNat i) ((0 : Int), (0 : Int)))) = AV.int IntKind.i64 (Prod.snd (List.getD l (Int.toNat i) ((0 : Int), (0 : Int)))) ∧
                        [AObj.cells [AV.sl 1 (Seq.map encB (0 : UInt8) bs) Tip.none, AV.int IntKind.i64 (Prod.fst (Prod.snd x)), AV.int IntKind.i64 (Prod.snd (Prod.snd x))],
                            AObj.cells [AV.str s, AV.int IntKind.i64 e2]] =
                          [AObj.cells [AV.sl 1 (Seq.map encB (0 : UInt8) bs) Tip.none, AV.int IntKind.i64 (Prod.fst (Prod.snd x)), AV.int IntKind.i64 (Prod.snd (Prod.snd x))],
                            AObj.cells [AV.str s, AV.int IntKind.i64 e2]]) ∧
                      ASpec Try.prog 27 [AV.ptr 1 0, AV.int IntKind.i64 (Prod.snd (List.getD l (Int.toNat i) ((0 : Int), (0 : Int))))]
                        [AObj.cells [AV.sl 1 (Seq.map encB (0 : UInt8) bs) Tip.none, AV.int IntKind.i64 (Prod.fst (Prod.snd x)), AV.int IntKind.i64 (Prod.snd (Prod.snd x))],
                          AObj.cells [AV.str s, AV.int IntKind.i64 e2]]
                        fun (r : AV) (H' : List AObj) =>
                        ∃ (x_1 : ByteArray × ByteArray × Int),
                          r = AV.str (Prod.fst x_1) ∧
                            H' =
                                [AObj.cells [AV.sl 1 (Seq.map encB (0 : UInt8) bs) Tip.none, AV.int IntKind.i64 (Prod.fst (Prod.snd x)), AV.int IntKind.i64 (Prod.snd (Prod.snd x))],
                                  AObj.cells [AV.str (Prod.fst (Prod.snd x_1)), AV.int IntKind.i64 (Prod.snd (Prod.snd x_1))]] ∧
                              condP (!ByteArray.toList (Prod.fst x) == ByteArray.toList (Prod.fst x_1))
                                (Post (AV.bool false)
                                  [AObj.cells [AV.sl 1 (Seq.map encB (0 : UInt8) bs) Tip.none, AV.int IntKind.i64 (Prod.fst (Prod.snd x)), AV.int IntKind.i64 (Prod.snd (Prod.snd x))],
                                    AObj.cells [AV.str (Prod.fst (Prod.snd x_1)), AV.int IntKind.i64 (Prod.snd (Prod.snd x_1))]])
                                (AWP Try.prog 155 n c6_12
                                  [(1, AV.sl 2 (Seq.map encR ((0 : Int), (0 : Int)) l) tip2), (5, AV.ptr 0 0), (6, AV.ptr 1 0),
                                    (7, AV.int IntKind.i64 i)]
                                  [AObj.cells [AV.sl 1 (Seq.map encB (0 : UInt8) bs) Tip.none, AV.int IntKind.i64 (Prod.fst (Prod.snd x)), AV.int IntKind.i64 (Prod.snd (Prod.snd x))],
                                    AObj.cells [AV.str (Prod.fst (Prod.snd x_1)), AV.int IntKind.i64 (Prod.snd (Prod.snd x_1))]]
                                  (q6_5 n Post)))))
        (AV.tup [] = AV.tup [] ∧
          AWP Try.prog 155 n c6_12
            [(1, AV.sl 2 (Seq.map encR ((0 : Int), (0 : Int)) l) tip2), (5, AV.ptr 0 0), (6, AV.ptr 1 0),
              (7, AV.int IntKind.i64 i)]
            [AObj.cells [AV.sl 1 (Seq.map encB (0 : UInt8) bs) Tip.none, AV.int IntKind.i64 p, AV.int IntKind.i64 e], AObj.cells [AV.str s, AV.int IntKind.i64 e2]] (q6_5 n Post))) →
    AWP Try.prog 155 n c6_10
      [(1, AV.sl 2 (Seq.map encR ((0 : Int), (0 : Int)) l) tip2), (5, AV.ptr 0 0), (6, AV.ptr 1 0), (7, AV.int IntKind.i64 i)]
      [rd bs p e, AObj.cells [AV.str s, AV.int IntKind.i64 e2]] (q6_5 n Post) := fun l tip2 bs p e s e2 i n Post h => Go.Ab.awp_sound g6 n _ _ _ _ (Go.Ab.kc (by kernel_rfl) h)
noncomputable def c6_15 : Go.Code := codeSnd c6_12
theorem v6_12 : ∀ (l : List (Int × Int)) (tip2 : Tip) (bs : List UInt8) (p e : Int) (s : ByteArray) (e2 i : Int) (n : Nat) (Post : AV → List AObj → Prop),
  needP ((0 : Int) ≤ i ∧ i < (↑(List.length l) : Int))
      (condP (decide (Prod.fst (List.getD l (Int.toNat i) ((0 : Int), (0 : Int))) < (0 : Int)))
        (ASpec Try.prog 28 [AV.ptr 0 0, AV.int IntKind.i64 (8 : Int)]
          [AObj.cells [AV.sl 1 (Seq.map encB (0 : UInt8) bs) Tip.none, AV.int IntKind.i64 p, AV.int IntKind.i64 e], AObj.cells [AV.str s, AV.int IntKind.i64 e2]]
          fun (r : AV) (H' : List AObj) =>
          ∃ (x : Int × Int),
            r = AV.tup [] ∧
              H' =
                  [AObj.cells [AV.sl 1 (Seq.map encB (0 : UInt8) bs) Tip.none, AV.int IntKind.i64 (Prod.fst x), AV.int IntKind.i64 (Prod.snd x)],
                    AObj.cells [AV.str s, AV.int IntKind.i64 e2]] ∧
                ASpec Try.prog 29 [AV.ptr 1 0, AV.int IntKind.i64 (8 : Int)]
                  [AObj.cells [AV.sl 1 (Seq.map encB (0 : UInt8) bs) Tip.none, AV.int IntKind.i64 (Prod.fst x), AV.int IntKind.i64 (Prod.snd x)], AObj.cells [AV.str s, AV.int IntKind.i64 e2]]
                  fun (r : AV) (H' : List AObj) =>
                  ∃ (x_1 : ByteArray × Int),
                    r = AV.tup [] ∧
                      H' =
                          [AObj.cells [AV.sl 1 (Seq.map encB (0 : UInt8) bs) Tip.none, AV.int IntKind.i64 (Prod.fst x), AV.int IntKind.i64 (Prod.snd x)],
                            AObj.cells [AV.str (Prod.fst x_1), AV.int IntKind.i64 (Prod.snd x_1)]] ∧
                        AWP Try.prog 155 n c6_15
                          [(1, AV.sl 2 (Seq.map encR ((0 : Int), (0 : Int)) l) tip2), (5, AV.ptr 0 0), (6, AV.ptr 1 0),
                            (7, AV.int IntKind.i64 i)]
                          [AObj.cells [AV.sl 1 (Seq.map encB (0 : UInt8) bs) Tip.none, AV.int IntKind.i64 (Prod.fst x), AV.int IntKind.i64 (Prod.snd x)],
                            AObj.cells [AV.str (Prod.fst x_1), AV.int IntKind.i64 (Prod.snd x_1)]]
                          (q6_5 n Post))
        (needP ((0 : Int) ≤ i ∧ i < (↑(List.length l) : Int))
          (condP (decide (Prod.fst (List.getD l (Int.toNat i) ((0 : Int), (0 : Int))) > (1 : Int)))
            (ASpec Try.prog 28 [AV.ptr 0 0, AV.int IntKind.i64 (8 : Int)]
              [AObj.cells [AV.sl 1 (Seq.map encB (0 : UInt8) bs) Tip.none, AV.int IntKind.i64 p, AV.int IntKind.i64 e], AObj.cells [AV.str s, AV.int IntKind.i64 e2]]
              fun (r : AV) (H' : List AObj) =>
              ∃ (x : Int × Int),
                r = AV.tup [] ∧
                  H' =
                      [AObj.cells [AV.sl 1 (Seq.map encB (0 : UInt8) bs) Tip.none, AV.int IntKind.i64 (Prod.fst x), AV.int IntKind.i64 (Prod.snd x)],
                        AObj.cells [AV.str s, AV.int IntKind.i64 e2]] ∧
                    ASpec Try.prog 29 [AV.ptr 1 0, AV.int IntKind.i64 (8 : Int)]
                      [AObj.cells [AV.sl 1 (Seq.map encB (0 : UInt8) bs) Tip.none, AV.int IntKind.i64 (Prod.fst x), AV.int IntKind.i64 (Prod.snd x)],
                        AObj.cells [AV.str s, AV.int IntKind.i64 e2]]
                      fun (r : AV) (H' : List AObj) =>
                      ∃ (x_1 : ByteArray × Int),
                        r = AV.tup [] ∧
                          H' =
                              [AObj.cells [AV.sl 1 (Seq.map encB (0 : UInt8) bs) Tip.none, AV.int IntKind.i64 (Prod.fst x), AV.int IntKind.i64 (Prod.snd x)],
                                AObj.cells [AV.str (Prod.fst x_1), AV.int IntKind.i64 (Prod.snd x_1)]] ∧
                            AWP Try.prog 155 n c6_15
                              [(1, AV.sl 2 (Seq.map encR ((0 : Int), (0 : Int)) l) tip2), (5, AV.ptr 0 0), (6, AV.ptr 1 0),
                                (7, AV.int IntKind.i64 i)]
                              [AObj.cells [AV.sl 1 (Seq.map encB (0 : UInt8) bs) Tip.none, AV.int IntKind.i64 (Prod.fst x), AV.int IntKind.i64 (Prod.snd x)],
                                AObj.cells [AV.str (Prod.fst x_1), AV.int IntKind.i64 (Prod.snd x_1)]]
                              (q6_5 n Post))
            (AWP Try.prog 155 n c6_15
              [(1, AV.sl 2 (Seq.map encR ((0 : Int), (0 : Int)) l) tip2), (5, AV.ptr 0 0), (6, AV.ptr 1 0),
                (7, AV.int IntKind.i64 i)]
              [AObj.cells [AV.sl 1 (Seq.map encB (0 : UInt8) bs) Tip.none, AV.int IntKind.i64 p, AV.int IntKind.i64 e], AObj.cells [AV.str s, AV.int IntKind.i64 e2]] (q6_5 n Post))))) →
    AWP Try.prog 155 n c6_12
      [(1, AV.sl 2 (Seq.map encR ((0 : Int), (0 : Int)) l) tip2), (5, AV.ptr 0 0), (6, AV.ptr 1 0), (7, AV.int IntKind.i64 i)]
      [rd bs p e, AObj.cells [AV.str s, AV.int IntKind.i64 e2]] (q6_5 n Post) := fun l tip2 bs p e s e2 i n Post h => Go.Ab.awp_sound g6 n _ _ _ _ (Go.Ab.kc (by kernel_rfl) h)
theorem v6_15 : ∀ (l : List (Int × Int)) (tip2 : Tip) (bs : List UInt8) (p e : Int) (s : ByteArray) (e2 i : Int) (n : Nat) (Post : AV → List AObj → Prop),
  (ASpec Try.prog 25 [AV.ptr 0 0]
      [AObj.cells [AV.sl 1 (Seq.map encB (0 : UInt8) bs) Tip.none, AV.int IntKind.i64 p, AV.int IntKind.i64 e], AObj.cells [AV.str s, AV.int IntKind.i64 e2]] fun (r : AV) (H' : List AObj) =>
      ∃ (x : Int),
        r = AV.int IntKind.i64 x ∧
          H' = [AObj.cells [AV.sl 1 (Seq.map encB (0 : UInt8) bs) Tip.none, AV.int IntKind.i64 p, AV.int IntKind.i64 e], AObj.cells [AV.str s, AV.int IntKind.i64 e2]] ∧
            (AV.int IntKind.i64 (↑(ByteArray.size s) : Int) = AV.int IntKind.i64 (↑(ByteArray.size s) : Int) ∧
                [AObj.cells [AV.sl 1 (Seq.map encB (0 : UInt8) bs) Tip.none, AV.int IntKind.i64 p, AV.int IntKind.i64 e], AObj.cells [AV.str s, AV.int IntKind.i64 e2]] =
                  [AObj.cells [AV.sl 1 (Seq.map encB (0 : UInt8) bs) Tip.none, AV.int IntKind.i64 p, AV.int IntKind.i64 e], AObj.cells [AV.str s, AV.int IntKind.i64 e2]]) ∧
              (AV.str s = AV.str s ∧
                  [AObj.cells [AV.sl 1 (Seq.map encB (0 : UInt8) bs) Tip.none, AV.int IntKind.i64 p, AV.int IntKind.i64 e], AObj.cells [AV.str s, AV.int IntKind.i64 e2]] =
                    [AObj.cells [AV.sl 1 (Seq.map encB (0 : UInt8) bs) Tip.none, AV.int IntKind.i64 p, AV.int IntKind.i64 e], AObj.cells [AV.str s, AV.int IntKind.i64 e2]]) ∧
                condP (x != (↑(ByteArray.size s) : Int))
                  (AV.tup [] = AV.tup [] ∧
                    Post (AV.bool false)
                      [AObj.cells [AV.sl 1 (Seq.map encB (0 : UInt8) bs) Tip.none, AV.int IntKind.i64 p, AV.int IntKind.i64 e], AObj.cells [AV.str s, AV.int IntKind.i64 e2]])
                  (ASpec Try.prog 24 [AV.ptr 0 0]
                    [AObj.cells [AV.sl 1 (Seq.map encB (0 : UInt8) bs) Tip.none, AV.int IntKind.i64 p, AV.int IntKind.i64 e], AObj.cells [AV.str s, AV.int IntKind.i64 e2]]
                    fun (r : AV) (H' : List AObj) =>
                    ∃ (x : Int),
                      r = AV.int IntKind.i64 x ∧
                        H' = [AObj.cells [AV.sl 1 (Seq.map encB (0 : UInt8) bs) Tip.none, AV.int IntKind.i64 p, AV.int IntKind.i64 e], AObj.cells [AV.str s, AV.int IntKind.i64 e2]] ∧
                          (AV.int IntKind.i64 e2 = AV.int IntKind.i64 e2 ∧
                              [AObj.cells [AV.sl 1 (Seq.map encB (0 : UInt8) bs) Tip.none, AV.int IntKind.i64 p, AV.int IntKind.i64 e], AObj.cells [AV.str s, AV.int IntKind.i64 e2]] =
                                [AObj.cells [AV.sl 1 (Seq.map encB (0 : UInt8) bs) Tip.none, AV.int IntKind.i64 p, AV.int IntKind.i64 e], AObj.cells [AV.str s, AV.int IntKind.i64 e2]]) ∧
                            condP (x != e2)
                              (Post (AV.bool false)
                                [AObj.cells [AV.sl 1 (Seq.map encB (0 : UInt8) bs) Tip.none, AV.int IntKind.i64 p, AV.int IntKind.i64 e], AObj.cells [AV.str s, AV.int IntKind.i64 e2]])
                              (ASpec Try.prog 30 [AV.ptr 0 0]
                                [AObj.cells [AV.sl 1 (Seq.map encB (0 : UInt8) bs) Tip.none, AV.int IntKind.i64 p, AV.int IntKind.i64 e], AObj.cells [AV.str s, AV.int IntKind.i64 e2]]
                                fun (r : AV) (H' : List AObj) =>
                                ∃ (x : Int),
                                  r = AV.int IntKind.i64 x ∧
                                    H' =
                                        [AObj.cells [AV.sl 1 (Seq.map encB (0 : UInt8) bs) Tip.none, AV.int IntKind.i64 p, AV.int IntKind.i64 e],
                                          AObj.cells [AV.str s, AV.int IntKind.i64 e2]] ∧
                                      ASpec Try.prog 31 [AV.ptr 1 0]
                                        [AObj.cells [AV.sl 1 (Seq.map encB (0 : UInt8) bs) Tip.none, AV.int IntKind.i64 p, AV.int IntKind.i64 e], AObj.cells [AV.str s, AV.int IntKind.i64 e2]]
                                        fun (r : AV) (H' : List AObj) =>
                                        ∃ (x_1 : Int),
                                          r = AV.int IntKind.i64 x_1 ∧
                                            H' =
                                                [AObj.cells [AV.sl 1 (Seq.map encB (0 : UInt8) bs) Tip.none, AV.int IntKind.i64 p, AV.int IntKind.i64 e],
                                                  AObj.cells [AV.str s, AV.int IntKind.i64 e2]] ∧
                                              condP (x != x_1)
                                                (Post (AV.bool false)
                                                  [AObj.cells [AV.sl 1 (Seq.map encB (0 : UInt8) bs) Tip.none, AV.int IntKind.i64 p, AV.int IntKind.i64 e],
                                                    AObj.cells [AV.str s, AV.int IntKind.i64 e2]])
                                                (AWP Try.prog 155 n c6_7
                                                  [(1, AV.sl 2 (Seq.map encR ((0 : Int), (0 : Int)) l) tip2), (5, AV.ptr 0 0),
                                                    (6, AV.ptr 1 0), (7, AV.int IntKind.i64 i)]
                                                  [AObj.cells [AV.sl 1 (Seq.map encB (0 : UInt8) bs) Tip.none, AV.int IntKind.i64 p, AV.int IntKind.i64 e],
                                                    AObj.cells [AV.str s, AV.int IntKind.i64 e2]]
                                                  (q6_3 n Post))))) →
    AWP Try.prog 155 n c6_15
      [(1, AV.sl 2 (Seq.map encR ((0 : Int), (0 : Int)) l) tip2), (5, AV.ptr 0 0), (6, AV.ptr 1 0), (7, AV.int IntKind.i64 i)]
      [rd bs p e, AObj.cells [AV.str s, AV.int IntKind.i64 e2]] (q6_5 n Post) := fun l tip2 bs p e s e2 i n Post h => Go.Ab.awp_sound g6 n _ _ _ _ (Go.Ab.kc (by kernel_rfl) h)
theorem v6_7 : ∀ (l : List (Int × Int)) (tip2 : Tip) (bs : List UInt8) (p e : Int) (s : ByteArray) (e2 i : Int) (n : Nat) (Post : AV → List AObj → Prop),
  AWP Try.prog 155 n c6_6
      [(1, AV.sl 2 (Seq.map encR ((0 : Int), (0 : Int)) l) tip2), (5, AV.ptr 0 0), (6, AV.ptr 1 0),
        (7, AV.int IntKind.i64 (IntKind.wrap IntKind.i64 (i + (1 : Int))))]
      [AObj.cells [AV.sl 1 (Seq.map encB (0 : UInt8) bs) Tip.none, AV.int IntKind.i64 p, AV.int IntKind.i64 e], AObj.cells [AV.str s, AV.int IntKind.i64 e2]] (q6_2 n Post) →
    AWP Try.prog 155 n c6_7
      [(1, AV.sl 2 (Seq.map encR ((0 : Int), (0 : Int)) l) tip2), (5, AV.ptr 0 0), (6, AV.ptr 1 0), (7, AV.int IntKind.i64 i)]
      [rd bs p e, AObj.cells [AV.str s, AV.int IntKind.i64 e2]] (q6_3 n Post) := fun l tip2 bs p e s e2 i n Post h => Go.Ab.awp_sound g6 n _ _ _ _ (Go.Ab.kc (by kernel_rfl) h)
noncomputable def c6_19 : Go.Code := codeSnd (codeSnd c6_17)
theorem v6_17 : ∀ (bs : List UInt8) (p e : Int) (s : ByteArray) (e2 : Int) (n : Nat) (Post : AV → List AObj → Prop),
  (ASpec Try.prog 28 [AV.nilp, AV.int IntKind.i64 (8 : Int)]
      [AObj.cells [AV.sl 1 (Seq.map encB (0 : UInt8) bs) Tip.none, AV.int IntKind.i64 p, AV.int IntKind.i64 e], AObj.cells [AV.str s, AV.int IntKind.i64 e2]] fun (r : AV) (H' : List AObj) =>
      ∃ (x : Int × Int),
        r = AV.tup [] ∧
          H' = [AObj.cells [AV.sl 1 (Seq.map encB (0 : UInt8) bs) Tip.none, AV.int IntKind.i64 p, AV.int IntKind.i64 e], AObj.cells [AV.str s, AV.int IntKind.i64 e2]] ∧
            AWP Try.prog 155 n c6_19 [(5, AV.ptr 0 0), (6, AV.ptr 1 0), (8, AV.nilp)]
              [AObj.cells [AV.sl 1 (Seq.map encB (0 : UInt8) bs) Tip.none, AV.int IntKind.i64 p, AV.int IntKind.i64 e], AObj.cells [AV.str s, AV.int IntKind.i64 e2]] (q6_0 n Post)) →
    AWP Try.prog 155 n c6_17 [(5, AV.ptr 0 0), (6, AV.ptr 1 0)] [rd bs p e, AObj.cells [AV.str s, AV.int IntKind.i64 e2]] (q6_0 n Post) := fun bs p e s e2 n Post h => Go.Ab.awp_sound g6 n _ _ _ _ (Go.Ab.kc (by kernel_rfl) h)
theorem v6_19 : ∀ (bs : List UInt8) (p e : Int) (s : ByteArray) (e2 : Int) (n : Nat) (Post : AV → List AObj → Prop),
  (ASpec Try.prog 22 [AV.nilp, AV.int IntKind.i64 (9 : Int)]
      [AObj.cells [AV.sl 1 (Seq.map encB (0 : UInt8) bs) Tip.none, AV.int IntKind.i64 p, AV.int IntKind.i64 e], AObj.cells [AV.str s, AV.int IntKind.i64 e2]] fun (r : AV) (H' : List AObj) =>
      ∃ (x : Int × Int × Int),
        r = AV.int IntKind.i64 (Prod.fst x) ∧
          H' = [AObj.cells [AV.sl 1 (Seq.map encB (0 : UInt8) bs) Tip.none, AV.int IntKind.i64 p, AV.int IntKind.i64 e], AObj.cells [AV.str s, AV.int IntKind.i64 e2]] ∧
            condP (Prod.fst x == (0 : Int))
              (ASpec Try.prog 23 [AV.nilp, AV.int IntKind.i64 (9 : Int)]
                [AObj.cells [AV.sl 1 (Seq.map encB (0 : UInt8) bs) Tip.none, AV.int IntKind.i64 p, AV.int IntKind.i64 e], AObj.cells [AV.str s, AV.int IntKind.i64 e2]]
                fun (r : AV) (H' : List AObj) =>
                ∃ (x : ByteArray × Int × Int),
                  r = AV.str (Prod.fst x) ∧
                    H' = [AObj.cells [AV.sl 1 (Seq.map encB (0 : UInt8) bs) Tip.none, AV.int IntKind.i64 p, AV.int IntKind.i64 e], AObj.cells [AV.str s, AV.int IntKind.i64 e2]] ∧
                      condP (ByteArray.toList (Prod.fst x) == ByteArray.toList { data := #[] })
                        (ASpec Try.prog 25 [AV.nilp]
                          [AObj.cells [AV.sl 1 (Seq.map encB (0 : UInt8) bs) Tip.none, AV.int IntKind.i64 p, AV.int IntKind.i64 e], AObj.cells [AV.str s, AV.int IntKind.i64 e2]]
                          fun (r : AV) (H' : List AObj) =>
                          ∃ (x : Int),
                            r = AV.int IntKind.i64 x ∧
                              H' = [AObj.cells [AV.sl 1 (Seq.map encB (0 : UInt8) bs) Tip.none, AV.int IntKind.i64 p, AV.int IntKind.i64 e], AObj.cells [AV.str s, AV.int IntKind.i64 e2]] ∧
                                condP (x == (0 : Int))
                                  (ASpec Try.prog 24 [AV.nilp]
                                    [AObj.cells [AV.sl 1 (Seq.map encB (0 : UInt8) bs) Tip.none, AV.int IntKind.i64 p, AV.int IntKind.i64 e], AObj.cells [AV.str s, AV.int IntKind.i64 e2]]
                                    fun (r : AV) (H' : List AObj) =>
                                    ∃ (x : Int),
                                      r = AV.int IntKind.i64 x ∧
                                        H' =
                                            [AObj.cells [AV.sl 1 (Seq.map encB (0 : UInt8) bs) Tip.none, AV.int IntKind.i64 p, AV.int IntKind.i64 e],
                                              AObj.cells [AV.str s, AV.int IntKind.i64 e2]] ∧
                                          condP (x == (1 : Int))
                                            (ASpec Try.prog 30 [AV.nilp]
                                              [AObj.cells [AV.sl 1 (Seq.map encB (0 : UInt8) bs) Tip.none, AV.int IntKind.i64 p, AV.int IntKind.i64 e],
                                                AObj.cells [AV.str s, AV.int IntKind.i64 e2]]
                                              fun (r : AV) (H' : List AObj) =>
                                              ∃ (x : Int),
                                                r = AV.int IntKind.i64 x ∧
                                                  H' =
                                                      [AObj.cells [AV.sl 1 (Seq.map encB (0 : UInt8) bs) Tip.none, AV.int IntKind.i64 p, AV.int IntKind.i64 e],
                                                        AObj.cells [AV.str s, AV.int IntKind.i64 e2]] ∧
                                                    condP (x == (1 : Int))
                                                      (ASpec Try.prog 25 [AV.ptr 0 0]
                                                        [AObj.cells [AV.sl 1 (Seq.map encB (0 : UInt8) bs) Tip.none, AV.int IntKind.i64 p, AV.int IntKind.i64 e],
                                                          AObj.cells [AV.str s, AV.int IntKind.i64 e2]]
                                                        fun (r : AV) (H' : List AObj) =>
                                                        ∃ (x : Int),
                                                          r = AV.int IntKind.i64 x ∧
                                                            H' =
                                                                [AObj.cells [AV.sl 1 (Seq.map encB (0 : UInt8) bs) Tip.none, AV.int IntKind.i64 p, AV.int IntKind.i64 e],
                                                                  AObj.cells [AV.str s, AV.int IntKind.i64 e2]] ∧
                                                              (AV.int IntKind.i64 (↑(ByteArray.size s) : Int) = AV.int IntKind.i64 (↑(ByteArray.size s) : Int) ∧
                                                                  [AObj.cells [AV.sl 1 (Seq.map encB (0 : UInt8) bs) Tip.none, AV.int IntKind.i64 p, AV.int IntKind.i64 e],
                                                                      AObj.cells [AV.str s, AV.int IntKind.i64 e2]] =
                                                                    [AObj.cells [AV.sl 1 (Seq.map encB (0 : UInt8) bs) Tip.none, AV.int IntKind.i64 p, AV.int IntKind.i64 e],
                                                                      AObj.cells [AV.str s, AV.int IntKind.i64 e2]]) ∧
                                                                (AV.str s = AV.str s ∧
                                                                    [AObj.cells [AV.sl 1 (Seq.map encB (0 : UInt8) bs) Tip.none, AV.int IntKind.i64 p, AV.int IntKind.i64 e],
                                                                        AObj.cells [AV.str s, AV.int IntKind.i64 e2]] =
                                                                      [AObj.cells [AV.sl 1 (Seq.map encB (0 : UInt8) bs) Tip.none, AV.int IntKind.i64 p, AV.int IntKind.i64 e],
                                                                        AObj.cells [AV.str s, AV.int IntKind.i64 e2]]) ∧
                                                                  condP (x == (↑(ByteArray.size s) : Int))
                                                                    (ASpec Try.prog 16 []
                                                                      [AObj.cells [AV.sl 1 (Seq.map encB (0 : UInt8) bs) Tip.none, AV.int IntKind.i64 p, AV.int IntKind.i64 e],
                                                                        AObj.cells [AV.str s, AV.int IntKind.i64 e2]]
                                                                      fun (r : AV) (H' : List AObj) =>
                                                                      ∃ (x : Unit),
                                                                        r = AV.bool true ∧
                                                                          H' =
                                                                              [AObj.cells [AV.sl 1 (Seq.map encB (0 : UInt8) bs) Tip.none, AV.int IntKind.i64 p, AV.int IntKind.i64 e],
                                                                                AObj.cells [AV.str s, AV.int IntKind.i64 e2]] ∧
                                                                            Post (AV.bool true)
                                                                              [AObj.cells [AV.sl 1 (Seq.map encB (0 : UInt8) bs) Tip.none, AV.int IntKind.i64 p, AV.int IntKind.i64 e],
                                                                                AObj.cells [AV.str s, AV.int IntKind.i64 e2]])
                                                                    (Post (AV.bool false)
                                                                      [AObj.cells [AV.sl 1 (Seq.map encB (0 : UInt8) bs) Tip.none, AV.int IntKind.i64 p, AV.int IntKind.i64 e],
                                                                        AObj.cells [AV.str s, AV.int IntKind.i64 e2]]))
                                                      (AV.tup [] = AV.tup [] ∧
                                                        AV.tup [] = AV.tup [] ∧
                                                          Post (AV.bool false)
                                                            [AObj.cells [AV.sl 1 (Seq.map encB (0 : UInt8) bs) Tip.none, AV.int IntKind.i64 p, AV.int IntKind.i64 e],
                                                              AObj.cells [AV.str s, AV.int IntKind.i64 e2]]))
                                            (AV.tup [] = AV.tup [] ∧
                                              AV.tup [] = AV.tup [] ∧
                                                Post (AV.bool false)
                                                  [AObj.cells [AV.sl 1 (Seq.map encB (0 : UInt8) bs) Tip.none, AV.int IntKind.i64 p, AV.int IntKind.i64 e],
                                                    AObj.cells [AV.str s, AV.int IntKind.i64 e2]]))
                                  (AV.tup [] = AV.tup [] ∧
                                    AV.tup [] = AV.tup [] ∧
                                      Post (AV.bool false)
                                        [AObj.cells [AV.sl 1 (Seq.map encB (0 : UInt8) bs) Tip.none, AV.int IntKind.i64 p, AV.int IntKind.i64 e],
                                          AObj.cells [AV.str s, AV.int IntKind.i64 e2]]))
                        (AV.tup [] = AV.tup [] ∧
                          AV.tup [] = AV.tup [] ∧
                            Post (AV.bool false)
                              [AObj.cells [AV.sl 1 (Seq.map encB (0 : UInt8) bs) Tip.none, AV.int IntKind.i64 p, AV.int IntKind.i64 e], AObj.cells [AV.str s, AV.int IntKind.i64 e2]]))
              (AV.tup [] = AV.tup [] ∧
                AV.tup [] = AV.tup [] ∧
                  Post (AV.bool false)
                    [AObj.cells [AV.sl 1 (Seq.map encB (0 : UInt8) bs) Tip.none, AV.int IntKind.i64 p, AV.int IntKind.i64 e], AObj.cells [AV.str s, AV.int IntKind.i64 e2]])) →
    AWP Try.prog 155 n c6_19 [(5, AV.ptr 0 0), (6, AV.ptr 1 0), (8, AV.nilp)] [rd bs p e, AObj.cells [AV.str s, AV.int IntKind.i64 e2]]
      (q6_0 n Post) := fun bs p e s e2 n Post h => Go.Ab.awp_sound g6 n _ _ _ _ (Go.Ab.kc (by kernel_rfl) h)

end
end V
