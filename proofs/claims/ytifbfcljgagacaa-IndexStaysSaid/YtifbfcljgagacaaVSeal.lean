/- Printed: what the code of functions 166, 142, 165, 140, 93, 94, 90, 92, 141, 96, 91, 167, 143, 95, 37, 35, 36, 33, 34, 32, 7 asks for, by the framework's own reading of it; each line is checked against the code. -/
import Derived.Test.YtifbfcljgagacaaProg
import Derived.Test.YtifbfcljgagacaaVVc
set_option linter.unusedVariables false
set_option maxRecDepth 100000
set_option maxHeartbeats 4000000
open Go Go.Ab Go.Proofs
namespace S
noncomputable section

noncomputable def retS : List (Nat × Ret) := [
  (32, ⟨Unit, fun _ _ _ => .bool true, fun _ H _ => H⟩),
  (33, ⟨ByteArray × List UInt8 × Int, fun _ _ x => .tup [.str x.1, .sl 1 (.map encB 0 x.2.1) .none, .int .i64 x.2.2], fun _ H _ => H⟩),
  (34, ⟨ByteArray × ByteArray × Int, fun _ _ x => .tup [.str x.1, .str x.2.1, .int .i64 x.2.2], fun _ H _ => H⟩),
  (35, ⟨List UInt8, fun _ _ x => .sl 1 (.map encB 0 x) .none, fun _ H _ => H⟩),
  (36, ⟨ByteArray, fun _ _ x => .str x, fun _ H _ => H⟩),
  (37, ⟨Bool, fun _ _ x => .bool x, fun _ H _ => H⟩),
  (90, ⟨List UInt8 × Bool, fun _ _ x => .tup [.sl 1 (.map encB 0 x.1) .none, .bool x.2], fun _ H _ => H⟩),
  (91, ⟨Bool, fun _ _ x => .bool x, fun _ H _ => H⟩),
  (92, ⟨ByteArray × Bool, fun _ _ x => .tup [.str x.1, .bool x.2], fun _ H _ => H⟩),
  (93, ⟨List UInt8, fun _ _ x => .sl 1 (.map encB 0 x) .none, fun _ H _ => H⟩),
  (94, ⟨ByteArray, fun _ _ x => .str x, fun _ H _ => H⟩),
  (95, ⟨List Int, fun _ _ x => .sl 1 (.map encI 0 x) .none, fun _ H _ => H⟩),
  (96, ⟨Int, fun _ _ x => .int .i64 x, fun _ H _ => H⟩),
  (140, ⟨Int, fun _ _ x => .int .u32 x, fun _ H _ => H⟩),
  (141, ⟨Int, fun _ _ x => .int .i64 x, fun _ H _ => H⟩),
  (142, ⟨Int, fun _ _ x => .int .i64 x, fun _ H _ => H⟩),
  (143, ⟨Int × Int, fun _ _ x => .tup [.int .i64 x.1, .int .i64 x.2], fun _ H _ => H⟩),
  (165, ⟨Int, fun _ _ x => .int .u32 x, fun _ H _ => H⟩),
  (166, ⟨Int, fun _ _ x => .int .i64 x, fun _ H _ => H⟩),
  (167, ⟨Int, fun _ _ x => .int .i64 x, fun _ H _ => H⟩)]
noncomputable def rets : FuncId → List Ret := lookupR (retS ++ V.retL)

-- 166
noncomputable def l166 : Nat → List Nat
  | 3 => [0, 1, 5, 6]
  | 6 => [0, 1, 5, 6]
  | _ => []
noncomputable def u166 : Nat → Bool
  | 6 => true
  | _ => false
noncomputable def m166 : Nat → Bool
  | _ => false
noncomputable def g166 : Cfg := { N := 24, live := l166, cut := u166, mu := m166, ret := rets }
noncomputable def c166 : Go.Code := Go.Ab.bodyOf Go.Proofs.Try.f166
noncomputable def q166_0 : Nat → (AV → List AObj → Prop) → AQ := fun (n : Nat) (Post : AV → List AObj → Prop) => endQ Try.prog (resultsOf Try.f166) Post
noncomputable def q166_1 : Nat → (AV → List AObj → Prop) → AQ := fun (n : Nat) (Post : AV → List AObj → Prop) => seqQ (fun (s' : Slots) (H' : List AObj) => awp Try.prog g166 n (codeSnd (codeSnd (codeSnd (codeSnd c166)))) s' H' (q166_0 n Post)) (q166_0 n Post)
noncomputable def q166_2 : Nat → (AV → List AObj → Prop) → AQ := fun (n : Nat) (Post : AV → List AObj → Prop) => blockQ 0 (q166_1 n Post)
noncomputable def c166_3 : Go.Code := codeFst (codeFst (codeSnd (codeSnd (codeSnd c166))))
theorem s166 : ∀ (a b : Int) (Post : AV → List AObj → Prop),
  AWP Try.prog 24 0 c166_3 [(0, AV.int IntKind.i64 a), (1, AV.int IntKind.i64 b), (5, AV.int IntKind.i64 (0 : Int)), (6, AV.int IntKind.i64 (1 : Int))]
      [] (q166_2 0 Post) →
    ASpec Try.prog 166 [AV.int IntKind.i64 a, AV.int IntKind.i64 b] [] Post := fun a b Post h => Go.Ab.ASpec.of_vc g166 Go.Proofs.Try.func166 (by kernel_rfl) (by kernel_rfl) (by kernel_rfl) (Go.Ab.kc (by kernel_rfl) h)
noncomputable def q166_3 : Nat → (AV → List AObj → Prop) → AQ := fun (n : Nat) (Post : AV → List AObj → Prop) => loopQ Try.prog 24 n c166_3 (q166_2 n Post) (Cfg.live g166)
noncomputable def q166_4 : Nat → (AV → List AObj → Prop) → AQ := fun (n : Nat) (Post : AV → List AObj → Prop) => blockQ 1 (q166_3 n Post)
noncomputable def c166_6 : Go.Code := codeSnd (codeFst (codeSnd (codeFst c166_3)))
theorem v166_3 : ∀ (a b n w : Int) (n_1 : Nat) (Post : AV → List AObj → Prop),
  condP (decide (w < (256 : Int)))
      (needP ((2 : Int) ≠ (0 : Int))
        (needP ((2 : Int) ≠ (0 : Int))
          (condP (Int.tmod a (2 : Int) != Int.tmod b (2 : Int))
            (AWP Try.prog 24 n_1 c166_6
              [(0, AV.int IntKind.i64 a), (1, AV.int IntKind.i64 b), (5, AV.int IntKind.i64 (IntKind.wrap IntKind.i64 (n + w))), (6, AV.int IntKind.i64 w)] []
              (q166_4 n_1 Post))
            (AWP Try.prog 24 n_1 c166_6 [(0, AV.int IntKind.i64 a), (1, AV.int IntKind.i64 b), (5, AV.int IntKind.i64 n), (6, AV.int IntKind.i64 w)] []
              (q166_4 n_1 Post)))))
      (Post (AV.int IntKind.i64 n) []) →
    AWP Try.prog 24 n_1 c166_3 [(0, AV.int IntKind.i64 a), (1, AV.int IntKind.i64 b), (5, AV.int IntKind.i64 n), (6, AV.int IntKind.i64 w)] [] (q166_2 n_1 Post) := fun a b n w n Post h => Go.Ab.AWP.loop' g166 (Cfg.live g166) c166_3 (by kernel_rfl) (by kernel_rfl) (Go.Ab.kc (by kernel_rfl) h)
theorem v166_6 : ∀ (a b n w : Int) (n_1 : Nat) (Post : AV → List AObj → Prop),
  needP ((2 : Int) ≠ (0 : Int))
      (needP ((2 : Int) ≠ (0 : Int))
        (AWP Try.prog 24 n_1 c166_3
          [(0, AV.int IntKind.i64 (IntKind.wrap IntKind.i64 (Int.tdiv a (2 : Int)))), (1, AV.int IntKind.i64 (IntKind.wrap IntKind.i64 (Int.tdiv b (2 : Int)))),
            (5, AV.int IntKind.i64 n), (6, AV.int IntKind.i64 (IntKind.wrap IntKind.i64 (w * (2 : Int))))]
          [] (q166_2 n_1 Post))) →
    AWP Try.prog 24 n_1 c166_6 [(0, AV.int IntKind.i64 a), (1, AV.int IntKind.i64 b), (5, AV.int IntKind.i64 n), (6, AV.int IntKind.i64 w)] [] (q166_4 n_1 Post) := fun a b n w n Post h => Go.Ab.awp_sound g166 n _ _ _ _ (Go.Ab.kc (by kernel_rfl) h)

-- 142
noncomputable def l142 : Nat → List Nat
  | 3 => [0, 3, 4]
  | _ => []
noncomputable def u142 : Nat → Bool
  | _ => false
noncomputable def m142 : Nat → Bool
  | _ => false
noncomputable def g142 : Cfg := { N := 28, live := l142, cut := u142, mu := m142, ret := rets }
noncomputable def c142 : Go.Code := Go.Ab.bodyOf Go.Proofs.Try.f142
noncomputable def q142_0 : Nat → (AV → List AObj → Prop) → AQ := fun (n : Nat) (Post : AV → List AObj → Prop) => endQ Try.prog (resultsOf Try.f142) Post
noncomputable def q142_1 : Nat → (AV → List AObj → Prop) → AQ := fun (n : Nat) (Post : AV → List AObj → Prop) => seqQ (fun (s' : Slots) (H' : List AObj) => awp Try.prog g142 n (codeSnd (codeSnd (codeSnd c142))) s' H' (q142_0 n Post)) (q142_0 n Post)
noncomputable def q142_2 : Nat → (AV → List AObj → Prop) → AQ := fun (n : Nat) (Post : AV → List AObj → Prop) => blockQ 0 (q142_1 n Post)
noncomputable def c142_3 : Go.Code := codeFst (codeSnd (codeFst (codeSnd (codeSnd c142))))
theorem s142 : ∀ (s : ByteArray) (Post : AV → List AObj → Prop),
  AWP Try.prog 28 0 c142_3 [(0, AV.str s), (3, AV.int IntKind.i64 (2166136261 : Int)), (4, AV.int IntKind.i64 (0 : Int))] [] (q142_2 0 Post) →
    ASpec Try.prog 142 [AV.str s] [] Post := fun s Post h => Go.Ab.ASpec.of_vc g142 Go.Proofs.Try.func142 (by kernel_rfl) (by kernel_rfl) (by kernel_rfl) (Go.Ab.kc (by kernel_rfl) h)
theorem v142_3 : ∀ (s : ByteArray) (n i : Int) (n_1 : Nat) (Post : AV → List AObj → Prop),
  condP (decide (i < (↑(ByteArray.size s) : Int)))
      (needP ((256 : Int) ≠ (0 : Int))
        (needP ((0 : Int) ≤ i ∧ i < (↑(ByteArray.size s) : Int))
          (ASpec Try.prog 166
            [AV.int IntKind.i64 (Int.tmod n (256 : Int)), AV.int IntKind.i64 (IntKind.wrap IntKind.i64 (↑(UInt8.toNat (List.getD (Array.toList (ByteArray.data s)) (Int.toNat i) (0 : UInt8))) : Int))]
            [] fun (r : AV) (H' : List AObj) =>
            ∃ (x : Int),
              r = AV.int IntKind.i64 x ∧
                H' = [] ∧
                  needP ((4294967296 : Int) ≠ (0 : Int))
                    (AWP Try.prog 28 n_1 c142_3
                      [(0, AV.str s),
                        (3,
                          AV.int IntKind.i64
                            (Int.tmod (IntKind.wrap IntKind.i64 (IntKind.wrap IntKind.i64 (IntKind.wrap IntKind.i64 (n - Int.tmod n (256 : Int)) + x) * (16777619 : Int))) (4294967296 : Int))),
                        (4, AV.int IntKind.i64 (IntKind.wrap IntKind.i64 (i + (1 : Int))))]
                      [] (q142_2 n_1 Post)))))
      (Post (AV.int IntKind.i64 n) []) →
    AWP Try.prog 28 n_1 c142_3 [(0, AV.str s), (3, AV.int IntKind.i64 n), (4, AV.int IntKind.i64 i)] [] (q142_2 n_1 Post) := fun s n i n Post h => Go.Ab.AWP.loop' g142 (Cfg.live g142) c142_3 (by kernel_rfl) (by kernel_rfl) (Go.Ab.kc (by kernel_rfl) h)

-- 165
noncomputable def l165 : Nat → List Nat
  | 2 => [0, 7, 8, 9]
  | _ => []
noncomputable def u165 : Nat → Bool
  | _ => false
noncomputable def m165 : Nat → Bool
  | _ => false
noncomputable def g165 : Cfg := { N := 20, live := l165, cut := u165, mu := m165, ret := rets }
noncomputable def c165 : Go.Code := Go.Ab.bodyOf Go.Proofs.Try.f165
noncomputable def q165_0 : Nat → (AV → List AObj → Prop) → AQ := fun (n : Nat) (Post : AV → List AObj → Prop) => endQ Try.prog (resultsOf Try.f165) Post
noncomputable def q165_1 : Nat → (AV → List AObj → Prop) → AQ := fun (n : Nat) (Post : AV → List AObj → Prop) => seqQ (fun (s' : Slots) (H' : List AObj) => awp Try.prog g165 n (codeSnd (codeSnd c165)) s' H' (q165_0 n Post)) (q165_0 n Post)
noncomputable def q165_2 : Nat → (AV → List AObj → Prop) → AQ := fun (n : Nat) (Post : AV → List AObj → Prop) => blockQ 0 (q165_1 n Post)
noncomputable def c165_2 : Go.Code := codeFst (codeSnd (codeFst (codeSnd c165)))
theorem s165 : ∀ (x : Int) (bs : List UInt8) (Post : AV → List AObj → Prop),
  AWP Try.prog 20 0 c165_2
      [(0, AV.int IntKind.u32 x), (7, AV.sl 1 (Seq.map encB (0 : UInt8) bs) Tip.none), (8, AV.int IntKind.i64 (↑(List.length bs) : Int)),
        (9, AV.int IntKind.i64 (0 : Int))]
      [] (q165_2 0 Post) →
    ASpec Try.prog 165 [AV.int IntKind.u32 x, AV.sl 1 (Seq.map encB (0 : UInt8) bs) Tip.none] [] Post := fun x bs Post h => Go.Ab.ASpec.of_vc g165 Go.Proofs.Try.func165 (by kernel_rfl) (by kernel_rfl) (by kernel_rfl) (Go.Ab.kc (by kernel_rfl) h)
theorem v165_2 : ∀ (x : Int) (bs : List UInt8) (n i : Int) (n_1 : Nat) (Post : AV → List AObj → Prop),
  condP (decide (i < n))
      (needP ((0 : Int) ≤ i ∧ i < (↑(List.length bs) : Int))
        (AWP Try.prog 20 n_1 c165_2
          [(0,
              AV.int IntKind.u32
                (IntKind.wrap IntKind.u32
                  (IntKind.wrap IntKind.u32
                      (↑(BitVec.toNat (BitVec.ofInt 32 x ^^^ BitVec.ofInt 32 (IntKind.wrap IntKind.u32 (↑(UInt8.toNat (List.getD bs (Int.toNat i) (0 : UInt8))) : Int)))) : Int) *
                    (16777619 : Int)))),
            (7, AV.sl 1 (Seq.map encB (0 : UInt8) bs) Tip.none), (8, AV.int IntKind.i64 n), (9, AV.int IntKind.i64 (IntKind.wrap IntKind.i64 (i + (1 : Int))))]
          [] (q165_2 n_1 Post)))
      (Post (AV.int IntKind.u32 x) []) →
    AWP Try.prog 20 n_1 c165_2
      [(0, AV.int IntKind.u32 x), (7, AV.sl 1 (Seq.map encB (0 : UInt8) bs) Tip.none), (8, AV.int IntKind.i64 n), (9, AV.int IntKind.i64 i)] []
      (q165_2 n_1 Post) := fun x bs n i n Post h => Go.Ab.AWP.loop' g165 (Cfg.live g165) c165_2 (by kernel_rfl) (by kernel_rfl) (Go.Ab.kc (by kernel_rfl) h)

-- 140
noncomputable def l140 : Nat → List Nat
  | _ => []
noncomputable def u140 : Nat → Bool
  | _ => false
noncomputable def m140 : Nat → Bool
  | _ => false
noncomputable def g140 : Cfg := { N := 5, live := l140, cut := u140, mu := m140, ret := rets }
noncomputable def c140 : Go.Code := Go.Ab.bodyOf Go.Proofs.Try.f140
theorem s140 : ∀ (bs : List UInt8) (Post : AV → List AObj → Prop),
  (ASpec Try.prog 165 [AV.int IntKind.u32 (2166136261 : Int), AV.sl 1 (Seq.map encB (0 : UInt8) bs) Tip.none] [] fun (r : AV) (H' : List AObj) =>
      ∃ (x : Int), r = AV.int IntKind.u32 x ∧ H' = [] ∧ Post (AV.int IntKind.u32 x) []) →
    ASpec Try.prog 140 [AV.sl 1 (Seq.map encB (0 : UInt8) bs) Tip.none] [] Post := fun bs Post h => Go.Ab.ASpec.of_vc g140 Go.Proofs.Try.func140 (by kernel_rfl) (by kernel_rfl) (by kernel_rfl) (Go.Ab.kc (by kernel_rfl) h)

-- 93
noncomputable def l93 : Nat → List Nat
  | _ => []
noncomputable def u93 : Nat → Bool
  | _ => false
noncomputable def m93 : Nat → Bool
  | _ => false
noncomputable def g93 : Cfg := { N := 28, live := l93, cut := u93, mu := m93, ret := rets }
noncomputable def c93 : Go.Code := Go.Ab.bodyOf Go.Proofs.Try.f93
theorem s93 : ∀ (bs : List UInt8) (Post : AV → List AObj → Prop),
  (ASpec Try.prog 140 [AV.sl 1 (Seq.map encB (0 : UInt8) bs) Tip.none] [] fun (r : AV) (H' : List AObj) =>
      ∃ (x : Int),
        r = AV.int IntKind.u32 x ∧
          H' = [] ∧
            needP
              ((0 : Int) ≤ (0 : Int) ∧
                (0 : Int) ≤ IntKind.wrap IntKind.i64 ((↑(List.length bs) : Int) + (4 : Int)) ∧
                  IntKind.wrap IntKind.i64 ((↑(List.length bs) : Int) + (4 : Int)) ≤ (9223372036854775807 : Int) ∧
                    (1 : Int) * IntKind.wrap IntKind.i64 ((↑(List.length bs) : Int) + (4 : Int)) ≤ (281474976710656 : Int))
              (needP (∀ (x : UInt8), List.all (encB x) oneAV = true)
                (needP ((0 + List.length bs) * 1 ≤ 140737488351232)
                  (needP ((0 : Int) ≤ (24 : Int))
                    (needP ((0 : Int) ≤ (16 : Int))
                      (needP ((0 : Int) ≤ (8 : Int))
                        (needP ((0 + List.length bs + 4) * 1 ≤ 140737488351232)
                          (Post
                            (AV.sl 1
                              (Seq.app (Seq.app (Seq.raw []) (Seq.map encB (0 : UInt8) bs))
                                (Seq.raw
                                  [[AV.int IntKind.u8 (IntKind.wrap IntKind.u8 (Int.fdiv x (16777216 : Int)))], [AV.int IntKind.u8 (IntKind.wrap IntKind.u8 (Int.fdiv x (65536 : Int)))],
                                    [AV.int IntKind.u8 (IntKind.wrap IntKind.u8 (Int.fdiv x (256 : Int)))], [AV.int IntKind.u8 (IntKind.wrap IntKind.u8 x)]]))
                              (Tip.tok 2))
                            [AObj.gone, AObj.gone, AObj.tok])))))))) →
    ASpec Try.prog 93 [AV.sl 1 (Seq.map encB (0 : UInt8) bs) Tip.none] [] Post := fun bs Post h => Go.Ab.ASpec.of_vc g93 Go.Proofs.Try.func93 (by kernel_rfl) (by kernel_rfl) (by kernel_rfl) (Go.Ab.kc (by kernel_rfl) h)

-- 94
noncomputable def l94 : Nat → List Nat
  | _ => []
noncomputable def u94 : Nat → Bool
  | _ => false
noncomputable def m94 : Nat → Bool
  | _ => false
noncomputable def g94 : Cfg := { N := 24, live := l94, cut := u94, mu := m94, ret := rets }
noncomputable def c94 : Go.Code := Go.Ab.bodyOf Go.Proofs.Try.f94
theorem s94 : ∀ (s : ByteArray) (Post : AV → List AObj → Prop),
  (ASpec Try.prog 142 [AV.str s] [] fun (r : AV) (H' : List AObj) =>
      ∃ (x : Int),
        r = AV.int IntKind.i64 x ∧
          H' = [] ∧
            needP ((16777216 : Int) ≠ (0 : Int))
              (needP ((65536 : Int) ≠ (0 : Int))
                (needP ((256 : Int) ≠ (0 : Int))
                  (needP ((256 : Int) ≠ (0 : Int))
                    (needP ((256 : Int) ≠ (0 : Int))
                      (needP ((256 : Int) ≠ (0 : Int))
                        (needP
                          (allBytes
                            (Seq.raw
                              [[AV.int IntKind.u8 (IntKind.wrap IntKind.u8 (IntKind.wrap IntKind.i64 (Int.tdiv x (16777216 : Int))))],
                                [AV.int IntKind.u8 (IntKind.wrap IntKind.u8 (Int.tmod (IntKind.wrap IntKind.i64 (Int.tdiv x (65536 : Int))) (256 : Int)))],
                                [AV.int IntKind.u8 (IntKind.wrap IntKind.u8 (Int.tmod (IntKind.wrap IntKind.i64 (Int.tdiv x (256 : Int))) (256 : Int)))],
                                [AV.int IntKind.u8 (IntKind.wrap IntKind.u8 (Int.tmod x (256 : Int)))]]))
                          (needP
                            ((↑(ByteArray.size s +
                                    ByteArray.size
                                      (bytesOf
                                        (Seq.raw
                                          [[AV.int IntKind.u8 (IntKind.wrap IntKind.u8 (IntKind.wrap IntKind.i64 (Int.tdiv x (16777216 : Int))))],
                                            [AV.int IntKind.u8 (IntKind.wrap IntKind.u8 (Int.tmod (IntKind.wrap IntKind.i64 (Int.tdiv x (65536 : Int))) (256 : Int)))],
                                            [AV.int IntKind.u8 (IntKind.wrap IntKind.u8 (Int.tmod (IntKind.wrap IntKind.i64 (Int.tdiv x (256 : Int))) (256 : Int)))],
                                            [AV.int IntKind.u8 (IntKind.wrap IntKind.u8 (Int.tmod x (256 : Int)))]]))) :
                                Int) ≤
                              (9223372036854775807 : Int))
                            (Post
                              (AV.str
                                (s ++
                                  bytesOf
                                    (Seq.raw
                                      [[AV.int IntKind.u8 (IntKind.wrap IntKind.u8 (IntKind.wrap IntKind.i64 (Int.tdiv x (16777216 : Int))))],
                                        [AV.int IntKind.u8 (IntKind.wrap IntKind.u8 (Int.tmod (IntKind.wrap IntKind.i64 (Int.tdiv x (65536 : Int))) (256 : Int)))],
                                        [AV.int IntKind.u8 (IntKind.wrap IntKind.u8 (Int.tmod (IntKind.wrap IntKind.i64 (Int.tdiv x (256 : Int))) (256 : Int)))],
                                        [AV.int IntKind.u8 (IntKind.wrap IntKind.u8 (Int.tmod x (256 : Int)))]])))
                              []))))))))) →
    ASpec Try.prog 94 [AV.str s] [] Post := fun s Post h => Go.Ab.ASpec.of_vc g94 Go.Proofs.Try.func94 (by kernel_rfl) (by kernel_rfl) (by kernel_rfl) (Go.Ab.kc (by kernel_rfl) h)

-- 90
noncomputable def l90 : Nat → List Nat
  | 6 => [0, 4, 5, 15, 16, 17]
  | _ => []
noncomputable def u90 : Nat → Bool
  | _ => false
noncomputable def m90 : Nat → Bool
  | _ => false
noncomputable def g90 : Cfg := { N := 38, live := l90, cut := u90, mu := m90, ret := rets }
noncomputable def c90 : Go.Code := Go.Ab.bodyOf Go.Proofs.Try.f90
noncomputable def q90_0 : Nat → (AV → List AObj → Prop) → AQ := fun (n : Nat) (Post : AV → List AObj → Prop) => endQ Try.prog (resultsOf Try.f90) Post
noncomputable def q90_1 : Nat → (AV → List AObj → Prop) → AQ := fun (n : Nat) (Post : AV → List AObj → Prop) => seqQ (fun (s' : Slots) (H' : List AObj) => awp Try.prog g90 n (codeSnd (codeSnd (codeSnd (codeSnd (codeSnd c90))))) s' H' (q90_0 n Post)) (q90_0 n Post)
noncomputable def q90_2 : Nat → (AV → List AObj → Prop) → AQ := fun (n : Nat) (Post : AV → List AObj → Prop) => blockQ 0 (q90_1 n Post)
noncomputable def c90_6 : Go.Code := codeFst (codeSnd (codeFst (codeSnd (codeSnd (codeSnd (codeSnd c90))))))
theorem s90 : ∀ (bs : List UInt8) (Post : AV → List AObj → Prop),
  condP (decide (IntKind.wrap IntKind.i64 ((↑(List.length bs) : Int) - (4 : Int)) < (0 : Int))) (Post (AV.tup [AV.sl 0 (Seq.raw []) Tip.nil, AV.bool false]) [])
      (needP ((0 : Int) ≤ IntKind.wrap IntKind.i64 ((↑(List.length bs) : Int) - (4 : Int)) ∧ IntKind.wrap IntKind.i64 ((↑(List.length bs) : Int) - (4 : Int)) ≤ (↑(List.length bs) : Int))
        (AWP Try.prog 38 0 c90_6
          [(0, AV.sl 1 (Seq.map encB (0 : UInt8) bs) Tip.none), (4, AV.int IntKind.i64 (IntKind.wrap IntKind.i64 ((↑(List.length bs) : Int) - (4 : Int)))),
            (5, AV.int IntKind.u32 (0 : Int)),
            (15,
              AV.sl 1 (Seq.map encB (0 : UInt8) (List.drop (Int.toNat (IntKind.wrap IntKind.i64 ((↑(List.length bs) : Int) - (4 : Int)))) (List.take (List.length bs) bs))) Tip.none),
            (16, AV.int IntKind.i64 (↑(List.length (List.drop (Int.toNat (IntKind.wrap IntKind.i64 ((↑(List.length bs) : Int) - (4 : Int)))) (List.take (List.length bs) bs))) : Int)),
            (17, AV.int IntKind.i64 (0 : Int))]
          [] (q90_2 0 Post))) →
    ASpec Try.prog 90 [AV.sl 1 (Seq.map encB (0 : UInt8) bs) Tip.none] [] Post := fun bs Post h => Go.Ab.ASpec.of_vc g90 Go.Proofs.Try.func90 (by kernel_rfl) (by kernel_rfl) (by kernel_rfl) (Go.Ab.kc (by kernel_rfl) h)
theorem v90_6 : ∀ (bs : List UInt8) (n s : Int) (q : List UInt8) (k i : Int) (n_1 : Nat) (Post : AV → List AObj → Prop),
  condP (decide (i < k))
      (needP ((0 : Int) ≤ i ∧ i < (↑(List.length q) : Int))
        (needP ((0 : Int) ≤ (8 : Int))
          (AWP Try.prog 38 n_1 c90_6
            [(0, AV.sl 1 (Seq.map encB (0 : UInt8) bs) Tip.none), (4, AV.int IntKind.i64 n),
              (5,
                AV.int IntKind.u32
                  (IntKind.wrap IntKind.u32
                    (↑(BitVec.toNat
                          (BitVec.ofInt 32 (IntKind.wrap IntKind.u32 (s * (256 : Int))) |||
                            BitVec.ofInt 32 (IntKind.wrap IntKind.u32 (↑(UInt8.toNat (List.getD q (Int.toNat i) (0 : UInt8))) : Int)))) :
                      Int))),
              (15, AV.sl 1 (Seq.map encB (0 : UInt8) q) Tip.none), (16, AV.int IntKind.i64 k), (17, AV.int IntKind.i64 (IntKind.wrap IntKind.i64 (i + (1 : Int))))]
            [] (q90_2 n_1 Post))))
      (needP ((0 : Int) ≤ n ∧ n ≤ (↑(List.length bs) : Int))
        (ASpec Try.prog 140 [AV.sl 1 (Seq.map encB (0 : UInt8) (List.drop 0 (List.take (Int.toNat n) bs))) Tip.none] [] fun (r : AV) (H' : List AObj) =>
          ∃ (x : Int),
            r = AV.int IntKind.u32 x ∧
              H' = [] ∧
                condP (s != x) (Post (AV.tup [AV.sl 0 (Seq.raw []) Tip.nil, AV.bool false]) [])
                  (needP ((0 : Int) ≤ n ∧ n ≤ (↑(List.length bs) : Int))
                    (needP (∀ (x : UInt8), List.all (encB x) oneAV = true)
                      (needP ((0 + List.length (List.drop 0 (List.take (Int.toNat n) bs))) * 1 ≤ 140737488351232)
                        (Post (AV.tup [AV.sl 1 (Seq.app (Seq.raw []) (Seq.map encB (0 : UInt8) (List.drop 0 (List.take (Int.toNat n) bs)))) (Tip.tok 0), AV.bool true])
                          [AObj.tok])))))) →
    AWP Try.prog 38 n_1 c90_6
      [(0, AV.sl 1 (Seq.map encB (0 : UInt8) bs) Tip.none), (4, AV.int IntKind.i64 n), (5, AV.int IntKind.u32 s),
        (15, AV.sl 1 (Seq.map encB (0 : UInt8) q) Tip.none), (16, AV.int IntKind.i64 k), (17, AV.int IntKind.i64 i)]
      [] (q90_2 n_1 Post) := fun bs n s q k i n Post h => Go.Ab.AWP.loop' g90 (Cfg.live g90) c90_6 (by kernel_rfl) (by kernel_rfl) (Go.Ab.kc (by kernel_rfl) h)

-- 92
noncomputable def l92 : Nat → List Nat
  | _ => []
noncomputable def u92 : Nat → Bool
  | _ => false
noncomputable def m92 : Nat → Bool
  | _ => false
noncomputable def g92 : Cfg := { N := 21, live := l92, cut := u92, mu := m92, ret := rets }
noncomputable def c92 : Go.Code := Go.Ab.bodyOf Go.Proofs.Try.f92
theorem s92 : ∀ (s : ByteArray) (Post : AV → List AObj → Prop),
  condP (decide (IntKind.wrap IntKind.i64 ((↑(ByteArray.size s) : Int) - (4 : Int)) < (0 : Int))) (Post (AV.tup [AV.str { data := #[] }, AV.bool false]) [])
      (needP ((0 : Int) ≤ IntKind.wrap IntKind.i64 ((↑(ByteArray.size s) : Int) - (4 : Int)) ∧ IntKind.wrap IntKind.i64 ((↑(ByteArray.size s) : Int) - (4 : Int)) ≤ (↑(ByteArray.size s) : Int))
        (ASpec Try.prog 94 [AV.str (ByteArray.extract s 0 (Int.toNat (IntKind.wrap IntKind.i64 ((↑(ByteArray.size s) : Int) - (4 : Int)))))] [] fun (r : AV) (H' : List AObj) =>
          ∃ (x : ByteArray),
            r = AV.str x ∧
              H' = [] ∧
                condP (!ByteArray.toList x == ByteArray.toList s) (Post (AV.tup [AV.str { data := #[] }, AV.bool false]) [])
                  (needP
                    ((0 : Int) ≤ IntKind.wrap IntKind.i64 ((↑(ByteArray.size s) : Int) - (4 : Int)) ∧ IntKind.wrap IntKind.i64 ((↑(ByteArray.size s) : Int) - (4 : Int)) ≤ (↑(ByteArray.size s) : Int))
                    (Post (AV.tup [AV.str (ByteArray.extract s 0 (Int.toNat (IntKind.wrap IntKind.i64 ((↑(ByteArray.size s) : Int) - (4 : Int))))), AV.bool true]) [])))) →
    ASpec Try.prog 92 [AV.str s] [] Post := fun s Post h => Go.Ab.ASpec.of_vc g92 Go.Proofs.Try.func92 (by kernel_rfl) (by kernel_rfl) (by kernel_rfl) (Go.Ab.kc (by kernel_rfl) h)

-- 141
noncomputable def l141 : Nat → List Nat
  | _ => []
noncomputable def u141 : Nat → Bool
  | _ => false
noncomputable def m141 : Nat → Bool
  | _ => false
noncomputable def g141 : Cfg := { N := 27, live := l141, cut := u141, mu := m141, ret := rets }
noncomputable def c141 : Go.Code := Go.Ab.bodyOf Go.Proofs.Try.f141
theorem s141 : ∀ (c : Int) (Post : AV → List AObj → Prop),
  condP (decide (c ≥ (97 : Int)))
      (condP (decide (c ≤ (122 : Int))) (Post (AV.int IntKind.i64 (0 : Int)) [])
        (condP (decide (c ≥ (945 : Int)))
          (condP (decide (c ≤ (969 : Int))) (Post (AV.int IntKind.i64 (1 : Int)) [])
            (condP (decide (c ≥ (48 : Int)))
              (condP (decide (c ≤ (57 : Int))) (Post (AV.int IntKind.i64 (2 : Int)) []) (condP (c == (45 : Int)) (Post (AV.int IntKind.i64 (3 : Int)) []) (Post (AV.int IntKind.i64 (4 : Int)) [])))
              (condP (c == (45 : Int)) (Post (AV.int IntKind.i64 (3 : Int)) []) (Post (AV.int IntKind.i64 (4 : Int)) []))))
          (condP (decide (c ≥ (48 : Int)))
            (condP (decide (c ≤ (57 : Int))) (Post (AV.int IntKind.i64 (2 : Int)) []) (condP (c == (45 : Int)) (Post (AV.int IntKind.i64 (3 : Int)) []) (Post (AV.int IntKind.i64 (4 : Int)) [])))
            (condP (c == (45 : Int)) (Post (AV.int IntKind.i64 (3 : Int)) []) (Post (AV.int IntKind.i64 (4 : Int)) [])))))
      (condP (decide (c ≥ (945 : Int)))
        (condP (decide (c ≤ (969 : Int))) (Post (AV.int IntKind.i64 (1 : Int)) [])
          (condP (decide (c ≥ (48 : Int)))
            (condP (decide (c ≤ (57 : Int))) (Post (AV.int IntKind.i64 (2 : Int)) []) (condP (c == (45 : Int)) (Post (AV.int IntKind.i64 (3 : Int)) []) (Post (AV.int IntKind.i64 (4 : Int)) [])))
            (condP (c == (45 : Int)) (Post (AV.int IntKind.i64 (3 : Int)) []) (Post (AV.int IntKind.i64 (4 : Int)) []))))
        (condP (decide (c ≥ (48 : Int)))
          (condP (decide (c ≤ (57 : Int))) (Post (AV.int IntKind.i64 (2 : Int)) []) (condP (c == (45 : Int)) (Post (AV.int IntKind.i64 (3 : Int)) []) (Post (AV.int IntKind.i64 (4 : Int)) [])))
          (condP (c == (45 : Int)) (Post (AV.int IntKind.i64 (3 : Int)) []) (Post (AV.int IntKind.i64 (4 : Int)) [])))) →
    ASpec Try.prog 141 [AV.int IntKind.i32 c] [] Post := fun c Post h => Go.Ab.ASpec.of_vc g141 Go.Proofs.Try.func141 (by kernel_rfl) (by kernel_rfl) (by kernel_rfl) (Go.Ab.kc (by kernel_rfl) h)

-- 96
noncomputable def l96 : Nat → List Nat
  | _ => []
noncomputable def u96 : Nat → Bool
  | _ => false
noncomputable def m96 : Nat → Bool
  | _ => false
noncomputable def g96 : Cfg := { N := 23, live := l96, cut := u96, mu := m96, ret := rets }
noncomputable def c96 : Go.Code := Go.Ab.bodyOf Go.Proofs.Try.f96
theorem s96 : ∀ (c : Int) (Post : AV → List AObj → Prop),
  condP (decide (c ≥ (97 : Int)))
      (condP (decide (c ≤ (122 : Int))) (Post (AV.int IntKind.i64 (0 : Int)) [])
        (condP (decide (c ≥ (945 : Int)))
          (condP (decide (c ≤ (969 : Int))) (Post (AV.int IntKind.i64 (1 : Int)) [])
            (condP (decide (c ≥ (48 : Int)))
              (condP (decide (c ≤ (57 : Int))) (Post (AV.int IntKind.i64 (2 : Int)) []) (condP (c == (45 : Int)) (Post (AV.int IntKind.i64 (3 : Int)) []) (Post (AV.int IntKind.i64 (4 : Int)) [])))
              (condP (c == (45 : Int)) (Post (AV.int IntKind.i64 (3 : Int)) []) (Post (AV.int IntKind.i64 (4 : Int)) []))))
          (condP (decide (c ≥ (48 : Int)))
            (condP (decide (c ≤ (57 : Int))) (Post (AV.int IntKind.i64 (2 : Int)) []) (condP (c == (45 : Int)) (Post (AV.int IntKind.i64 (3 : Int)) []) (Post (AV.int IntKind.i64 (4 : Int)) [])))
            (condP (c == (45 : Int)) (Post (AV.int IntKind.i64 (3 : Int)) []) (Post (AV.int IntKind.i64 (4 : Int)) [])))))
      (condP (decide (c ≥ (945 : Int)))
        (condP (decide (c ≤ (969 : Int))) (Post (AV.int IntKind.i64 (1 : Int)) [])
          (condP (decide (c ≥ (48 : Int)))
            (condP (decide (c ≤ (57 : Int))) (Post (AV.int IntKind.i64 (2 : Int)) []) (condP (c == (45 : Int)) (Post (AV.int IntKind.i64 (3 : Int)) []) (Post (AV.int IntKind.i64 (4 : Int)) [])))
            (condP (c == (45 : Int)) (Post (AV.int IntKind.i64 (3 : Int)) []) (Post (AV.int IntKind.i64 (4 : Int)) []))))
        (condP (decide (c ≥ (48 : Int)))
          (condP (decide (c ≤ (57 : Int))) (Post (AV.int IntKind.i64 (2 : Int)) []) (condP (c == (45 : Int)) (Post (AV.int IntKind.i64 (3 : Int)) []) (Post (AV.int IntKind.i64 (4 : Int)) [])))
          (condP (c == (45 : Int)) (Post (AV.int IntKind.i64 (3 : Int)) []) (Post (AV.int IntKind.i64 (4 : Int)) [])))) →
    ASpec Try.prog 96 [AV.int IntKind.i64 c] [] Post := fun c Post h => Go.Ab.ASpec.of_vc g96 Go.Proofs.Try.func96 (by kernel_rfl) (by kernel_rfl) (by kernel_rfl) (Go.Ab.kc (by kernel_rfl) h)

-- 91
noncomputable def l91 : Nat → List Nat
  | 3 => [3, 8]
  | _ => []
noncomputable def u91 : Nat → Bool
  | _ => false
noncomputable def m91 : Nat → Bool
  | _ => false
noncomputable def g91 : Cfg := { N := 32, live := l91, cut := u91, mu := m91, ret := rets }
noncomputable def c91 : Go.Code := Go.Ab.bodyOf Go.Proofs.Try.f91
noncomputable def q91_0 : Nat → (AV → List AObj → Prop) → AQ := fun (n : Nat) (Post : AV → List AObj → Prop) => endQ Try.prog (resultsOf Try.f91) Post
noncomputable def q91_1 : Nat → (AV → List AObj → Prop) → AQ := fun (n : Nat) (Post : AV → List AObj → Prop) => seqQ (fun (s' : Slots) (H' : List AObj) => awp Try.prog g91 n (codeSnd (codeSnd (codeSnd c91))) s' H' (q91_0 n Post)) (q91_0 n Post)
noncomputable def q91_2 : Nat → (AV → List AObj → Prop) → AQ := fun (n : Nat) (Post : AV → List AObj → Prop) => blockQ 0 (q91_1 n Post)
noncomputable def c91_3 : Go.Code := codeFst (codeSnd (codeFst (codeSnd (codeSnd c91))))
theorem s91 : ∀ (s : ByteArray) (Post : AV → List AObj → Prop),
  AWP Try.prog 32 0 c91_3 [(3, AV.int IntKind.i64 (0 : Int)), (8, AV.ptr 0 0)] [AObj.siter s 0] (q91_2 0 Post) →
    ASpec Try.prog 91 [AV.str s] [] Post := fun s Post h => Go.Ab.ASpec.of_vc g91 Go.Proofs.Try.func91 (by kernel_rfl) (by kernel_rfl) (by kernel_rfl) (Go.Ab.kc (by kernel_rfl) h)
theorem v91_3 : ∀ (s : ByteArray) (pos : Nat) (n : Int) (n_1 : Nat) (Post : AV → List AObj → Prop),
  condP (decide (pos < ByteArray.size s))
      (ASpec Try.prog 141 [AV.int IntKind.i32 (↑(Prod.fst (Utf8.decode s pos)) : Int)] [AObj.siter s (pos + Prod.snd (Utf8.decode s pos))] fun (r : AV) (H' : List AObj) =>
        ∃ (x : Int),
          r = AV.int IntKind.i64 x ∧
            H' = [AObj.siter s (pos + Prod.snd (Utf8.decode s pos))] ∧
              condP (decide (x > (3 : Int))) (Post (AV.bool false) [AObj.siter s (pos + Prod.snd (Utf8.decode s pos))])
                (condP (n == (0 : Int))
                  (condP (decide (x > (1 : Int))) (Post (AV.bool false) [AObj.siter s (pos + Prod.snd (Utf8.decode s pos))])
                    (condP (n == (12 : Int)) (Post (AV.bool false) [AObj.siter s (pos + Prod.snd (Utf8.decode s pos))])
                      (AWP Try.prog 32 n_1 c91_3 [(3, AV.int IntKind.i64 (IntKind.wrap IntKind.i64 (n + (1 : Int)))), (8, AV.ptr 0 0)]
                        [AObj.siter s (pos + Prod.snd (Utf8.decode s pos))] (q91_2 n_1 Post))))
                  (condP (n == (12 : Int)) (Post (AV.bool false) [AObj.siter s (pos + Prod.snd (Utf8.decode s pos))])
                    (AWP Try.prog 32 n_1 c91_3 [(3, AV.int IntKind.i64 (IntKind.wrap IntKind.i64 (n + (1 : Int)))), (8, AV.ptr 0 0)]
                      [AObj.siter s (pos + Prod.snd (Utf8.decode s pos))] (q91_2 n_1 Post)))))
      (Post (AV.bool (decide (n > (0 : Int)))) [AObj.siter s pos]) →
    AWP Try.prog 32 n_1 c91_3 [(3, AV.int IntKind.i64 n), (8, AV.ptr 0 0)] [AObj.siter s pos] (q91_2 n_1 Post) := fun s pos n n Post h => Go.Ab.AWP.loop' g91 (Cfg.live g91) c91_3 (by kernel_rfl) (by kernel_rfl) (Go.Ab.kc (by kernel_rfl) h)

-- 167
noncomputable def l167 : Nat → List Nat
  | 5 => [0, 1, 5, 6]
  | 7 => [0, 1, 5, 6]
  | 9 => [0, 1, 5, 6]
  | 11 => [0, 1, 5, 6]
  | 12 => [0, 1, 5, 6, 7]
  | 16 => [0, 1, 5, 6]
  | _ => []
noncomputable def u167 : Nat → Bool
  | 5 => true
  | 7 => true
  | 9 => true
  | 11 => true
  | 16 => true
  | _ => false
noncomputable def m167 : Nat → Bool
  | _ => false
noncomputable def g167 : Cfg := { N := 96, live := l167, cut := u167, mu := m167, ret := rets }
noncomputable def c167 : Go.Code := Go.Ab.bodyOf Go.Proofs.Try.f167
noncomputable def q167_0 : Nat → (AV → List AObj → Prop) → AQ := fun (n : Nat) (Post : AV → List AObj → Prop) => endQ Try.prog (resultsOf Try.f167) Post
noncomputable def c167_5 : Go.Code := codeSnd (codeSnd (codeSnd (codeSnd c167)))
theorem s167 : ∀ (s : ByteArray) (p : Int) (Post : AV → List AObj → Prop),
  needP ((0 : Int) ≤ p ∧ p < (↑(ByteArray.size s) : Int))
      (condP (decide (IntKind.wrap IntKind.i64 (↑(UInt8.toNat (List.getD (Array.toList (ByteArray.data s)) (Int.toNat p) (0 : UInt8))) : Int) ≥ (194 : Int)))
        (condP (decide (IntKind.wrap IntKind.i64 (↑(UInt8.toNat (List.getD (Array.toList (ByteArray.data s)) (Int.toNat p) (0 : UInt8))) : Int) ≤ (223 : Int)))
          (AWP Try.prog 96 0 c167_5
            [(0, AV.str s), (1, AV.int IntKind.i64 p), (5, AV.int IntKind.i64 (2 : Int)),
              (6, AV.int IntKind.i64 (IntKind.wrap IntKind.i64 (↑(UInt8.toNat (List.getD (Array.toList (ByteArray.data s)) (Int.toNat p) (0 : UInt8))) : Int)))]
            [] (q167_0 0 Post))
          (AWP Try.prog 96 0 c167_5
            [(0, AV.str s), (1, AV.int IntKind.i64 p), (5, AV.int IntKind.i64 (0 : Int)),
              (6, AV.int IntKind.i64 (IntKind.wrap IntKind.i64 (↑(UInt8.toNat (List.getD (Array.toList (ByteArray.data s)) (Int.toNat p) (0 : UInt8))) : Int)))]
            [] (q167_0 0 Post)))
        (AWP Try.prog 96 0 c167_5
          [(0, AV.str s), (1, AV.int IntKind.i64 p), (5, AV.int IntKind.i64 (0 : Int)),
            (6, AV.int IntKind.i64 (IntKind.wrap IntKind.i64 (↑(UInt8.toNat (List.getD (Array.toList (ByteArray.data s)) (Int.toNat p) (0 : UInt8))) : Int)))]
          [] (q167_0 0 Post))) →
    ASpec Try.prog 167 [AV.str s, AV.int IntKind.i64 p] [] Post := fun s p Post h => Go.Ab.ASpec.of_vc g167 Go.Proofs.Try.func167 (by kernel_rfl) (by kernel_rfl) (by kernel_rfl) (Go.Ab.kc (by kernel_rfl) h)
noncomputable def c167_7 : Go.Code := codeSnd c167_5
theorem v167_5 : ∀ (s : ByteArray) (p n c : Int) (n_1 : Nat) (Post : AV → List AObj → Prop),
  condP (decide (c ≥ (224 : Int)))
      (condP (decide (c ≤ (239 : Int)))
        (AWP Try.prog 96 n_1 c167_7 [(0, AV.str s), (1, AV.int IntKind.i64 p), (5, AV.int IntKind.i64 (3 : Int)), (6, AV.int IntKind.i64 c)] []
          (q167_0 n_1 Post))
        (AWP Try.prog 96 n_1 c167_7 [(0, AV.str s), (1, AV.int IntKind.i64 p), (5, AV.int IntKind.i64 n), (6, AV.int IntKind.i64 c)] [] (q167_0 n_1 Post)))
      (AWP Try.prog 96 n_1 c167_7 [(0, AV.str s), (1, AV.int IntKind.i64 p), (5, AV.int IntKind.i64 n), (6, AV.int IntKind.i64 c)] [] (q167_0 n_1 Post)) →
    AWP Try.prog 96 n_1 c167_5 [(0, AV.str s), (1, AV.int IntKind.i64 p), (5, AV.int IntKind.i64 n), (6, AV.int IntKind.i64 c)] [] (q167_0 n_1 Post) := fun s p n c n Post h => Go.Ab.awp_sound g167 n _ _ _ _ (Go.Ab.kc (by kernel_rfl) h)
noncomputable def c167_9 : Go.Code := codeSnd c167_7
theorem v167_7 : ∀ (s : ByteArray) (p n c : Int) (n_1 : Nat) (Post : AV → List AObj → Prop),
  condP (decide (c ≥ (240 : Int)))
      (condP (decide (c ≤ (244 : Int)))
        (AWP Try.prog 96 n_1 c167_9 [(0, AV.str s), (1, AV.int IntKind.i64 p), (5, AV.int IntKind.i64 (4 : Int)), (6, AV.int IntKind.i64 c)] []
          (q167_0 n_1 Post))
        (AWP Try.prog 96 n_1 c167_9 [(0, AV.str s), (1, AV.int IntKind.i64 p), (5, AV.int IntKind.i64 n), (6, AV.int IntKind.i64 c)] [] (q167_0 n_1 Post)))
      (AWP Try.prog 96 n_1 c167_9 [(0, AV.str s), (1, AV.int IntKind.i64 p), (5, AV.int IntKind.i64 n), (6, AV.int IntKind.i64 c)] [] (q167_0 n_1 Post)) →
    AWP Try.prog 96 n_1 c167_7 [(0, AV.str s), (1, AV.int IntKind.i64 p), (5, AV.int IntKind.i64 n), (6, AV.int IntKind.i64 c)] [] (q167_0 n_1 Post) := fun s p n c n Post h => Go.Ab.awp_sound g167 n _ _ _ _ (Go.Ab.kc (by kernel_rfl) h)
noncomputable def c167_11 : Go.Code := codeSnd c167_9
theorem v167_9 : ∀ (s : ByteArray) (p n c : Int) (n_1 : Nat) (Post : AV → List AObj → Prop),
  condP (n == (0 : Int)) (Post (AV.int IntKind.i64 (0 : Int)) [])
      (condP (decide (IntKind.wrap IntKind.i64 ((↑(ByteArray.size s) : Int) - p) < n)) (Post (AV.int IntKind.i64 (0 : Int)) [])
        (AWP Try.prog 96 n_1 c167_11 [(0, AV.str s), (1, AV.int IntKind.i64 p), (5, AV.int IntKind.i64 n), (6, AV.int IntKind.i64 c)] [] (q167_0 n_1 Post))) →
    AWP Try.prog 96 n_1 c167_9 [(0, AV.str s), (1, AV.int IntKind.i64 p), (5, AV.int IntKind.i64 n), (6, AV.int IntKind.i64 c)] [] (q167_0 n_1 Post) := fun s p n c n Post h => Go.Ab.awp_sound g167 n _ _ _ _ (Go.Ab.kc (by kernel_rfl) h)
noncomputable def c167_16 : Go.Code := codeSnd c167_11
noncomputable def q167_1 : Nat → (AV → List AObj → Prop) → AQ := fun (n : Nat) (Post : AV → List AObj → Prop) => seqQ (fun (s' : Slots) (H' : List AObj) => AWP Try.prog (Cfg.N g167) n c167_16 (restrict s' (Cfg.live g167 16)) H' (q167_0 n Post)) (q167_0 n Post)
noncomputable def q167_2 : Nat → (AV → List AObj → Prop) → AQ := fun (n : Nat) (Post : AV → List AObj → Prop) => blockQ 0 (q167_1 n Post)
noncomputable def c167_12 : Go.Code := codeFst (codeSnd (codeFst c167_11))
theorem v167_11 : ∀ (s : ByteArray) (p n c : Int) (n_1 : Nat) (Post : AV → List AObj → Prop),
  AWP Try.prog 96 n_1 c167_12
      [(0, AV.str s), (1, AV.int IntKind.i64 p), (5, AV.int IntKind.i64 n), (6, AV.int IntKind.i64 c), (7, AV.int IntKind.i64 (1 : Int))] [] (q167_2 n_1 Post) →
    AWP Try.prog 96 n_1 c167_11 [(0, AV.str s), (1, AV.int IntKind.i64 p), (5, AV.int IntKind.i64 n), (6, AV.int IntKind.i64 c)] [] (q167_0 n_1 Post) := fun s p n c n Post h => Go.Ab.awp_sound g167 n _ _ _ _ (Go.Ab.kc (by kernel_rfl) h)
theorem v167_16 : ∀ (s : ByteArray) (p n c : Int) (n_1 : Nat) (Post : AV → List AObj → Prop),
  needP ((0 : Int) ≤ IntKind.wrap IntKind.i64 (p + (1 : Int)) ∧ IntKind.wrap IntKind.i64 (p + (1 : Int)) < (↑(ByteArray.size s) : Int))
      (condP (c == (224 : Int))
        (condP (decide (IntKind.wrap IntKind.i64 (↑(UInt8.toNat (List.getD (Array.toList (ByteArray.data s)) (Int.toNat (IntKind.wrap IntKind.i64 (p + (1 : Int)))) (0 : UInt8))) : Int) < (160 : Int)))
          (Post (AV.int IntKind.i64 (0 : Int)) [])
          (condP (c == (237 : Int))
            (condP
              (decide (IntKind.wrap IntKind.i64 (↑(UInt8.toNat (List.getD (Array.toList (ByteArray.data s)) (Int.toNat (IntKind.wrap IntKind.i64 (p + (1 : Int)))) (0 : UInt8))) : Int) > (159 : Int)))
              (Post (AV.int IntKind.i64 (0 : Int)) [])
              (condP (c == (240 : Int))
                (condP
                  (decide
                    (IntKind.wrap IntKind.i64 (↑(UInt8.toNat (List.getD (Array.toList (ByteArray.data s)) (Int.toNat (IntKind.wrap IntKind.i64 (p + (1 : Int)))) (0 : UInt8))) : Int) < (144 : Int)))
                  (Post (AV.int IntKind.i64 (0 : Int)) [])
                  (condP (c == (244 : Int))
                    (condP
                      (decide
                        (IntKind.wrap IntKind.i64 (↑(UInt8.toNat (List.getD (Array.toList (ByteArray.data s)) (Int.toNat (IntKind.wrap IntKind.i64 (p + (1 : Int)))) (0 : UInt8))) : Int) >
                          (143 : Int)))
                      (Post (AV.int IntKind.i64 (0 : Int)) []) (Post (AV.int IntKind.i64 n) []))
                    (Post (AV.int IntKind.i64 n) [])))
                (condP (c == (244 : Int))
                  (condP
                    (decide
                      (IntKind.wrap IntKind.i64 (↑(UInt8.toNat (List.getD (Array.toList (ByteArray.data s)) (Int.toNat (IntKind.wrap IntKind.i64 (p + (1 : Int)))) (0 : UInt8))) : Int) > (143 : Int)))
                    (Post (AV.int IntKind.i64 (0 : Int)) []) (Post (AV.int IntKind.i64 n) []))
                  (Post (AV.int IntKind.i64 n) []))))
            (condP (c == (240 : Int))
              (condP
                (decide
                  (IntKind.wrap IntKind.i64 (↑(UInt8.toNat (List.getD (Array.toList (ByteArray.data s)) (Int.toNat (IntKind.wrap IntKind.i64 (p + (1 : Int)))) (0 : UInt8))) : Int) < (144 : Int)))
                (Post (AV.int IntKind.i64 (0 : Int)) [])
                (condP (c == (244 : Int))
                  (condP
                    (decide
                      (IntKind.wrap IntKind.i64 (↑(UInt8.toNat (List.getD (Array.toList (ByteArray.data s)) (Int.toNat (IntKind.wrap IntKind.i64 (p + (1 : Int)))) (0 : UInt8))) : Int) > (143 : Int)))
                    (Post (AV.int IntKind.i64 (0 : Int)) []) (Post (AV.int IntKind.i64 n) []))
                  (Post (AV.int IntKind.i64 n) [])))
              (condP (c == (244 : Int))
                (condP
                  (decide
                    (IntKind.wrap IntKind.i64 (↑(UInt8.toNat (List.getD (Array.toList (ByteArray.data s)) (Int.toNat (IntKind.wrap IntKind.i64 (p + (1 : Int)))) (0 : UInt8))) : Int) > (143 : Int)))
                  (Post (AV.int IntKind.i64 (0 : Int)) []) (Post (AV.int IntKind.i64 n) []))
                (Post (AV.int IntKind.i64 n) [])))))
        (condP (c == (237 : Int))
          (condP
            (decide (IntKind.wrap IntKind.i64 (↑(UInt8.toNat (List.getD (Array.toList (ByteArray.data s)) (Int.toNat (IntKind.wrap IntKind.i64 (p + (1 : Int)))) (0 : UInt8))) : Int) > (159 : Int)))
            (Post (AV.int IntKind.i64 (0 : Int)) [])
            (condP (c == (240 : Int))
              (condP
                (decide
                  (IntKind.wrap IntKind.i64 (↑(UInt8.toNat (List.getD (Array.toList (ByteArray.data s)) (Int.toNat (IntKind.wrap IntKind.i64 (p + (1 : Int)))) (0 : UInt8))) : Int) < (144 : Int)))
                (Post (AV.int IntKind.i64 (0 : Int)) [])
                (condP (c == (244 : Int))
                  (condP
                    (decide
                      (IntKind.wrap IntKind.i64 (↑(UInt8.toNat (List.getD (Array.toList (ByteArray.data s)) (Int.toNat (IntKind.wrap IntKind.i64 (p + (1 : Int)))) (0 : UInt8))) : Int) > (143 : Int)))
                    (Post (AV.int IntKind.i64 (0 : Int)) []) (Post (AV.int IntKind.i64 n) []))
                  (Post (AV.int IntKind.i64 n) [])))
              (condP (c == (244 : Int))
                (condP
                  (decide
                    (IntKind.wrap IntKind.i64 (↑(UInt8.toNat (List.getD (Array.toList (ByteArray.data s)) (Int.toNat (IntKind.wrap IntKind.i64 (p + (1 : Int)))) (0 : UInt8))) : Int) > (143 : Int)))
                  (Post (AV.int IntKind.i64 (0 : Int)) []) (Post (AV.int IntKind.i64 n) []))
                (Post (AV.int IntKind.i64 n) []))))
          (condP (c == (240 : Int))
            (condP
              (decide (IntKind.wrap IntKind.i64 (↑(UInt8.toNat (List.getD (Array.toList (ByteArray.data s)) (Int.toNat (IntKind.wrap IntKind.i64 (p + (1 : Int)))) (0 : UInt8))) : Int) < (144 : Int)))
              (Post (AV.int IntKind.i64 (0 : Int)) [])
              (condP (c == (244 : Int))
                (condP
                  (decide
                    (IntKind.wrap IntKind.i64 (↑(UInt8.toNat (List.getD (Array.toList (ByteArray.data s)) (Int.toNat (IntKind.wrap IntKind.i64 (p + (1 : Int)))) (0 : UInt8))) : Int) > (143 : Int)))
                  (Post (AV.int IntKind.i64 (0 : Int)) []) (Post (AV.int IntKind.i64 n) []))
                (Post (AV.int IntKind.i64 n) [])))
            (condP (c == (244 : Int))
              (condP
                (decide
                  (IntKind.wrap IntKind.i64 (↑(UInt8.toNat (List.getD (Array.toList (ByteArray.data s)) (Int.toNat (IntKind.wrap IntKind.i64 (p + (1 : Int)))) (0 : UInt8))) : Int) > (143 : Int)))
                (Post (AV.int IntKind.i64 (0 : Int)) []) (Post (AV.int IntKind.i64 n) []))
              (Post (AV.int IntKind.i64 n) []))))) →
    AWP Try.prog 96 n_1 c167_16 [(0, AV.str s), (1, AV.int IntKind.i64 p), (5, AV.int IntKind.i64 n), (6, AV.int IntKind.i64 c)] [] (q167_0 n_1 Post) := fun s p n c n Post h => Go.Ab.awp_sound g167 n _ _ _ _ (Go.Ab.kc (by kernel_rfl) h)
theorem v167_12 : ∀ (s : ByteArray) (p n c i : Int) (n_1 : Nat) (Post : AV → List AObj → Prop),
  condP (decide (i < n))
      (needP ((0 : Int) ≤ IntKind.wrap IntKind.i64 (p + i) ∧ IntKind.wrap IntKind.i64 (p + i) < (↑(ByteArray.size s) : Int))
        (condP (decide ((↑(UInt8.toNat (List.getD (Array.toList (ByteArray.data s)) (Int.toNat (IntKind.wrap IntKind.i64 (p + i))) (0 : UInt8))) : Int) < (128 : Int)))
          (Post (AV.int IntKind.i64 (0 : Int)) [])
          (needP ((0 : Int) ≤ IntKind.wrap IntKind.i64 (p + i) ∧ IntKind.wrap IntKind.i64 (p + i) < (↑(ByteArray.size s) : Int))
            (condP (decide ((↑(UInt8.toNat (List.getD (Array.toList (ByteArray.data s)) (Int.toNat (IntKind.wrap IntKind.i64 (p + i))) (0 : UInt8))) : Int) > (191 : Int)))
              (Post (AV.int IntKind.i64 (0 : Int)) [])
              (AWP Try.prog 96 n_1 c167_12
                [(0, AV.str s), (1, AV.int IntKind.i64 p), (5, AV.int IntKind.i64 n), (6, AV.int IntKind.i64 c),
                  (7, AV.int IntKind.i64 (IntKind.wrap IntKind.i64 (i + (1 : Int))))]
                [] (q167_2 n_1 Post))))))
      (AWP Try.prog 96 n_1 c167_16 [(0, AV.str s), (1, AV.int IntKind.i64 p), (5, AV.int IntKind.i64 n), (6, AV.int IntKind.i64 c)] [] (q167_0 n_1 Post)) →
    AWP Try.prog 96 n_1 c167_12
      [(0, AV.str s), (1, AV.int IntKind.i64 p), (5, AV.int IntKind.i64 n), (6, AV.int IntKind.i64 c), (7, AV.int IntKind.i64 i)] [] (q167_2 n_1 Post) := fun s p n c i n Post h => Go.Ab.AWP.loop' g167 (Cfg.live g167) c167_12 (by kernel_rfl) (by kernel_rfl) (Go.Ab.kc (by kernel_rfl) h)

-- 143
noncomputable def l143 : Nat → List Nat
  | 9 => [0, 1, 6, 7]
  | 11 => [0, 1, 6, 7]
  | 12 => [0, 1, 6, 7, 8]
  | _ => []
noncomputable def u143 : Nat → Bool
  | 9 => true
  | 11 => true
  | _ => false
noncomputable def m143 : Nat → Bool
  | _ => false
noncomputable def g143 : Cfg := { N := 58, live := l143, cut := u143, mu := m143, ret := rets }
noncomputable def c143 : Go.Code := Go.Ab.bodyOf Go.Proofs.Try.f143
noncomputable def q143_0 : Nat → (AV → List AObj → Prop) → AQ := fun (n : Nat) (Post : AV → List AObj → Prop) => endQ Try.prog (resultsOf Try.f143) Post
noncomputable def c143_9 : Go.Code := codeSnd (codeSnd (codeSnd (codeSnd (codeSnd (codeSnd c143)))))
theorem s143 : ∀ (s : ByteArray) (p : Int) (Post : AV → List AObj → Prop),
  needP ((0 : Int) ≤ p ∧ p < (↑(ByteArray.size s) : Int))
      (condP (decide ((↑(UInt8.toNat (List.getD (Array.toList (ByteArray.data s)) (Int.toNat p) (0 : UInt8))) : Int) < (128 : Int)))
        (needP ((0 : Int) ≤ p ∧ p < (↑(ByteArray.size s) : Int))
          (Post (AV.tup [AV.int IntKind.i64 (IntKind.wrap IntKind.i64 (↑(UInt8.toNat (List.getD (Array.toList (ByteArray.data s)) (Int.toNat p) (0 : UInt8))) : Int)), AV.int IntKind.i64 (1 : Int)])
            []))
        (ASpec Try.prog 167 [AV.str s, AV.int IntKind.i64 p] [] fun (r : AV) (H' : List AObj) =>
          ∃ (x : Int),
            r = AV.int IntKind.i64 x ∧
              H' = [] ∧
                condP (x == (0 : Int)) (Post (AV.tup [AV.int IntKind.i64 (65533 : Int), AV.int IntKind.i64 (1 : Int)]) [])
                  (needP ((0 : Int) ≤ p ∧ p < (↑(ByteArray.size s) : Int))
                    (needP ((32 : Int) ≠ (0 : Int))
                      (condP (x == (3 : Int))
                        (needP ((0 : Int) ≤ p ∧ p < (↑(ByteArray.size s) : Int))
                          (needP ((16 : Int) ≠ (0 : Int))
                            (AWP Try.prog 58 0 c143_9
                              [(0, AV.str s), (1, AV.int IntKind.i64 p), (6, AV.int IntKind.i64 x),
                                (7,
                                  AV.int IntKind.i64 (Int.tmod (IntKind.wrap IntKind.i64 (↑(UInt8.toNat (List.getD (Array.toList (ByteArray.data s)) (Int.toNat p) (0 : UInt8))) : Int)) (16 : Int)))]
                              [] (q143_0 0 Post))))
                        (AWP Try.prog 58 0 c143_9
                          [(0, AV.str s), (1, AV.int IntKind.i64 p), (6, AV.int IntKind.i64 x),
                            (7,
                              AV.int IntKind.i64 (Int.tmod (IntKind.wrap IntKind.i64 (↑(UInt8.toNat (List.getD (Array.toList (ByteArray.data s)) (Int.toNat p) (0 : UInt8))) : Int)) (32 : Int)))]
                          [] (q143_0 0 Post))))))) →
    ASpec Try.prog 143 [AV.str s, AV.int IntKind.i64 p] [] Post := fun s p Post h => Go.Ab.ASpec.of_vc g143 Go.Proofs.Try.func143 (by kernel_rfl) (by kernel_rfl) (by kernel_rfl) (Go.Ab.kc (by kernel_rfl) h)
noncomputable def c143_11 : Go.Code := codeSnd c143_9
theorem v143_9 : ∀ (s : ByteArray) (p n x : Int) (n_1 : Nat) (Post : AV → List AObj → Prop),
  condP (n == (4 : Int))
      (needP ((0 : Int) ≤ p ∧ p < (↑(ByteArray.size s) : Int))
        (needP ((8 : Int) ≠ (0 : Int))
          (AWP Try.prog 58 n_1 c143_11
            [(0, AV.str s), (1, AV.int IntKind.i64 p), (6, AV.int IntKind.i64 n),
              (7, AV.int IntKind.i64 (Int.tmod (IntKind.wrap IntKind.i64 (↑(UInt8.toNat (List.getD (Array.toList (ByteArray.data s)) (Int.toNat p) (0 : UInt8))) : Int)) (8 : Int)))]
            [] (q143_0 n_1 Post))))
      (AWP Try.prog 58 n_1 c143_11 [(0, AV.str s), (1, AV.int IntKind.i64 p), (6, AV.int IntKind.i64 n), (7, AV.int IntKind.i64 x)] [] (q143_0 n_1 Post)) →
    AWP Try.prog 58 n_1 c143_9 [(0, AV.str s), (1, AV.int IntKind.i64 p), (6, AV.int IntKind.i64 n), (7, AV.int IntKind.i64 x)] [] (q143_0 n_1 Post) := fun s p n x n Post h => Go.Ab.awp_sound g143 n _ _ _ _ (Go.Ab.kc (by kernel_rfl) h)
noncomputable def q143_1 : Nat → (AV → List AObj → Prop) → AQ := fun (n : Nat) (Post : AV → List AObj → Prop) => seqQ (fun (s' : Slots) (H' : List AObj) => awp Try.prog g143 n (codeSnd c143_11) s' H' (q143_0 n Post)) (q143_0 n Post)
noncomputable def q143_2 : Nat → (AV → List AObj → Prop) → AQ := fun (n : Nat) (Post : AV → List AObj → Prop) => blockQ 0 (q143_1 n Post)
noncomputable def c143_12 : Go.Code := codeFst (codeSnd (codeFst c143_11))
theorem v143_11 : ∀ (s : ByteArray) (p n x : Int) (n_1 : Nat) (Post : AV → List AObj → Prop),
  AWP Try.prog 58 n_1 c143_12
      [(0, AV.str s), (1, AV.int IntKind.i64 p), (6, AV.int IntKind.i64 n), (7, AV.int IntKind.i64 x), (8, AV.int IntKind.i64 (1 : Int))] [] (q143_2 n_1 Post) →
    AWP Try.prog 58 n_1 c143_11 [(0, AV.str s), (1, AV.int IntKind.i64 p), (6, AV.int IntKind.i64 n), (7, AV.int IntKind.i64 x)] [] (q143_0 n_1 Post) := fun s p n x n Post h => Go.Ab.awp_sound g143 n _ _ _ _ (Go.Ab.kc (by kernel_rfl) h)
theorem v143_12 : ∀ (s : ByteArray) (p n x i : Int) (n_1 : Nat) (Post : AV → List AObj → Prop),
  condP (decide (i < n))
      (needP ((0 : Int) ≤ IntKind.wrap IntKind.i64 (p + i) ∧ IntKind.wrap IntKind.i64 (p + i) < (↑(ByteArray.size s) : Int))
        (needP ((64 : Int) ≠ (0 : Int))
          (AWP Try.prog 58 n_1 c143_12
            [(0, AV.str s), (1, AV.int IntKind.i64 p), (6, AV.int IntKind.i64 n),
              (7,
                AV.int IntKind.i64
                  (IntKind.wrap IntKind.i64
                    (IntKind.wrap IntKind.i64 (x * (64 : Int)) +
                      Int.tmod (IntKind.wrap IntKind.i64 (↑(UInt8.toNat (List.getD (Array.toList (ByteArray.data s)) (Int.toNat (IntKind.wrap IntKind.i64 (p + i))) (0 : UInt8))) : Int)) (64 : Int)))),
              (8, AV.int IntKind.i64 (IntKind.wrap IntKind.i64 (i + (1 : Int))))]
            [] (q143_2 n_1 Post))))
      (Post (AV.tup [AV.int IntKind.i64 x, AV.int IntKind.i64 n]) []) →
    AWP Try.prog 58 n_1 c143_12
      [(0, AV.str s), (1, AV.int IntKind.i64 p), (6, AV.int IntKind.i64 n), (7, AV.int IntKind.i64 x), (8, AV.int IntKind.i64 i)] [] (q143_2 n_1 Post) := fun s p n x i n Post h => Go.Ab.AWP.loop' g143 (Cfg.live g143) c143_12 (by kernel_rfl) (by kernel_rfl) (Go.Ab.kc (by kernel_rfl) h)

-- 95
noncomputable def l95 : Nat → List Nat
  | 3 => [0, 3, 4]
  | _ => []
noncomputable def u95 : Nat → Bool
  | _ => false
noncomputable def m95 : Nat → Bool
  | _ => false
noncomputable def g95 : Cfg := { N := 25, live := l95, cut := u95, mu := m95, ret := rets }
noncomputable def c95 : Go.Code := Go.Ab.bodyOf Go.Proofs.Try.f95
noncomputable def q95_0 : Nat → (AV → List AObj → Prop) → AQ := fun (n : Nat) (Post : AV → List AObj → Prop) => endQ Try.prog (resultsOf Try.f95) Post
noncomputable def q95_1 : Nat → (AV → List AObj → Prop) → AQ := fun (n : Nat) (Post : AV → List AObj → Prop) => seqQ (fun (s' : Slots) (H' : List AObj) => awp Try.prog g95 n (codeSnd (codeSnd (codeSnd (codeSnd c95)))) s' H' (q95_0 n Post)) (q95_0 n Post)
noncomputable def q95_2 : Nat → (AV → List AObj → Prop) → AQ := fun (n : Nat) (Post : AV → List AObj → Prop) => blockQ 0 (q95_1 n Post)
noncomputable def c95_3 : Go.Code := codeFst (codeFst (codeSnd (codeSnd (codeSnd c95))))
theorem s95 : ∀ (s : ByteArray) (Post : AV → List AObj → Prop),
  AWP Try.prog 25 0 c95_3 [(0, AV.str s), (3, AV.sl 0 (Seq.raw []) Tip.nil), (4, AV.int IntKind.i64 (0 : Int))] [] (q95_2 0 Post) →
    ASpec Try.prog 95 [AV.str s] [] Post := fun s Post h => Go.Ab.ASpec.of_vc g95 Go.Proofs.Try.func95 (by kernel_rfl) (by kernel_rfl) (by kernel_rfl) (Go.Ab.kc (by kernel_rfl) h)
theorem v95_3 : ∀ (s : ByteArray) (l : List Int) (p : Int) (n : Nat) (Post : AV → List AObj → Prop),
  condP (decide (p < (↑(ByteArray.size s) : Int)))
      (ASpec Try.prog 143 [AV.str s, AV.int IntKind.i64 p] [AObj.tok] fun (r : AV) (H' : List AObj) =>
        ∃ (x : Int × Int),
          r = AV.tup [AV.int IntKind.i64 (Prod.fst x), AV.int IntKind.i64 (Prod.snd x)] ∧
            H' = [AObj.tok] ∧
              needP ((List.length l + 1) * 8 ≤ 140737488351232)
                (AWP Try.prog 25 n c95_3
                  [(0, AV.str s), (3, AV.sl 1 (Seq.app (Seq.map encI (0 : Int) l) (Seq.raw [[AV.int IntKind.i64 (Prod.fst x)]])) (Tip.tok 1)),
                    (4, AV.int IntKind.i64 (IntKind.wrap IntKind.i64 (p + Prod.snd x)))]
                  [AObj.gone, AObj.tok] (q95_2 n Post)))
      (Post (AV.sl 1 (Seq.map encI (0 : Int) l) (Tip.tok 0)) [AObj.tok]) →
    AWP Try.prog 25 n c95_3 [(0, AV.str s), (3, AV.sl 1 (Seq.map encI (0 : Int) l) (Tip.tok 0)), (4, AV.int IntKind.i64 p)] [AObj.tok] (q95_2 n Post) := fun s l p n Post h => Go.Ab.AWP.loop' g95 (Cfg.live g95) c95_3 (by kernel_rfl) (by kernel_rfl) (Go.Ab.kc (by kernel_rfl) h)

-- 37
noncomputable def l37 : Nat → List Nat
  | 5 => [3, 4]
  | _ => []
noncomputable def u37 : Nat → Bool
  | _ => false
noncomputable def m37 : Nat → Bool
  | _ => false
noncomputable def g37 : Cfg := { N := 42, live := l37, cut := u37, mu := m37, ret := rets }
noncomputable def c37 : Go.Code := Go.Ab.bodyOf Go.Proofs.Try.f37
noncomputable def q37_0 : Nat → (AV → List AObj → Prop) → AQ := fun (n : Nat) (Post : AV → List AObj → Prop) => endQ Try.prog (resultsOf Try.f37) Post
noncomputable def q37_1 : Nat → (AV → List AObj → Prop) → AQ := fun (n : Nat) (Post : AV → List AObj → Prop) => seqQ (fun (s' : Slots) (H' : List AObj) => awp Try.prog g37 n (codeSnd (codeSnd (codeSnd (codeSnd c37)))) s' H' (q37_0 n Post)) (q37_0 n Post)
noncomputable def q37_2 : Nat → (AV → List AObj → Prop) → AQ := fun (n : Nat) (Post : AV → List AObj → Prop) => blockQ 0 (q37_1 n Post)
noncomputable def c37_5 : Go.Code := codeFst (codeSnd (codeFst (codeSnd (codeSnd (codeSnd c37)))))
theorem s37 : ∀ (s : ByteArray) (Post : AV → List AObj → Prop),
  condP (decide ((↑(ByteArray.size s) : Int) > (100 : Int))) (Post (AV.bool false) [])
      (ASpec Try.prog 95 [AV.str s] [] fun (r : AV) (H' : List AObj) =>
        ∃ (x : List Int),
          r = AV.sl 1 (Seq.map encI (0 : Int) x) Tip.none ∧
            H' = [] ∧ AWP Try.prog 42 0 c37_5 [(3, AV.sl 1 (Seq.map encI (0 : Int) x) Tip.none), (4, AV.int IntKind.i64 (0 : Int))] [] (q37_2 0 Post)) →
    ASpec Try.prog 37 [AV.str s] [] Post := fun s Post h => Go.Ab.ASpec.of_vc g37 Go.Proofs.Try.func37 (by kernel_rfl) (by kernel_rfl) (by kernel_rfl) (Go.Ab.kc (by kernel_rfl) h)
theorem v37_5 : ∀ (l : List Int) (i : Int) (n : Nat) (Post : AV → List AObj → Prop),
  condP (decide (i < (↑(List.length l) : Int)))
      (needP ((0 : Int) ≤ i ∧ i < (↑(List.length l) : Int))
        (ASpec Try.prog 96 [AV.int IntKind.i64 (List.getD l (Int.toNat i) (0 : Int))] [] fun (r : AV) (H' : List AObj) =>
          ∃ (x : Int),
            r = AV.int IntKind.i64 x ∧
              H' = [] ∧
                condP (x == (4 : Int)) (Post (AV.bool false) [])
                  (condP (i == (0 : Int))
                    (needP ((0 : Int) ≤ i ∧ i < (↑(List.length l) : Int))
                      (ASpec Try.prog 96 [AV.int IntKind.i64 (List.getD l (Int.toNat i) (0 : Int))] [] fun (r : AV) (H' : List AObj) =>
                        ∃ (x : Int),
                          r = AV.int IntKind.i64 x ∧
                            H' = [] ∧
                              condP (decide (x > (1 : Int))) (Post (AV.bool false) [])
                                (AWP Try.prog 42 n c37_5
                                  [(3, AV.sl 1 (Seq.map encI (0 : Int) l) Tip.none), (4, AV.int IntKind.i64 (IntKind.wrap IntKind.i64 (i + (1 : Int))))] [] (q37_2 n Post))))
                    (AWP Try.prog 42 n c37_5 [(3, AV.sl 1 (Seq.map encI (0 : Int) l) Tip.none), (4, AV.int IntKind.i64 (IntKind.wrap IntKind.i64 (i + (1 : Int))))] []
                      (q37_2 n Post)))))
      (condP (decide ((↑(List.length l) : Int) ≥ (1 : Int))) (Post (AV.bool (decide ((↑(List.length l) : Int) ≤ (12 : Int)))) []) (Post (AV.bool false) [])) →
    AWP Try.prog 42 n c37_5 [(3, AV.sl 1 (Seq.map encI (0 : Int) l) Tip.none), (4, AV.int IntKind.i64 i)] [] (q37_2 n Post) := fun l i n Post h => Go.Ab.AWP.loop' g37 (Cfg.live g37) c37_5 (by kernel_rfl) (by kernel_rfl) (Go.Ab.kc (by kernel_rfl) h)

-- 35
noncomputable def l35 : Nat → List Nat
  | _ => []
noncomputable def u35 : Nat → Bool
  | _ => false
noncomputable def m35 : Nat → Bool
  | _ => false
noncomputable def g35 : Cfg := { N := 19, live := l35, cut := u35, mu := m35, ret := rets }
noncomputable def c35 : Go.Code := Go.Ab.bodyOf Go.Proofs.Try.f35
theorem s35 : ∀ (s : ByteArray) (bs : List UInt8) (Post : AV → List AObj → Prop),
  (ASpec Try.prog 91 [AV.str s] [] fun (r : AV) (H' : List AObj) =>
      ∃ (x : Bool),
        r = AV.bool x ∧
          H' = [] ∧
            condP (!x) (Post (AV.sl 0 (Seq.raw []) Tip.nil) [])
              (condP (decide ((↑(List.length bs) : Int) > (8192 : Int))) (Post (AV.sl 0 (Seq.raw []) Tip.nil) [])
                (needP (allBytes (Seq.map encB (0 : UInt8) bs))
                  (ASpec Try.prog 18 [AV.sl 0 (Seq.raw []) Tip.nil, AV.str s] [] fun (r : AV) (H' : List AObj) =>
                    ∃ (x : List UInt8),
                      r = AV.sl 1 (Seq.map encB (0 : UInt8) x) (Tip.tok 0) ∧
                        H' = [AObj.tok] ∧
                          ASpec Try.prog 18 [AV.sl 1 (Seq.map encB (0 : UInt8) x) (Tip.tok 0), AV.str (bytesOf (Seq.map encB (0 : UInt8) bs))] [AObj.tok]
                            fun (r : AV) (H' : List AObj) =>
                            ∃ (x : List UInt8),
                              r = AV.sl 1 (Seq.map encB (0 : UInt8) x) (Tip.tok 1) ∧
                                H' = [AObj.tok, AObj.tok] ∧
                                  ASpec Try.prog 93 [AV.sl 1 (Seq.map encB (0 : UInt8) x) (Tip.tok 1)] [AObj.tok, AObj.tok] fun (r : AV) (H' : List AObj) =>
                                    ∃ (x : List UInt8),
                                      r = AV.sl 1 (Seq.map encB (0 : UInt8) x) Tip.none ∧
                                        H' = [AObj.tok, AObj.tok] ∧ Post (AV.sl 1 (Seq.map encB (0 : UInt8) x) Tip.none) [AObj.tok, AObj.tok])))) →
    ASpec Try.prog 35 [AV.str s, AV.sl 1 (Seq.map encB (0 : UInt8) bs) Tip.none] [] Post := fun s bs Post h => Go.Ab.ASpec.of_vc g35 Go.Proofs.Try.func35 (by kernel_rfl) (by kernel_rfl) (by kernel_rfl) (Go.Ab.kc (by kernel_rfl) h)

-- 36
noncomputable def l36 : Nat → List Nat
  | _ => []
noncomputable def u36 : Nat → Bool
  | _ => false
noncomputable def m36 : Nat → Bool
  | _ => false
noncomputable def g36 : Cfg := { N := 19, live := l36, cut := u36, mu := m36, ret := rets }
noncomputable def c36 : Go.Code := Go.Ab.bodyOf Go.Proofs.Try.f36
theorem s36 : ∀ (s t : ByteArray) (Post : AV → List AObj → Prop),
  (ASpec Try.prog 37 [AV.str s] [] fun (r : AV) (H' : List AObj) =>
      ∃ (x : Bool),
        r = AV.bool x ∧
          H' = [] ∧
            condP (!x) (Post (AV.str { data := #[] }) [])
              (condP (decide ((↑(ByteArray.size t) : Int) > (8192 : Int))) (Post (AV.str { data := #[] }) [])
                (ASpec Try.prog 20 [AV.str s] [] fun (r : AV) (H' : List AObj) =>
                  ∃ (x : ByteArray),
                    r = AV.str x ∧
                      H' = [] ∧
                        ASpec Try.prog 20 [AV.str t] [] fun (r : AV) (H' : List AObj) =>
                          ∃ (x_1 : ByteArray),
                            r = AV.str x_1 ∧
                              H' = [] ∧
                                needP ((↑(ByteArray.size x + ByteArray.size x_1) : Int) ≤ (9223372036854775807 : Int))
                                  (ASpec Try.prog 94 [AV.str (x ++ x_1)] [] fun (r : AV) (H' : List AObj) => ∃ (x : ByteArray), r = AV.str x ∧ H' = [] ∧ Post (AV.str x) [])))) →
    ASpec Try.prog 36 [AV.str s, AV.str t] [] Post := fun s t Post h => Go.Ab.ASpec.of_vc g36 Go.Proofs.Try.func36 (by kernel_rfl) (by kernel_rfl) (by kernel_rfl) (Go.Ab.kc (by kernel_rfl) h)

-- 33
noncomputable def l33 : Nat → List Nat
  | _ => []
noncomputable def u33 : Nat → Bool
  | _ => false
noncomputable def m33 : Nat → Bool
  | _ => false
noncomputable def g33 : Cfg := { N := 37, live := l33, cut := u33, mu := m33, ret := rets }
noncomputable def c33 : Go.Code := Go.Ab.bodyOf Go.Proofs.Try.f33
theorem s33 : ∀ (bs : List UInt8) (Post : AV → List AObj → Prop),
  (ASpec Try.prog 90 [AV.sl 1 (Seq.map encB (0 : UInt8) bs) Tip.none] [] fun (r : AV) (H' : List AObj) =>
      ∃ (x : List UInt8 × Bool),
        r = AV.tup [AV.sl 1 (Seq.map encB (0 : UInt8) (Prod.fst x)) Tip.none, AV.bool (Prod.snd x)] ∧
          H' = [] ∧
            condP (!Prod.snd x) (Post (AV.tup [AV.str { data := #[] }, AV.sl 0 (Seq.raw []) Tip.nil, AV.int IntKind.i64 (8 : Int)]) [])
              (ASpec Try.prog 21 [AV.sl 1 (Seq.map encB (0 : UInt8) (Prod.fst x)) Tip.none] [] fun (r : AV) (H' : List AObj) =>
                ∃ (x : List UInt8),
                  r = AV.ptr 0 0 ∧
                    H' = [AObj.cells [AV.sl 1 (Seq.map encB (0 : UInt8) x) Tip.none, AV.int IntKind.i64 (0 : Int), AV.int IntKind.i64 (0 : Int)]] ∧
                      ASpec Try.prog 23 [AV.ptr 0 0, AV.int IntKind.i64 (24 : Int)]
                        [AObj.cells [AV.sl 1 (Seq.map encB (0 : UInt8) x) Tip.none, AV.int IntKind.i64 (0 : Int), AV.int IntKind.i64 (0 : Int)]] fun (r : AV) (H' : List AObj) =>
                        ∃ (x_1 : ByteArray × Int × Int),
                          r = AV.str (Prod.fst x_1) ∧
                            H' = [AObj.cells [AV.sl 1 (Seq.map encB (0 : UInt8) x) Tip.none, AV.int IntKind.i64 (Prod.fst (Prod.snd x_1)), AV.int IntKind.i64 (Prod.snd (Prod.snd x_1))]] ∧
                              ASpec Try.prog 23 [AV.ptr 0 0, AV.int IntKind.i64 (8192 : Int)]
                                [AObj.cells [AV.sl 1 (Seq.map encB (0 : UInt8) x) Tip.none, AV.int IntKind.i64 (Prod.fst (Prod.snd x_1)), AV.int IntKind.i64 (Prod.snd (Prod.snd x_1))]]
                                fun (r : AV) (H' : List AObj) =>
                                ∃ (x_2 : ByteArray × Int × Int),
                                  r = AV.str (Prod.fst x_2) ∧
                                    H' =
                                        [AObj.cells
                                            [AV.sl 1 (Seq.map encB (0 : UInt8) x) Tip.none, AV.int IntKind.i64 (Prod.fst (Prod.snd x_2)), AV.int IntKind.i64 (Prod.snd (Prod.snd x_2))]] ∧
                                      ASpec Try.prog 30 [AV.ptr 0 0]
                                        [AObj.cells [AV.sl 1 (Seq.map encB (0 : UInt8) x) Tip.none, AV.int IntKind.i64 (Prod.fst (Prod.snd x_2)), AV.int IntKind.i64 (Prod.snd (Prod.snd x_2))]]
                                        fun (r : AV) (H' : List AObj) =>
                                        ∃ (x_3 : Int),
                                          r = AV.int IntKind.i64 x_3 ∧
                                            H' =
                                                [AObj.cells
                                                    [AV.sl 1 (Seq.map encB (0 : UInt8) x) Tip.none, AV.int IntKind.i64 (Prod.fst (Prod.snd x_2)),
                                                      AV.int IntKind.i64 (Prod.snd (Prod.snd x_2))]] ∧
                                              condP (x_3 != (0 : Int))
                                                (Post (AV.tup [AV.str { data := #[] }, AV.sl 0 (Seq.raw []) Tip.nil, AV.int IntKind.i64 x_3])
                                                  [AObj.cells
                                                      [AV.sl 1 (Seq.map encB (0 : UInt8) x) Tip.none, AV.int IntKind.i64 (Prod.fst (Prod.snd x_2)),
                                                        AV.int IntKind.i64 (Prod.snd (Prod.snd x_2))]])
                                                (ASpec Try.prog 91 [AV.str (Prod.fst x_1)]
                                                  [AObj.cells
                                                      [AV.sl 1 (Seq.map encB (0 : UInt8) x) Tip.none, AV.int IntKind.i64 (Prod.fst (Prod.snd x_2)),
                                                        AV.int IntKind.i64 (Prod.snd (Prod.snd x_2))]]
                                                  fun (r : AV) (H' : List AObj) =>
                                                  ∃ (x_4 : Bool),
                                                    r = AV.bool x_4 ∧
                                                      H' =
                                                          [AObj.cells
                                                              [AV.sl 1 (Seq.map encB (0 : UInt8) x) Tip.none, AV.int IntKind.i64 (Prod.fst (Prod.snd x_2)),
                                                                AV.int IntKind.i64 (Prod.snd (Prod.snd x_2))]] ∧
                                                        condP (!x_4)
                                                          (Post (AV.tup [AV.str { data := #[] }, AV.sl 0 (Seq.raw []) Tip.nil, AV.int IntKind.i64 (3 : Int)])
                                                            [AObj.cells
                                                                [AV.sl 1 (Seq.map encB (0 : UInt8) x) Tip.none, AV.int IntKind.i64 (Prod.fst (Prod.snd x_2)),
                                                                  AV.int IntKind.i64 (Prod.snd (Prod.snd x_2))]])
                                                          (Post (AV.tup [AV.str (Prod.fst x_1), AV.sl 1 (bytesSeq (Prod.fst x_2)) Tip.none, AV.int IntKind.i64 (0 : Int)])
                                                            [AObj.cells
                                                                [AV.sl 1 (Seq.map encB (0 : UInt8) x) Tip.none, AV.int IntKind.i64 (Prod.fst (Prod.snd x_2)),
                                                                  AV.int IntKind.i64 (Prod.snd (Prod.snd x_2))]])))) →
    ASpec Try.prog 33 [AV.sl 1 (Seq.map encB (0 : UInt8) bs) Tip.none] [] Post := fun bs Post h => Go.Ab.ASpec.of_vc g33 Go.Proofs.Try.func33 (by kernel_rfl) (by kernel_rfl) (by kernel_rfl) (Go.Ab.kc (by kernel_rfl) h)

-- 34
noncomputable def l34 : Nat → List Nat
  | 10 => [8, 9, 10]
  | _ => []
noncomputable def u34 : Nat → Bool
  | 10 => true
  | _ => false
noncomputable def m34 : Nat → Bool
  | _ => false
noncomputable def g34 : Cfg := { N := 39, live := l34, cut := u34, mu := m34, ret := rets }
noncomputable def c34 : Go.Code := Go.Ab.bodyOf Go.Proofs.Try.f34
noncomputable def q34_0 : Nat → (AV → List AObj → Prop) → AQ := fun (n : Nat) (Post : AV → List AObj → Prop) => endQ Try.prog (resultsOf Try.f34) Post
noncomputable def c34_10 : Go.Code := codeSnd (codeSnd (codeSnd (codeSnd (codeSnd (codeSnd (codeSnd (codeSnd c34)))))))
theorem s34 : ∀ (s : ByteArray) (Post : AV → List AObj → Prop),
  (ASpec Try.prog 92 [AV.str s] [] fun (r : AV) (H' : List AObj) =>
      ∃ (x : ByteArray × Bool),
        r = AV.tup [AV.str (Prod.fst x), AV.bool (Prod.snd x)] ∧
          H' = [] ∧
            condP (!Prod.snd x) (Post (AV.tup [AV.str { data := #[] }, AV.str { data := #[] }, AV.int IntKind.i64 (8 : Int)]) [])
              (ASpec Try.prog 27 [AV.ptr 0 0, AV.int IntKind.i64 (24 : Int)] [AObj.cells [AV.str (Prod.fst x), AV.int IntKind.i64 (0 : Int)]] fun (r : AV) (H' : List AObj) =>
                ∃ (x : ByteArray × ByteArray × Int),
                  r = AV.str (Prod.fst x) ∧
                    H' = [AObj.cells [AV.str (Prod.fst (Prod.snd x)), AV.int IntKind.i64 (Prod.snd (Prod.snd x))]] ∧
                      ASpec Try.prog 27 [AV.ptr 0 0, AV.int IntKind.i64 (8192 : Int)] [AObj.cells [AV.str (Prod.fst (Prod.snd x)), AV.int IntKind.i64 (Prod.snd (Prod.snd x))]]
                        fun (r : AV) (H' : List AObj) =>
                        ∃ (x_1 : ByteArray × ByteArray × Int),
                          r = AV.str (Prod.fst x_1) ∧
                            H' = [AObj.cells [AV.str (Prod.fst (Prod.snd x_1)), AV.int IntKind.i64 (Prod.snd (Prod.snd x_1))]] ∧
                              ASpec Try.prog 31 [AV.ptr 0 0] [AObj.cells [AV.str (Prod.fst (Prod.snd x_1)), AV.int IntKind.i64 (Prod.snd (Prod.snd x_1))]]
                                fun (r : AV) (H' : List AObj) =>
                                ∃ (x_2 : Int),
                                  r = AV.int IntKind.i64 x_2 ∧
                                    H' = [AObj.cells [AV.str (Prod.fst (Prod.snd x_1)), AV.int IntKind.i64 (Prod.snd (Prod.snd x_1))]] ∧
                                      condP (x_2 == (0 : Int))
                                        (ASpec Try.prog 37 [AV.str (Prod.fst x)] [AObj.cells [AV.str (Prod.fst (Prod.snd x_1)), AV.int IntKind.i64 (Prod.snd (Prod.snd x_1))]]
                                          fun (r : AV) (H' : List AObj) =>
                                          ∃ (x_3 : Bool),
                                            r = AV.bool x_3 ∧
                                              H' = [AObj.cells [AV.str (Prod.fst (Prod.snd x_1)), AV.int IntKind.i64 (Prod.snd (Prod.snd x_1))]] ∧
                                                condP (!x_3)
                                                  (AWP Try.prog 39 0 c34_10
                                                    [(8, AV.str (Prod.fst x)), (9, AV.str (Prod.fst x_1)), (10, AV.int IntKind.i64 (3 : Int))]
                                                    [AObj.cells [AV.str (Prod.fst (Prod.snd x_1)), AV.int IntKind.i64 (Prod.snd (Prod.snd x_1))]] (q34_0 0 Post))
                                                  (AWP Try.prog 39 0 c34_10 [(8, AV.str (Prod.fst x)), (9, AV.str (Prod.fst x_1)), (10, AV.int IntKind.i64 x_2)]
                                                    [AObj.cells [AV.str (Prod.fst (Prod.snd x_1)), AV.int IntKind.i64 (Prod.snd (Prod.snd x_1))]] (q34_0 0 Post)))
                                        (AWP Try.prog 39 0 c34_10 [(8, AV.str (Prod.fst x)), (9, AV.str (Prod.fst x_1)), (10, AV.int IntKind.i64 x_2)]
                                          [AObj.cells [AV.str (Prod.fst (Prod.snd x_1)), AV.int IntKind.i64 (Prod.snd (Prod.snd x_1))]] (q34_0 0 Post)))) →
    ASpec Try.prog 34 [AV.str s] [] Post := fun s Post h => Go.Ab.ASpec.of_vc g34 Go.Proofs.Try.func34 (by kernel_rfl) (by kernel_rfl) (by kernel_rfl) (Go.Ab.kc (by kernel_rfl) h)
theorem v34_10 : ∀ (x y : ByteArray) (e : Int) (n : Nat) (Post : AV → List AObj → Prop),
  condP (e != (0 : Int)) (Post (AV.tup [AV.str { data := #[] }, AV.str { data := #[] }, AV.int IntKind.i64 e]) []) (Post (AV.tup [AV.str x, AV.str y, AV.int IntKind.i64 (0 : Int)]) []) →
    AWP Try.prog 39 n c34_10 [(8, AV.str x), (9, AV.str y), (10, AV.int IntKind.i64 e)] [] (q34_0 n Post) := fun x y e n Post h => Go.Ab.awp_sound g34 n _ _ _ _ (Go.Ab.kc (by kernel_rfl) h)

-- 32
noncomputable def l32 : Nat → List Nat
  | _ => []
noncomputable def u32 : Nat → Bool
  | _ => false
noncomputable def m32 : Nat → Bool
  | _ => false
noncomputable def g32 : Cfg := { N := 24, live := l32, cut := u32, mu := m32, ret := rets }
noncomputable def c32 : Go.Code := Go.Ab.bodyOf Go.Proofs.Try.f32
theorem s32 : ∀ (Post : AV → List AObj → Prop),
  (ASpec Try.prog 35 [AV.str { data := #[(97 : UInt8)] }, AV.sl 0 (Seq.raw []) Tip.nil] [] fun (r : AV) (H' : List AObj) =>
      ∃ (x : List UInt8),
        r = AV.sl 1 (Seq.map encB (0 : UInt8) x) Tip.none ∧
          H' = [] ∧
            ASpec Try.prog 33 [AV.sl 0 (Seq.raw []) Tip.nil] [] fun (r : AV) (H' : List AObj) =>
              ∃ (x_1 : ByteArray × List UInt8 × Int),
                r = AV.tup [AV.str (Prod.fst x_1), AV.sl 1 (Seq.map encB (0 : UInt8) (Prod.fst (Prod.snd x_1))) Tip.none, AV.int IntKind.i64 (Prod.snd (Prod.snd x_1))] ∧
                  H' = [] ∧
                    condP ((↑(List.length x) : Int) == (7 : Int))
                      (needP ((0 : Int) ≤ (3 : Int) ∧ (3 : Int) ≤ (↑(List.length x) : Int))
                        (needP (allBytes (Seq.map encB (0 : UInt8) (List.drop 0 (List.take 3 x))))
                          (condP
                            (ByteArray.toList (bytesOf (Seq.map encB (0 : UInt8) (List.drop 0 (List.take 3 x)))) ==
                              ByteArray.toList { data := #[(1 : UInt8), (97 : UInt8), (0 : UInt8)] })
                            (Post (AV.bool (Prod.snd (Prod.snd x_1) == (8 : Int))) []) (Post (AV.bool false) []))))
                      (Post (AV.bool false) [])) →
    ASpec Try.prog 32 [] [] Post := fun Post h => Go.Ab.ASpec.of_vc g32 Go.Proofs.Try.func32 (by kernel_rfl) (by kernel_rfl) (by kernel_rfl) (Go.Ab.kc (by kernel_rfl) h)

-- 7
noncomputable def l7 : Nat → List Nat
  | 3 => [0, 1, 2]
  | 4 => [0, 1, 2, 7, 8, 9]
  | 5 => [0, 1, 7, 8, 9, 10, 11, 12]
  | _ => []
noncomputable def u7 : Nat → Bool
  | 3 => true
  | 4 => true
  | 5 => true
  | _ => false
noncomputable def m7 : Nat → Bool
  | _ => false
noncomputable def g7 : Cfg := { N := 68, live := l7, cut := u7, mu := m7, ret := rets }
noncomputable def c7 : Go.Code := Go.Ab.bodyOf Go.Proofs.Try.f7
noncomputable def q7_0 : Nat → (AV → List AObj → Prop) → AQ := fun (n : Nat) (Post : AV → List AObj → Prop) => endQ Try.prog (resultsOf Try.f7) Post
noncomputable def c7_3 : Go.Code := codeSnd (codeSnd c7)
theorem s7 : ∀ (s : ByteArray) (body bs : List UInt8) (Post : AV → List AObj → Prop),
  condP (decide ((↑(ByteArray.size s) : Int) > (200 : Int))) (ASpec Try.prog 32 [] [] fun (r : AV) (H' : List AObj) => ∃ (x : Unit), r = AV.bool true ∧ H' = [] ∧ Post (AV.bool true) [])
      (condP (decide ((↑(List.length body) : Int) > (10000 : Int)))
        (ASpec Try.prog 32 [] [] fun (r : AV) (H' : List AObj) => ∃ (x : Unit), r = AV.bool true ∧ H' = [] ∧ Post (AV.bool true) [])
        (condP (decide ((↑(List.length bs) : Int) > (20000 : Int)))
          (ASpec Try.prog 32 [] [] fun (r : AV) (H' : List AObj) => ∃ (x : Unit), r = AV.bool true ∧ H' = [] ∧ Post (AV.bool true) [])
          (AWP Try.prog 68 0 c7_3
            [(0, AV.str s), (1, AV.sl 1 (Seq.map encB (0 : UInt8) body) Tip.none), (2, AV.sl 1 (Seq.map encB (0 : UInt8) bs) Tip.none)] []
            (q7_0 0 Post)))) →
    ASpec Try.prog 7 [AV.str s, AV.sl 1 (Seq.map encB (0 : UInt8) body) Tip.none, AV.sl 1 (Seq.map encB (0 : UInt8) bs) Tip.none] [] Post := fun s body bs Post h => Go.Ab.ASpec.of_vc g7 Go.Proofs.Try.func7 (by kernel_rfl) (by kernel_rfl) (by kernel_rfl) (Go.Ab.kc (by kernel_rfl) h)
noncomputable def c7_4 : Go.Code := codeSnd c7_3
theorem v7_3 : ∀ (s : ByteArray) (body bs : List UInt8) (n : Nat) (Post : AV → List AObj → Prop),
  (ASpec Try.prog 33 [AV.sl 1 (Seq.map encB (0 : UInt8) bs) Tip.none] [] fun (r : AV) (H' : List AObj) =>
      ∃ (x : ByteArray × List UInt8 × Int),
        r = AV.tup [AV.str (Prod.fst x), AV.sl 1 (Seq.map encB (0 : UInt8) (Prod.fst (Prod.snd x))) Tip.none, AV.int IntKind.i64 (Prod.snd (Prod.snd x))] ∧
          H' = [] ∧
            AWP Try.prog 68 n c7_4
              [(0, AV.str s), (1, AV.sl 1 (Seq.map encB (0 : UInt8) body) Tip.none), (2, AV.sl 1 (Seq.map encB (0 : UInt8) bs) Tip.none),
                (7, AV.str (Prod.fst x)), (8, AV.sl 1 (Seq.map encB (0 : UInt8) (Prod.fst (Prod.snd x))) Tip.none), (9, AV.int IntKind.i64 (Prod.snd (Prod.snd x)))]
              [] (q7_0 n Post)) →
    AWP Try.prog 68 n c7_3 [(0, AV.str s), (1, AV.sl 1 (Seq.map encB (0 : UInt8) body) Tip.none), (2, AV.sl 1 (Seq.map encB (0 : UInt8) bs) Tip.none)]
      [] (q7_0 n Post) := fun s body bs n Post h => Go.Ab.awp_sound g7 n _ _ _ _ (Go.Ab.kc (by kernel_rfl) h)
noncomputable def c7_5 : Go.Code := codeSnd c7_4
theorem v7_4 : ∀ (s : ByteArray) (body bs : List UInt8) (x : ByteArray) (y : List UInt8) (e : Int) (n : Nat) (Post : AV → List AObj → Prop),
  needP (allBytes (Seq.map encB (0 : UInt8) bs))
      (ASpec Try.prog 34 [AV.str (bytesOf (Seq.map encB (0 : UInt8) bs))] [] fun (r : AV) (H' : List AObj) =>
        ∃ (x_1 : ByteArray × ByteArray × Int),
          r = AV.tup [AV.str (Prod.fst x_1), AV.str (Prod.fst (Prod.snd x_1)), AV.int IntKind.i64 (Prod.snd (Prod.snd x_1))] ∧
            H' = [] ∧
              AWP Try.prog 68 n c7_5
                [(0, AV.str s), (1, AV.sl 1 (Seq.map encB (0 : UInt8) body) Tip.none), (7, AV.str x),
                  (8, AV.sl 1 (Seq.map encB (0 : UInt8) y) Tip.none), (9, AV.int IntKind.i64 e), (10, AV.str (Prod.fst x_1)),
                  (11, AV.str (Prod.fst (Prod.snd x_1))), (12, AV.int IntKind.i64 (Prod.snd (Prod.snd x_1)))]
                [] (q7_0 n Post)) →
    AWP Try.prog 68 n c7_4
      [(0, AV.str s), (1, AV.sl 1 (Seq.map encB (0 : UInt8) body) Tip.none), (2, AV.sl 1 (Seq.map encB (0 : UInt8) bs) Tip.none), (7, AV.str x),
        (8, AV.sl 1 (Seq.map encB (0 : UInt8) y) Tip.none), (9, AV.int IntKind.i64 e)]
      [] (q7_0 n Post) := fun s body bs x y e n Post h => Go.Ab.awp_sound g7 n _ _ _ _ (Go.Ab.kc (by kernel_rfl) h)
theorem v7_5 : ∀ (s : ByteArray) (body : List UInt8) (x : ByteArray) (y : List UInt8) (e : Int) (z w : ByteArray) (f : Int) (n : Nat) (Post : AV → List AObj → Prop),
  needP (allBytes (Seq.map encB (0 : UInt8) body))
      (ASpec Try.prog 35 [AV.str s, AV.sl 1 (Seq.map encB (0 : UInt8) body) Tip.none] [] fun (r : AV) (H' : List AObj) =>
        ∃ (x_1 : List UInt8),
          r = AV.sl 1 (Seq.map encB (0 : UInt8) x_1) Tip.none ∧
            H' = [] ∧
              needP (allBytes (Seq.map encB (0 : UInt8) x_1))
                (ASpec Try.prog 36 [AV.str s, AV.str (bytesOf (Seq.map encB (0 : UInt8) body))] [] fun (r : AV) (H' : List AObj) =>
                  ∃ (x_2 : ByteArray),
                    r = AV.str x_2 ∧
                      H' = [] ∧
                        condP (ByteArray.toList (bytesOf (Seq.map encB (0 : UInt8) x_1)) == ByteArray.toList x_2)
                          (condP (ByteArray.toList x == ByteArray.toList z)
                            (needP (allBytes (Seq.map encB (0 : UInt8) y))
                              (condP (ByteArray.toList (bytesOf (Seq.map encB (0 : UInt8) y)) == ByteArray.toList w)
                                (condP (e == f) (ASpec Try.prog 32 [] [] fun (r : AV) (H' : List AObj) => ∃ (x : Unit), r = AV.bool true ∧ H' = [] ∧ Post (AV.bool true) [])
                                  (Post (AV.bool false) []))
                                (Post (AV.bool false) [])))
                            (Post (AV.bool false) []))
                          (Post (AV.bool false) []))) →
    AWP Try.prog 68 n c7_5
      [(0, AV.str s), (1, AV.sl 1 (Seq.map encB (0 : UInt8) body) Tip.none), (7, AV.str x), (8, AV.sl 1 (Seq.map encB (0 : UInt8) y) Tip.none),
        (9, AV.int IntKind.i64 e), (10, AV.str z), (11, AV.str w), (12, AV.int IntKind.i64 f)]
      [] (q7_0 n Post) := fun s body x y e z w f n Post h => Go.Ab.awp_sound g7 n _ _ _ _ (Go.Ab.kc (by kernel_rfl) h)

end
end S
