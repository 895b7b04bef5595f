/- Printed: what the code of functions 165, 140, 90, 33, 8 asks for, by the framework's own reading of it; each line is checked against the code. -/
import Derived.Test.YtifbfcljgagacaaProg
import Derived.Test.YtifbfcljgagacaaVSeal
set_option linter.unusedVariables false
set_option maxRecDepth 100000
set_option maxHeartbeats 4000000
open Go Go.Ab Go.Proofs
namespace SM
noncomputable section

noncomputable def rets : FuncId → Ret := lookupR (S.retS ++ V.retL)

-- 165
noncomputable def l165 : Nat → List Nat
  | 2 => [0, 7, 8, 9]
  | _ => []
noncomputable def u165 : Nat → Bool
  | _ => false
noncomputable def m165 : Nat → Bool
  | _ => false
noncomputable def g165 : Cfg := { N := 20, live := l165, cut := u165, mu := m165, ret := rets }
noncomputable def c165 : Go.Code := Go.Ab.bodyOf Go.Proofs.Try.f165
noncomputable def q165_0 : Nat → (AV → List AObj → Prop) → AQ := fun (n : Nat) (Post : AV → List AObj → Prop) => endQ Try.prog (resultsOf Try.f165) Post
noncomputable def q165_1 : Nat → (AV → List AObj → Prop) → AQ := fun (n : Nat) (Post : AV → List AObj → Prop) => seqQ (fun (s' : Slots) (H' : List AObj) => awp Try.prog g165 n (codeSnd (codeSnd c165)) s' H' (q165_0 n Post)) (q165_0 n Post)
noncomputable def q165_2 : Nat → (AV → List AObj → Prop) → AQ := fun (n : Nat) (Post : AV → List AObj → Prop) => blockQ 0 (q165_1 n Post)
noncomputable def c165_2 : Go.Code := codeFst (codeSnd (codeFst (codeSnd c165)))
theorem s165 : ∀ (x : Int) (l : List UInt8) (k : Nat) (Post : AV → List AObj → Prop),
  AWP Try.prog 20 1 c165_2
      [(0, AV.int IntKind.u32 x), (7, AV.msl 1 0 0 k), (8, AV.int IntKind.i64 (↑k : Int)), (9, AV.int IntKind.i64 (0 : Int))]
      [AObj.arr 1 (Seq.map encB (0 : UInt8) l)] (q165_2 1 Post) →
    ASpec Try.prog 165 [AV.int IntKind.u32 x, AV.msl 1 0 0 k] [AObj.arr 1 (Seq.map encB (0 : UInt8) l)] Post := fun x l k Post h => Go.Ab.ASpec.of_vc g165 Go.Proofs.Try.func165 (by kernel_rfl) (by kernel_rfl) (by kernel_rfl) (Go.Ab.kc (by kernel_rfl) h)
theorem v165_2 : ∀ (x : Int) (l : List UInt8) (k : Nat) (n i : Int) (n_1 : Nat) (Post : AV → List AObj → Prop),
  condP (decide (i < n))
      (needP ((0 : Int) ≤ i ∧ i < (↑k : Int))
        (needP (0 + Int.toNat i < List.length l)
          (AWP Try.prog 20 n_1 c165_2
            [(0,
                AV.int IntKind.u32
                  (IntKind.wrap IntKind.u32
                    (IntKind.wrap IntKind.u32
                        (↑(BitVec.toNat (BitVec.ofInt 32 x ^^^ BitVec.ofInt 32 (IntKind.wrap IntKind.u32 (↑(UInt8.toNat (List.getD l (0 + Int.toNat i) (0 : UInt8))) : Int)))) :
                          Int) *
                      (16777619 : Int)))),
              (7, AV.msl 1 0 0 k), (8, AV.int IntKind.i64 n), (9, AV.int IntKind.i64 (IntKind.wrap IntKind.i64 (i + (1 : Int))))]
            [AObj.arr 1 (Seq.map encB (0 : UInt8) l)] (q165_2 n_1 Post))))
      (Post (AV.int IntKind.u32 x) [AObj.arr 1 (Seq.map encB (0 : UInt8) l)]) →
    AWP Try.prog 20 n_1 c165_2 [(0, AV.int IntKind.u32 x), (7, AV.msl 1 0 0 k), (8, AV.int IntKind.i64 n), (9, AV.int IntKind.i64 i)]
      [AObj.arr 1 (Seq.map encB (0 : UInt8) l)] (q165_2 n_1 Post) := fun x l k n i n Post h => Go.Ab.AWP.loop' g165 (Cfg.live g165) c165_2 (by kernel_rfl) (by kernel_rfl) (Go.Ab.kc (by kernel_rfl) h)

-- 140
noncomputable def l140 : Nat → List Nat
  | _ => []
noncomputable def u140 : Nat → Bool
  | _ => false
noncomputable def m140 : Nat → Bool
  | _ => false
noncomputable def g140 : Cfg := { N := 5, live := l140, cut := u140, mu := m140, ret := rets }
noncomputable def c140 : Go.Code := Go.Ab.bodyOf Go.Proofs.Try.f140
theorem s140 : ∀ (l : List UInt8) (k : Nat) (Post : AV → List AObj → Prop),
  (ASpec Try.prog 165 [AV.int IntKind.u32 (2166136261 : Int), AV.msl 1 0 0 k] [AObj.arr 1 (Seq.map encB (0 : UInt8) l)] fun (r : AV) (H' : List AObj) =>
      ∃ (x : Int), r = AV.int IntKind.u32 x ∧ H' = [AObj.arr 1 (Seq.map encB (0 : UInt8) l)] ∧ Post (AV.int IntKind.u32 x) [AObj.arr 1 (Seq.map encB (0 : UInt8) l)]) →
    ASpec Try.prog 140 [AV.msl 1 0 0 k] [AObj.arr 1 (Seq.map encB (0 : UInt8) l)] Post := fun l k Post h => Go.Ab.ASpec.of_vc g140 Go.Proofs.Try.func140 (by kernel_rfl) (by kernel_rfl) (by kernel_rfl) (Go.Ab.kc (by kernel_rfl) h)

-- 90
noncomputable def l90 : Nat → List Nat
  | 6 => [0, 4, 5, 15, 16, 17]
  | _ => []
noncomputable def u90 : Nat → Bool
  | _ => false
noncomputable def m90 : Nat → Bool
  | _ => false
noncomputable def g90 : Cfg := { N := 38, live := l90, cut := u90, mu := m90, ret := rets }
noncomputable def c90 : Go.Code := Go.Ab.bodyOf Go.Proofs.Try.f90
noncomputable def q90_0 : Nat → (AV → List AObj → Prop) → AQ := fun (n : Nat) (Post : AV → List AObj → Prop) => endQ Try.prog (resultsOf Try.f90) Post
noncomputable def q90_1 : Nat → (AV → List AObj → Prop) → AQ := fun (n : Nat) (Post : AV → List AObj → Prop) => seqQ (fun (s' : Slots) (H' : List AObj) => awp Try.prog g90 n (codeSnd (codeSnd (codeSnd (codeSnd (codeSnd c90))))) s' H' (q90_0 n Post)) (q90_0 n Post)
noncomputable def q90_2 : Nat → (AV → List AObj → Prop) → AQ := fun (n : Nat) (Post : AV → List AObj → Prop) => blockQ 0 (q90_1 n Post)
noncomputable def c90_6 : Go.Code := codeFst (codeSnd (codeFst (codeSnd (codeSnd (codeSnd (codeSnd c90))))))
theorem s90 : ∀ (l : List UInt8) (k : Nat) (Post : AV → List AObj → Prop),
  condP (decide (IntKind.wrap IntKind.i64 ((↑k : Int) - (4 : Int)) < (0 : Int))) (Post (AV.tup [AV.sl 0 (Seq.raw []) Tip.nil, AV.bool false]) [AObj.arr 1 (Seq.map encB (0 : UInt8) l)])
      (needP ((0 : Int) ≤ IntKind.wrap IntKind.i64 ((↑k : Int) - (4 : Int)) ∧ IntKind.wrap IntKind.i64 ((↑k : Int) - (4 : Int)) < (↑k : Int))
        (AWP Try.prog 38 1 c90_6
          [(0, AV.msl 1 0 0 k), (4, AV.int IntKind.i64 (IntKind.wrap IntKind.i64 ((↑k : Int) - (4 : Int)))), (5, AV.int IntKind.u32 (0 : Int)),
            (15, AV.msl 1 0 (0 + Int.toNat (IntKind.wrap IntKind.i64 ((↑k : Int) - (4 : Int)))) (k - Int.toNat (IntKind.wrap IntKind.i64 ((↑k : Int) - (4 : Int))))),
            (16, AV.int IntKind.i64 (↑(k - Int.toNat (IntKind.wrap IntKind.i64 ((↑k : Int) - (4 : Int)))) : Int)), (17, AV.int IntKind.i64 (0 : Int))]
          [AObj.arr 1 (Seq.map encB (0 : UInt8) l)] (q90_2 1 Post))) →
    ASpec Try.prog 90 [AV.msl 1 0 0 k] [AObj.arr 1 (Seq.map encB (0 : UInt8) l)] Post := fun l k Post h => Go.Ab.ASpec.of_vc g90 Go.Proofs.Try.func90 (by kernel_rfl) (by kernel_rfl) (by kernel_rfl) (Go.Ab.kc (by kernel_rfl) h)
theorem v90_6 : ∀ (l : List UInt8) (k : Nat) (n s : Int) (o q : Nat) (m i : Int) (n_1 : Nat) (Post : AV → List AObj → Prop),
  condP (decide (i < m))
      (needP ((0 : Int) ≤ i ∧ i < (↑q : Int))
        (needP (o + Int.toNat i < List.length l)
          (needP ((0 : Int) ≤ (8 : Int))
            (AWP Try.prog 38 n_1 c90_6
              [(0, AV.msl 1 0 0 k), (4, AV.int IntKind.i64 n),
                (5,
                  AV.int IntKind.u32
                    (IntKind.wrap IntKind.u32
                      (↑(BitVec.toNat
                            (BitVec.ofInt 32 (IntKind.wrap IntKind.u32 (s * (256 : Int))) |||
                              BitVec.ofInt 32 (IntKind.wrap IntKind.u32 (↑(UInt8.toNat (List.getD l (o + Int.toNat i) (0 : UInt8))) : Int)))) :
                        Int))),
                (15, AV.msl 1 0 o q), (16, AV.int IntKind.i64 m), (17, AV.int IntKind.i64 (IntKind.wrap IntKind.i64 (i + (1 : Int))))]
              [AObj.arr 1 (Seq.map encB (0 : UInt8) l)] (q90_2 n_1 Post)))))
      (needP ((0 : Int) ≤ n ∧ n ≤ (↑k : Int))
        (ASpec Try.prog 140 [AV.msl 1 0 0 (Int.toNat n)] [AObj.arr 1 (Seq.map encB (0 : UInt8) l)] fun (r : AV) (H' : List AObj) =>
          ∃ (x : Int),
            r = AV.int IntKind.u32 x ∧
              H' = [AObj.arr 1 (Seq.map encB (0 : UInt8) l)] ∧
                condP (s != x) (Post (AV.tup [AV.sl 0 (Seq.raw []) Tip.nil, AV.bool false]) [AObj.arr 1 (Seq.map encB (0 : UInt8) l)])
                  (needP ((0 : Int) ≤ n ∧ n ≤ (↑k : Int))
                    (needP (0 + Int.toNat n ≤ List.length l)
                      (needP (∀ (x : UInt8), List.all (encB x) oneAV = true)
                        (needP ((0 + List.length (List.drop 0 (List.take (0 + Int.toNat n) l))) * 1 ≤ 140737488351232)
                          (Post
                            (AV.tup [AV.sl 1 (Seq.app (Seq.raw []) (Seq.map encB (0 : UInt8) (List.drop 0 (List.take (0 + Int.toNat n) l)))) (Tip.tok 1), AV.bool true])
                            [AObj.arr 1 (Seq.map encB (0 : UInt8) l), AObj.tok]))))))) →
    AWP Try.prog 38 n_1 c90_6
      [(0, AV.msl 1 0 0 k), (4, AV.int IntKind.i64 n), (5, AV.int IntKind.u32 s), (15, AV.msl 1 0 o q),
        (16, AV.int IntKind.i64 m), (17, AV.int IntKind.i64 i)]
      [AObj.arr 1 (Seq.map encB (0 : UInt8) l)] (q90_2 n_1 Post) := fun l k n s o q m i n Post h => Go.Ab.AWP.loop' g90 (Cfg.live g90) c90_6 (by kernel_rfl) (by kernel_rfl) (Go.Ab.kc (by kernel_rfl) h)

-- 33
noncomputable def l33 : Nat → List Nat
  | _ => []
noncomputable def u33 : Nat → Bool
  | _ => false
noncomputable def m33 : Nat → Bool
  | _ => false
noncomputable def g33 : Cfg := { N := 37, live := l33, cut := u33, mu := m33, ret := rets }
noncomputable def c33 : Go.Code := Go.Ab.bodyOf Go.Proofs.Try.f33
theorem s33 : ∀ (l : List UInt8) (k : Nat) (Post : AV → List AObj → Prop),
  (ASpec Try.prog 90 [AV.msl 1 0 0 k] [AObj.arr 1 (Seq.map encB (0 : UInt8) l)] fun (r : AV) (H' : List AObj) =>
      ∃ (x : List UInt8 × Bool),
        r = AV.tup [AV.sl 1 (Seq.map encB (0 : UInt8) (Prod.fst x)) Tip.none, AV.bool (Prod.snd x)] ∧
          H' = [AObj.arr 1 (Seq.map encB (0 : UInt8) l)] ∧
            condP (!Prod.snd x) (Post (AV.tup [AV.str { data := #[] }, AV.sl 0 (Seq.raw []) Tip.nil, AV.int IntKind.i64 (8 : Int)]) [AObj.arr 1 (Seq.map encB (0 : UInt8) l)])
              (ASpec Try.prog 21 [AV.sl 1 (Seq.map encB (0 : UInt8) (Prod.fst x)) Tip.none] [AObj.arr 1 (Seq.map encB (0 : UInt8) l)] fun (r : AV) (H' : List AObj) =>
                ∃ (x : List UInt8),
                  r = AV.ptr 1 0 ∧
                    H' =
                        [AObj.arr 1 (Seq.map encB (0 : UInt8) l),
                          AObj.cells [AV.sl 1 (Seq.map encB (0 : UInt8) x) Tip.none, AV.int IntKind.i64 (0 : Int), AV.int IntKind.i64 (0 : Int)]] ∧
                      ASpec Try.prog 23 [AV.ptr 1 0, AV.int IntKind.i64 (24 : Int)]
                        [AObj.arr 1 (Seq.map encB (0 : UInt8) l),
                          AObj.cells [AV.sl 1 (Seq.map encB (0 : UInt8) x) Tip.none, AV.int IntKind.i64 (0 : Int), AV.int IntKind.i64 (0 : Int)]]
                        fun (r : AV) (H' : List AObj) =>
                        ∃ (x_1 : ByteArray × Int × Int),
                          r = AV.str (Prod.fst x_1) ∧
                            H' =
                                [AObj.arr 1 (Seq.map encB (0 : UInt8) l),
                                  AObj.cells [AV.sl 1 (Seq.map encB (0 : UInt8) x) Tip.none, AV.int IntKind.i64 (Prod.fst (Prod.snd x_1)), AV.int IntKind.i64 (Prod.snd (Prod.snd x_1))]] ∧
                              ASpec Try.prog 23 [AV.ptr 1 0, AV.int IntKind.i64 (8192 : Int)]
                                [AObj.arr 1 (Seq.map encB (0 : UInt8) l),
                                  AObj.cells [AV.sl 1 (Seq.map encB (0 : UInt8) x) Tip.none, AV.int IntKind.i64 (Prod.fst (Prod.snd x_1)), AV.int IntKind.i64 (Prod.snd (Prod.snd x_1))]]
                                fun (r : AV) (H' : List AObj) =>
                                ∃ (x_2 : ByteArray × Int × Int),
                                  r = AV.str (Prod.fst x_2) ∧
                                    H' =
                                        [AObj.arr 1 (Seq.map encB (0 : UInt8) l),
                                          AObj.cells
                                            [AV.sl 1 (Seq.map encB (0 : UInt8) x) Tip.none, AV.int IntKind.i64 (Prod.fst (Prod.snd x_2)), AV.int IntKind.i64 (Prod.snd (Prod.snd x_2))]] ∧
                                      ASpec Try.prog 30 [AV.ptr 1 0]
                                        [AObj.arr 1 (Seq.map encB (0 : UInt8) l),
                                          AObj.cells
                                            [AV.sl 1 (Seq.map encB (0 : UInt8) x) Tip.none, AV.int IntKind.i64 (Prod.fst (Prod.snd x_2)), AV.int IntKind.i64 (Prod.snd (Prod.snd x_2))]]
                                        fun (r : AV) (H' : List AObj) =>
                                        ∃ (x_3 : Int),
                                          r = AV.int IntKind.i64 x_3 ∧
                                            H' =
                                                [AObj.arr 1 (Seq.map encB (0 : UInt8) l),
                                                  AObj.cells
                                                    [AV.sl 1 (Seq.map encB (0 : UInt8) x) Tip.none, AV.int IntKind.i64 (Prod.fst (Prod.snd x_2)),
                                                      AV.int IntKind.i64 (Prod.snd (Prod.snd x_2))]] ∧
                                              condP (x_3 != (0 : Int))
                                                (Post (AV.tup [AV.str { data := #[] }, AV.sl 0 (Seq.raw []) Tip.nil, AV.int IntKind.i64 x_3])
                                                  [AObj.arr 1 (Seq.map encB (0 : UInt8) l),
                                                    AObj.cells
                                                      [AV.sl 1 (Seq.map encB (0 : UInt8) x) Tip.none, AV.int IntKind.i64 (Prod.fst (Prod.snd x_2)),
                                                        AV.int IntKind.i64 (Prod.snd (Prod.snd x_2))]])
                                                (ASpec Try.prog 91 [AV.str (Prod.fst x_1)]
                                                  [AObj.arr 1 (Seq.map encB (0 : UInt8) l),
                                                    AObj.cells
                                                      [AV.sl 1 (Seq.map encB (0 : UInt8) x) Tip.none, AV.int IntKind.i64 (Prod.fst (Prod.snd x_2)),
                                                        AV.int IntKind.i64 (Prod.snd (Prod.snd x_2))]]
                                                  fun (r : AV) (H' : List AObj) =>
                                                  ∃ (x_4 : Bool),
                                                    r = AV.bool x_4 ∧
                                                      H' =
                                                          [AObj.arr 1 (Seq.map encB (0 : UInt8) l),
                                                            AObj.cells
                                                              [AV.sl 1 (Seq.map encB (0 : UInt8) x) Tip.none, AV.int IntKind.i64 (Prod.fst (Prod.snd x_2)),
                                                                AV.int IntKind.i64 (Prod.snd (Prod.snd x_2))]] ∧
                                                        condP (!x_4)
                                                          (Post (AV.tup [AV.str { data := #[] }, AV.sl 0 (Seq.raw []) Tip.nil, AV.int IntKind.i64 (3 : Int)])
                                                            [AObj.arr 1 (Seq.map encB (0 : UInt8) l),
                                                              AObj.cells
                                                                [AV.sl 1 (Seq.map encB (0 : UInt8) x) Tip.none, AV.int IntKind.i64 (Prod.fst (Prod.snd x_2)),
                                                                  AV.int IntKind.i64 (Prod.snd (Prod.snd x_2))]])
                                                          (Post (AV.tup [AV.str (Prod.fst x_1), AV.sl 1 (bytesSeq (Prod.fst x_2)) Tip.none, AV.int IntKind.i64 (0 : Int)])
                                                            [AObj.arr 1 (Seq.map encB (0 : UInt8) l),
                                                              AObj.cells
                                                                [AV.sl 1 (Seq.map encB (0 : UInt8) x) Tip.none, AV.int IntKind.i64 (Prod.fst (Prod.snd x_2)),
                                                                  AV.int IntKind.i64 (Prod.snd (Prod.snd x_2))]])))) →
    ASpec Try.prog 33 [AV.msl 1 0 0 k] [AObj.arr 1 (Seq.map encB (0 : UInt8) l)] Post := fun l k Post h => Go.Ab.ASpec.of_vc g33 Go.Proofs.Try.func33 (by kernel_rfl) (by kernel_rfl) (by kernel_rfl) (Go.Ab.kc (by kernel_rfl) h)

-- 8
noncomputable def l8 : Nat → List Nat
  | 3 => [0, 1, 2]
  | 5 => [0, 1, 2, 7, 8, 9, 10]
  | 7 => [2, 7]
  | 9 => [7]
  | _ => []
noncomputable def u8 : Nat → Bool
  | 3 => true
  | 5 => true
  | 7 => true
  | 9 => true
  | _ => false
noncomputable def m8 : Nat → Bool
  | 33 => true
  | _ => false
noncomputable def g8 : Cfg := { N := 93, live := l8, cut := u8, mu := m8, ret := rets }
noncomputable def c8 : Go.Code := Go.Ab.bodyOf Go.Proofs.Try.f8
noncomputable def q8_0 : Nat → (AV → List AObj → Prop) → AQ := fun (n : Nat) (Post : AV → List AObj → Prop) => endQ Try.prog (resultsOf Try.f8) Post
noncomputable def c8_3 : Go.Code := codeSnd (codeSnd c8)
theorem s8 : ∀ (s : ByteArray) (body : List UInt8) (a : Int) (Post : AV → List AObj → Prop),
  condP (decide ((↑(ByteArray.size s) : Int) > (200 : Int))) (ASpec Try.prog 32 [] [] fun (r : AV) (H' : List AObj) => ∃ (x : Unit), r = AV.bool true ∧ H' = [] ∧ Post (AV.bool true) [])
      (ASpec Try.prog 37 [AV.str s] [] fun (r : AV) (H' : List AObj) =>
        ∃ (x : Bool),
          r = AV.bool x ∧
            H' = [] ∧
              condP (!x) (ASpec Try.prog 32 [] [] fun (r : AV) (H' : List AObj) => ∃ (x : Unit), r = AV.bool true ∧ H' = [] ∧ Post (AV.bool true) [])
                (condP (decide ((↑(List.length body) : Int) > (5000 : Int)))
                  (ASpec Try.prog 32 [] [] fun (r : AV) (H' : List AObj) => ∃ (x : Unit), r = AV.bool true ∧ H' = [] ∧ Post (AV.bool true) [])
                  (AWP Try.prog 93 0 c8_3 [(0, AV.str s), (1, AV.sl 1 (Seq.map encB (0 : UInt8) body) Tip.none), (2, AV.int IntKind.u16 a)] []
                    (q8_0 0 Post)))) →
    ASpec Try.prog 8 [AV.str s, AV.sl 1 (Seq.map encB (0 : UInt8) body) Tip.none, AV.int IntKind.u16 a] [] Post := fun s body a Post h => Go.Ab.ASpec.of_vc g8 Go.Proofs.Try.func8 (by kernel_rfl) (by kernel_rfl) (by kernel_rfl) (Go.Ab.kc (by kernel_rfl) h)
noncomputable def c8_5 : Go.Code := codeSnd (codeSnd c8_3)
theorem v8_3 : ∀ (s : ByteArray) (body : List UInt8) (a : Int) (n : Nat) (Post : AV → List AObj → Prop),
  (ASpec Try.prog 35 [AV.str s, AV.sl 1 (Seq.map encB (0 : UInt8) body) Tip.none] [] fun (r : AV) (H' : List AObj) =>
      ∃ (x : List UInt8),
        r = AV.sl 1 (Seq.map encB (0 : UInt8) x) Tip.none ∧
          H' = [] ∧
            needP (∀ (x : UInt8), List.all (encB x) oneAV = true)
              (needP ((0 + List.length x) * 1 ≤ 140737488351232)
                (needP (1 ≤ List.length x)
                  (ASpec Try.prog 33 [AV.msl 1 0 0 (List.length x)] [AObj.arr 1 (Seq.map encB (0 : UInt8) x)] fun (r : AV) (H' : List AObj) =>
                    ∃ (x_1 : ByteArray × List UInt8 × Int),
                      r = AV.tup [AV.str (Prod.fst x_1), AV.sl 1 (Seq.map encB (0 : UInt8) (Prod.fst (Prod.snd x_1))) Tip.none, AV.int IntKind.i64 (Prod.snd (Prod.snd x_1))] ∧
                        H' = [AObj.arr 1 (Seq.map encB (0 : UInt8) x)] ∧
                          AWP Try.prog 93 n c8_5
                            [(0, AV.str s), (1, AV.sl 1 (Seq.map encB (0 : UInt8) body) Tip.none), (2, AV.int IntKind.u16 a),
                              (7, AV.msl 1 0 0 (List.length x)), (8, AV.str (Prod.fst x_1)),
                              (9, AV.sl 1 (Seq.map encB (0 : UInt8) (Prod.fst (Prod.snd x_1))) Tip.none), (10, AV.int IntKind.i64 (Prod.snd (Prod.snd x_1)))]
                            [AObj.arr 1 (Seq.map encB (0 : UInt8) x)] (q8_0 n Post))))) →
    AWP Try.prog 93 n c8_3 [(0, AV.str s), (1, AV.sl 1 (Seq.map encB (0 : UInt8) body) Tip.none), (2, AV.int IntKind.u16 a)] [] (q8_0 n Post) := fun s body a n Post h => Go.Ab.awp_sound g8 n _ _ _ _ (Go.Ab.kc (by kernel_rfl) h)
noncomputable def c8_7 : Go.Code := codeSnd c8_5
theorem v8_5 : ∀ (s : ByteArray) (body : List UInt8) (a : Int) (l : List UInt8) (k : Nat) (x : ByteArray) (y : List UInt8) (e : Int) (n : Nat) (Post : AV → List AObj → Prop),
  condP (e != (0 : Int)) (Post (AV.bool false) [AObj.arr 1 (Seq.map encB (0 : UInt8) l)])
      (condP (!ByteArray.toList x == ByteArray.toList s) (Post (AV.bool false) [AObj.arr 1 (Seq.map encB (0 : UInt8) l)])
        (needP (allBytes (Seq.map encB (0 : UInt8) y))
          (needP (allBytes (Seq.map encB (0 : UInt8) body))
            (condP (!ByteArray.toList (bytesOf (Seq.map encB (0 : UInt8) y)) == ByteArray.toList (bytesOf (Seq.map encB (0 : UInt8) body)))
              (Post (AV.bool false) [AObj.arr 1 (Seq.map encB (0 : UInt8) l)])
              (condP (decide ((↑k : Int) < (6 : Int))) (Post (AV.bool false) [AObj.arr 1 (Seq.map encB (0 : UInt8) l)])
                (AWP Try.prog 93 n c8_7 [(2, AV.int IntKind.u16 a), (7, AV.msl 1 0 0 k)] [AObj.arr 1 (Seq.map encB (0 : UInt8) l)]
                  (q8_0 n Post))))))) →
    AWP Try.prog 93 n c8_5
      [(0, AV.str s), (1, AV.sl 1 (Seq.map encB (0 : UInt8) body) Tip.none), (2, AV.int IntKind.u16 a), (7, AV.msl 1 0 0 k),
        (8, AV.str x), (9, AV.sl 1 (Seq.map encB (0 : UInt8) y) Tip.none), (10, AV.int IntKind.i64 e)]
      [AObj.arr 1 (Seq.map encB (0 : UInt8) l)] (q8_0 n Post) := fun s body a l k x y e n Post h => Go.Ab.awp_sound g8 n _ _ _ _ (Go.Ab.kc (by kernel_rfl) h)
noncomputable def c8_9 : Go.Code := codeSnd (codeSnd c8_7)
theorem v8_7 : ∀ (a : Int) (l : List UInt8) (k n : Nat) (Post : AV → List AObj → Prop),
  needP ((↑k : Int) ≠ (0 : Int))
      (needP ((0 : Int) ≤ Int.tmod (IntKind.wrap IntKind.i64 a) (↑k : Int) ∧ Int.tmod (IntKind.wrap IntKind.i64 a) (↑k : Int) < (↑k : Int))
        (needP (0 + Int.toNat (Int.tmod (IntKind.wrap IntKind.i64 a) (↑k : Int)) < List.length l)
          (needP ((256 : Int) ≠ (0 : Int))
            (needP ((255 : Int) ≠ (0 : Int))
              (needP ((0 : Int) ≤ Int.tmod (IntKind.wrap IntKind.i64 a) (↑k : Int) ∧ Int.tmod (IntKind.wrap IntKind.i64 a) (↑k : Int) < (↑k : Int))
                (needP (0 + Int.toNat (Int.tmod (IntKind.wrap IntKind.i64 a) (↑k : Int)) < List.length l)
                  (AWP Try.prog 93 n c8_9 [(7, AV.msl 1 0 0 k)]
                    [AObj.arr 1
                        (Seq.raw
                          (List.set (Seq.toList (Seq.map encB (0 : UInt8) l)) (0 + Int.toNat (Int.tmod (IntKind.wrap IntKind.i64 a) (↑k : Int)))
                            (splice (encB (List.getD l (0 + Int.toNat (Int.tmod (IntKind.wrap IntKind.i64 a) (↑k : Int))) (0 : UInt8))) 0
                              [ev
                                  [(76, AV.mptr 1 0 (0 + Int.toNat (Int.tmod (IntKind.wrap IntKind.i64 a) (↑k : Int))) 0),
                                    (75,
                                      AV.int IntKind.u8
                                        (IntKind.wrap IntKind.u8
                                          (IntKind.wrap IntKind.u8
                                              ((↑(UInt8.toNat (List.getD l (0 + Int.toNat (Int.tmod (IntKind.wrap IntKind.i64 a) (↑k : Int))) (0 : UInt8))) : Int) + (1 : Int)) +
                                            Int.tmod (IntKind.wrap IntKind.u8 (IntKind.wrap IntKind.u16 (Int.tdiv a (256 : Int)))) (255 : Int)))),
                                    (74, AV.int IntKind.u8 (Int.tmod (IntKind.wrap IntKind.u8 (IntKind.wrap IntKind.u16 (Int.tdiv a (256 : Int)))) (255 : Int))),
                                    (73, AV.int IntKind.u8 (IntKind.wrap IntKind.u8 (IntKind.wrap IntKind.u16 (Int.tdiv a (256 : Int))))),
                                    (72, AV.int IntKind.u16 (IntKind.wrap IntKind.u16 (Int.tdiv a (256 : Int)))), (71, AV.int IntKind.u16 a),
                                    (70,
                                      AV.int IntKind.u8
                                        (IntKind.wrap IntKind.u8
                                          ((↑(UInt8.toNat (List.getD l (0 + Int.toNat (Int.tmod (IntKind.wrap IntKind.i64 a) (↑k : Int))) (0 : UInt8))) : Int) + (1 : Int)))),
                                    (69, AV.int IntKind.u8 (↑(UInt8.toNat (List.getD l (0 + Int.toNat (Int.tmod (IntKind.wrap IntKind.i64 a) (↑k : Int))) (0 : UInt8))) : Int)),
                                    (68, AV.mptr 1 0 (0 + Int.toNat (Int.tmod (IntKind.wrap IntKind.i64 a) (↑k : Int))) 0),
                                    (67, AV.int IntKind.i64 (Int.tmod (IntKind.wrap IntKind.i64 a) (↑k : Int))), (66, AV.msl 1 0 0 k),
                                    (65, AV.int IntKind.i64 (Int.tmod (IntKind.wrap IntKind.i64 a) (↑k : Int))), (64, AV.msl 1 0 0 k),
                                    (11, AV.int IntKind.i64 (Int.tmod (IntKind.wrap IntKind.i64 a) (↑k : Int))),
                                    (63, AV.int IntKind.i64 (Int.tmod (IntKind.wrap IntKind.i64 a) (↑k : Int))), (62, AV.int IntKind.i64 (↑k : Int)),
                                    (61, AV.msl 1 0 0 k), (60, AV.int IntKind.i64 (IntKind.wrap IntKind.i64 a)), (59, AV.int IntKind.u16 a),
                                    (2, AV.int IntKind.u16 a), (7, AV.msl 1 0 0 k)]
                                  (Operand.tmp 75)])))]
                    (q8_0 n Post)))))))) →
    AWP Try.prog 93 n c8_7 [(2, AV.int IntKind.u16 a), (7, AV.msl 1 0 0 k)] [AObj.arr 1 (Seq.map encB (0 : UInt8) l)] (q8_0 n Post) := fun a l k n Post h => Go.Ab.awp_sound g8 n _ _ _ _ (Go.Ab.kc (by kernel_rfl) h)
theorem v8_9 : ∀ (l : List UInt8) (n : Nat) (Post : AV → List AObj → Prop),
  (ASpec Try.prog 33 [AV.sl 1 (Seq.map encB (0 : UInt8) l) Tip.none] [] fun (r : AV) (H' : List AObj) =>
      ∃ (x : ByteArray × List UInt8 × Int),
        r = AV.tup [AV.str (Prod.fst x), AV.sl 1 (Seq.map encB (0 : UInt8) (Prod.fst (Prod.snd x))) Tip.none, AV.int IntKind.i64 (Prod.snd (Prod.snd x))] ∧
          H' = [] ∧
            condP (Prod.snd (Prod.snd x) == (8 : Int))
              (condP ((↑(List.length (Prod.fst (Prod.snd x))) : Int) == (0 : Int))
                (ASpec Try.prog 32 [] [] fun (r : AV) (H' : List AObj) => ∃ (x : Unit), r = AV.bool true ∧ H' = [] ∧ Post (AV.bool true) []) (Post (AV.bool false) []))
              (Post (AV.bool false) [])) →
    AWP Try.prog 93 n c8_9 [(7, AV.sl 1 (Seq.map encB (0 : UInt8) l) Tip.none)] [] (q8_0 n Post) := fun l n Post h => Go.Ab.awp_sound g8 n _ _ _ _ (Go.Ab.kc (by kernel_rfl) h)

end
end SM
