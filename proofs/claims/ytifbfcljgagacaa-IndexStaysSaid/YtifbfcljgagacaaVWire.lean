/- Printed: what the code of functions 42, 107, 43, 98, 99, 101, 100, 104, 103, 102, 40, 106, 41, 39, 9, 10 asks for, by the framework's own reading of it; each line is checked against the code. -/
import Derived.Test.YtifbfcljgagacaaProg
import Derived.Test.YtifbfcljgagacaaVChk
set_option linter.unusedVariables false
set_option maxRecDepth 100000
set_option maxHeartbeats 4000000
open Go Go.Ab Go.Proofs
namespace W
noncomputable section

noncomputable def updC (args : List AV) (H : List AObj) (p e : Int) : List AObj := match args with
  | .ptr c _ :: _ => match H[c]? with
    | some (.cells [.ptr id off]) => V.upd3 [.ptr id off] H p e
    | _ => H
  | _ => H
noncomputable def tl (args : List AV) : List AV := match args with
  | _ :: r => r
  | _ => []
noncomputable def HR (bs : List UInt8) (p e : Int) : List AObj := [V.rd bs p e, .cells [.ptr 0 0], .cells [.fn 98 [.ptr 1 0]], .cells [.fn 99 [.ptr 1 0]], .cells [.fn 100 [.ptr 2 0, .ptr 1 0, .ptr 3 0]]]
noncomputable def retW : List (Nat × Ret) := [
  (39, ⟨Unit, fun _ _ _ => .bool true, fun _ H _ => H⟩),
  (40, ⟨T.Mani × Int, fun _ _ x => .tup [.agg (T.encM x.1), .int .i64 x.2], fun _ H _ => H⟩),
  (41, ⟨T.Mani × Int, fun _ _ x => .tup [.agg (T.encM x.1), .int .i64 x.2], fun _ H _ => H⟩),
  (42, ⟨List UInt8, fun _ _ x => .sl 1 (.map encB 0 x) .none, fun _ H _ => H⟩),
  (43, ⟨ByteArray, fun _ _ x => .str x, fun _ H _ => H⟩),
  (98, ⟨ByteArray × Int × Int, fun _ _ x => .str x.1, fun a H x => updC a H x.2.1 x.2.2⟩),
  (99, ⟨T.Span × Int × Int, fun _ _ x => .agg (T.encS x.1), fun a H x => updC a H x.2.1 x.2.2⟩),
  (100, ⟨T.Need × Int × Int, fun _ _ x => .agg (T.encN x.1), fun a H x => updC (tl a) H x.2.1 x.2.2⟩),
  (103, ⟨T.Rel × Int × Int, fun _ _ x => .agg (T.encR x.1), fun a H x => updC a H x.2.1 x.2.2⟩),
  (101, ⟨List T.Span × Int × Int, fun _ _ x => .sl 2 (.map T.encS (0, 0) x.1) .none, fun a H x => V.upd3 a H x.2.1 x.2.2⟩),
  (104, ⟨List T.Need × Int × Int, fun _ _ x => .sl 2 (.map T.encN ([], []) x.1) .none, fun a H x => V.upd3 a H x.2.1 x.2.2⟩),
  (102, ⟨List T.Rel × Int × Int, fun _ _ x => .sl 2 (.map T.encR (0, []) x.1) .none, fun a H x => V.upd3 a H x.2.1 x.2.2⟩),
  (106, ⟨List T.Need × ByteArray × Int, fun _ _ x => .sl 2 (.map T.encN ([], []) x.1) .none, fun a H x => V.upd2 a H x.2.1 x.2.2⟩),
  (107, ⟨ByteArray, fun _ _ x => .str x, fun _ H _ => H⟩)]
noncomputable def rets : FuncId → List Ret := lookupR (retW ++ C.retC ++ V.retL)

-- 42
noncomputable def l42 : Nat → List Nat
  | 5 => [3, 22, 23, 24]
  | 9 => [3, 22, 23, 24, 37, 38, 39]
  | 13 => [3, 22, 23, 24, 37, 38, 39, 53, 54, 55]
  | _ => []
noncomputable def u42 : Nat → Bool
  | _ => false
noncomputable def m42 : Nat → Bool
  | _ => false
noncomputable def g42 : Cfg := { N := 73, live := l42, cut := u42, mu := m42, ret := rets }
noncomputable def c42 : Go.Code := Go.Ab.bodyOf Go.Proofs.Try.f42
noncomputable def q42_0 : Nat → (AV → List AObj → Prop) → AQ := fun (n : Nat) (Post : AV → List AObj → Prop) => endQ Try.prog (resultsOf Try.f42) Post
noncomputable def q42_1 : Nat → (AV → List AObj → Prop) → AQ := fun (n : Nat) (Post : AV → List AObj → Prop) => seqQ (fun (s' : Slots) (H' : List AObj) => awp Try.prog g42 n (codeSnd (codeSnd (codeSnd (codeSnd c42)))) s' H' (q42_0 n Post)) (q42_0 n Post)
noncomputable def q42_2 : Nat → (AV → List AObj → Prop) → AQ := fun (n : Nat) (Post : AV → List AObj → Prop) => blockQ 0 (q42_1 n Post)
noncomputable def c42_5 : Go.Code := codeFst (codeSnd (codeFst (codeSnd (codeSnd (codeSnd c42)))))
theorem s42 : ∀ (m : T.Mani) (Post : AV → List AObj → Prop),
  (ASpec Try.prog 105 [AV.agg [AV.str { data := List.toArray (Prod.fst m) }, AV.sl 2 (Seq.map T.encR ((0 : Int), []) (Prod.snd m)) Tip.none]]
      [AObj.cells [AV.str { data := List.toArray (Prod.fst m) }, AV.sl 2 (Seq.map T.encR ((0 : Int), []) (Prod.snd m)) Tip.none]] fun (r : AV) (H' : List AObj) =>
      ∃ (x : Bool),
        r = AV.bool x ∧
          H' = [AObj.cells [AV.str { data := List.toArray (Prod.fst m) }, AV.sl 2 (Seq.map T.encR ((0 : Int), []) (Prod.snd m)) Tip.none]] ∧
            condP (!x) (Post (AV.sl 0 (Seq.raw []) Tip.nil) [AObj.cells [AV.str { data := List.toArray (Prod.fst m) }, AV.sl 2 (Seq.map T.encR ((0 : Int), []) (Prod.snd m)) Tip.none]])
              (ASpec Try.prog 18 [AV.sl 0 (Seq.raw []) Tip.nil, AV.str { data := List.toArray (Prod.fst m) }]
                [AObj.cells [AV.str { data := List.toArray (Prod.fst m) }, AV.sl 2 (Seq.map T.encR ((0 : Int), []) (Prod.snd m)) Tip.none]] fun (r : AV) (H' : List AObj) =>
                ∃ (x : List UInt8),
                  r = AV.sl 1 (Seq.map encB (0 : UInt8) x) (Tip.tok 1) ∧
                    H' = [AObj.cells [AV.str { data := List.toArray (Prod.fst m) }, AV.sl 2 (Seq.map T.encR ((0 : Int), []) (Prod.snd m)) Tip.none], AObj.tok] ∧
                      (AV.int IntKind.i64 (↑(List.length (Prod.snd m)) : Int) = AV.int IntKind.i64 (↑(List.length (Prod.snd m)) : Int) ∧
                          [AObj.cells [AV.str { data := List.toArray (Prod.fst m) }, AV.sl 2 (Seq.map T.encR ((0 : Int), []) (Prod.snd m)) Tip.none], AObj.tok] =
                            [AObj.cells [AV.str { data := List.toArray (Prod.fst m) }, AV.sl 2 (Seq.map T.encR ((0 : Int), []) (Prod.snd m)) Tip.none], AObj.tok]) ∧
                        (AV.sl 2 (Seq.map T.encR ((0 : Int), []) (Prod.snd m)) Tip.none = AV.sl 2 (Seq.map T.encR ((0 : Int), []) (Prod.snd m)) Tip.none ∧
                            [AObj.cells [AV.str { data := List.toArray (Prod.fst m) }, AV.sl 2 (Seq.map T.encR ((0 : Int), []) (Prod.snd m)) Tip.none], AObj.tok] =
                              [AObj.cells [AV.str { data := List.toArray (Prod.fst m) }, AV.sl 2 (Seq.map T.encR ((0 : Int), []) (Prod.snd m)) Tip.none], AObj.tok]) ∧
                          ASpec Try.prog 17
                            [AV.sl 1 (Seq.map encB (0 : UInt8) x) (Tip.tok 1), AV.sl 1 (Seq.raw [[AV.int IntKind.i64 (↑(List.length (Prod.snd m)) : Int)]]) Tip.full]
                            [AObj.cells [AV.str { data := List.toArray (Prod.fst m) }, AV.sl 2 (Seq.map T.encR ((0 : Int), []) (Prod.snd m)) Tip.none], AObj.tok]
                            fun (r : AV) (H' : List AObj) =>
                            ∃ (x : List UInt8),
                              r = AV.sl 1 (Seq.map encB (0 : UInt8) x) (Tip.tok 2) ∧
                                H' = [AObj.cells [AV.str { data := List.toArray (Prod.fst m) }, AV.sl 2 (Seq.map T.encR ((0 : Int), []) (Prod.snd m)) Tip.none], AObj.tok, AObj.tok] ∧
                                  AWP Try.prog 73 0 c42_5
                                    [(3, AV.sl 1 (Seq.map encB (0 : UInt8) x) (Tip.tok 2)),
                                      (22, AV.sl 2 (Seq.map T.encR ((0 : Int), []) (Prod.snd m)) Tip.none), (23, AV.int IntKind.i64 (↑(List.length (Prod.snd m)) : Int)),
                                      (24, AV.int IntKind.i64 (0 : Int))]
                                    [AObj.cells [AV.str { data := List.toArray (Prod.fst m) }, AV.sl 2 (Seq.map T.encR ((0 : Int), []) (Prod.snd m)) Tip.none], AObj.tok, AObj.tok]
                                    (q42_2 0 Post))) →
    ASpec Try.prog 42 [AV.agg (T.encM m)] [] Post := fun m Post h => Go.Ab.ASpec.of_vc g42 Go.Proofs.Try.func42 (by kernel_rfl) (by kernel_rfl) (by kernel_rfl) (Go.Ab.kc (by kernel_rfl) h)
noncomputable def q42_3 : Nat → (AV → List AObj → Prop) → AQ := fun (n : Nat) (Post : AV → List AObj → Prop) => loopQ Try.prog 73 n c42_5 (q42_2 n Post) (Cfg.live g42)
noncomputable def q42_4 : Nat → (AV → List AObj → Prop) → AQ := fun (n : Nat) (Post : AV → List AObj → Prop) => seqQ (fun (s' : Slots) (H' : List AObj) => awp Try.prog g42 n (codeSnd (codeSnd (codeSnd (codeFst c42_5)))) s' H' (q42_3 n Post)) (q42_3 n Post)
noncomputable def q42_5 : Nat → (AV → List AObj → Prop) → AQ := fun (n : Nat) (Post : AV → List AObj → Prop) => blockQ 1 (q42_4 n Post)
noncomputable def q42_6 : Nat → (AV → List AObj → Prop) → AQ := fun (n : Nat) (Post : AV → List AObj → Prop) => blockQ 2 (q42_5 n Post)
noncomputable def c42_9 : Go.Code := codeFst (codeSnd (codeSnd (codeSnd (codeFst (codeFst (codeSnd (codeSnd (codeFst c42_5))))))))
theorem v42_5 : ∀ (b : List UInt8) (rs : List T.Rel) (n i : Int) (n_1 : Nat) (Post : AV → List AObj → Prop),
  condP (decide (i < n))
      (needP ((0 : Int) ≤ i ∧ i < (↑(List.length rs) : Int))
        (ASpec Try.prog 17
          [AV.sl 1 (Seq.map encB (0 : UInt8) b) Tip.none,
            AV.sl 1
              (Seq.raw
                [[AV.int IntKind.i64 (Prod.fst (List.getD rs (Int.toNat i) ((0 : Int), [])))], [AV.int IntKind.i64 (↑(List.length (Prod.snd (List.getD rs (Int.toNat i) ((0 : Int), [])))) : Int)]])
              Tip.full]
          [AObj.cells
              [AV.int IntKind.i64 (Prod.fst (List.getD rs (Int.toNat i) ((0 : Int), []))), AV.sl 2 (Seq.map T.encN ([], []) (Prod.snd (List.getD rs (Int.toNat i) ((0 : Int), [])))) Tip.none]]
          fun (r : AV) (H' : List AObj) =>
          ∃ (x : List UInt8),
            r = AV.sl 1 (Seq.map encB (0 : UInt8) x) (Tip.tok 1) ∧
              H' =
                  [AObj.cells
                      [AV.int IntKind.i64 (Prod.fst (List.getD rs (Int.toNat i) ((0 : Int), []))),
                        AV.sl 2 (Seq.map T.encN ([], []) (Prod.snd (List.getD rs (Int.toNat i) ((0 : Int), [])))) Tip.none],
                    AObj.tok] ∧
                AWP Try.prog 73 n_1 c42_9
                  [(3, AV.sl 1 (Seq.map encB (0 : UInt8) x) (Tip.tok 1)), (22, AV.sl 2 (Seq.map T.encR ((0 : Int), []) rs) Tip.none),
                    (23, AV.int IntKind.i64 n), (24, AV.int IntKind.i64 i),
                    (37, AV.sl 2 (Seq.map T.encN ([], []) (Prod.snd (List.getD rs (Int.toNat i) ((0 : Int), [])))) Tip.none),
                    (38, AV.int IntKind.i64 (↑(List.length (Prod.snd (List.getD rs (Int.toNat i) ((0 : Int), [])))) : Int)), (39, AV.int IntKind.i64 (0 : Int))]
                  [AObj.cells
                      [AV.int IntKind.i64 (Prod.fst (List.getD rs (Int.toNat i) ((0 : Int), []))),
                        AV.sl 2 (Seq.map T.encN ([], []) (Prod.snd (List.getD rs (Int.toNat i) ((0 : Int), [])))) Tip.none],
                    AObj.tok]
                  (q42_6 n_1 Post)))
      (Post (AV.sl 1 (Seq.map encB (0 : UInt8) b) Tip.none) []) →
    AWP Try.prog 73 n_1 c42_5
      [(3, AV.sl 1 (Seq.map encB (0 : UInt8) b) Tip.none), (22, AV.sl 2 (Seq.map T.encR ((0 : Int), []) rs) Tip.none), (23, AV.int IntKind.i64 n),
        (24, AV.int IntKind.i64 i)]
      [] (q42_2 n_1 Post) := fun b rs n i n Post h => Go.Ab.AWP.loop' g42 (Cfg.live g42) c42_5 (by kernel_rfl) (by kernel_rfl) (Go.Ab.kc (by kernel_rfl) h)
noncomputable def q42_7 : Nat → (AV → List AObj → Prop) → AQ := fun (n : Nat) (Post : AV → List AObj → Prop) => loopQ Try.prog 73 n c42_9 (q42_6 n Post) (Cfg.live g42)
noncomputable def q42_8 : Nat → (AV → List AObj → Prop) → AQ := fun (n : Nat) (Post : AV → List AObj → Prop) => seqQ (fun (s' : Slots) (H' : List AObj) => awp Try.prog g42 n (codeSnd (codeSnd (codeSnd (codeFst c42_9)))) s' H' (q42_7 n Post)) (q42_7 n Post)
noncomputable def q42_9 : Nat → (AV → List AObj → Prop) → AQ := fun (n : Nat) (Post : AV → List AObj → Prop) => blockQ 3 (q42_8 n Post)
noncomputable def q42_10 : Nat → (AV → List AObj → Prop) → AQ := fun (n : Nat) (Post : AV → List AObj → Prop) => blockQ 4 (q42_9 n Post)
noncomputable def c42_13 : Go.Code := codeFst (codeSnd (codeSnd (codeSnd (codeFst (codeFst (codeSnd (codeSnd (codeFst c42_9))))))))
theorem v42_9 : ∀ (b : List UInt8) (rs : List T.Rel) (n i : Int) (ns : List T.Need) (n2 i2 : Int) (n_1 : Nat) (Post : AV → List AObj → Prop),
  condP (decide (i2 < n2))
      (needP ((0 : Int) ≤ i2 ∧ i2 < (↑(List.length ns) : Int))
        (ASpec Try.prog 18 [AV.sl 1 (Seq.map encB (0 : UInt8) b) Tip.none, AV.str { data := List.toArray (Prod.fst (List.getD ns (Int.toNat i2) ([], []))) }]
          [AObj.cells
              [AV.str { data := List.toArray (Prod.fst (List.getD ns (Int.toNat i2) ([], []))) },
                AV.sl 2 (Seq.map T.encS ((0 : Int), (0 : Int)) (Prod.snd (List.getD ns (Int.toNat i2) ([], [])))) Tip.none]]
          fun (r : AV) (H' : List AObj) =>
          ∃ (x : List UInt8),
            r = AV.sl 1 (Seq.map encB (0 : UInt8) x) (Tip.tok 1) ∧
              H' =
                  [AObj.cells
                      [AV.str { data := List.toArray (Prod.fst (List.getD ns (Int.toNat i2) ([], []))) },
                        AV.sl 2 (Seq.map T.encS ((0 : Int), (0 : Int)) (Prod.snd (List.getD ns (Int.toNat i2) ([], [])))) Tip.none],
                    AObj.tok] ∧
                (AV.int IntKind.i64 (↑(List.length (Prod.snd (List.getD ns (Int.toNat i2) ([], [])))) : Int) =
                      AV.int IntKind.i64 (↑(List.length (Prod.snd (List.getD ns (Int.toNat i2) ([], [])))) : Int) ∧
                    [AObj.cells
                          [AV.str { data := List.toArray (Prod.fst (List.getD ns (Int.toNat i2) ([], []))) },
                            AV.sl 2 (Seq.map T.encS ((0 : Int), (0 : Int)) (Prod.snd (List.getD ns (Int.toNat i2) ([], [])))) Tip.none],
                        AObj.tok] =
                      [AObj.cells
                          [AV.str { data := List.toArray (Prod.fst (List.getD ns (Int.toNat i2) ([], []))) },
                            AV.sl 2 (Seq.map T.encS ((0 : Int), (0 : Int)) (Prod.snd (List.getD ns (Int.toNat i2) ([], [])))) Tip.none],
                        AObj.tok]) ∧
                  (AV.sl 2 (Seq.map T.encS ((0 : Int), (0 : Int)) (Prod.snd (List.getD ns (Int.toNat i2) ([], [])))) Tip.none =
                        AV.sl 2 (Seq.map T.encS ((0 : Int), (0 : Int)) (Prod.snd (List.getD ns (Int.toNat i2) ([], [])))) Tip.none ∧
                      [AObj.cells
                            [AV.str { data := List.toArray (Prod.fst (List.getD ns (Int.toNat i2) ([], []))) },
                              AV.sl 2 (Seq.map T.encS ((0 : Int), (0 : Int)) (Prod.snd (List.getD ns (Int.toNat i2) ([], [])))) Tip.none],
                          AObj.tok] =
                        [AObj.cells
                            [AV.str { data := List.toArray (Prod.fst (List.getD ns (Int.toNat i2) ([], []))) },
                              AV.sl 2 (Seq.map T.encS ((0 : Int), (0 : Int)) (Prod.snd (List.getD ns (Int.toNat i2) ([], [])))) Tip.none],
                          AObj.tok]) ∧
                    ASpec Try.prog 17
                      [AV.sl 1 (Seq.map encB (0 : UInt8) x) (Tip.tok 1),
                        AV.sl 1 (Seq.raw [[AV.int IntKind.i64 (↑(List.length (Prod.snd (List.getD ns (Int.toNat i2) ([], [])))) : Int)]]) Tip.full]
                      [AObj.cells
                          [AV.str { data := List.toArray (Prod.fst (List.getD ns (Int.toNat i2) ([], []))) },
                            AV.sl 2 (Seq.map T.encS ((0 : Int), (0 : Int)) (Prod.snd (List.getD ns (Int.toNat i2) ([], [])))) Tip.none],
                        AObj.tok]
                      fun (r : AV) (H' : List AObj) =>
                      ∃ (x : List UInt8),
                        r = AV.sl 1 (Seq.map encB (0 : UInt8) x) (Tip.tok 2) ∧
                          H' =
                              [AObj.cells
                                  [AV.str { data := List.toArray (Prod.fst (List.getD ns (Int.toNat i2) ([], []))) },
                                    AV.sl 2 (Seq.map T.encS ((0 : Int), (0 : Int)) (Prod.snd (List.getD ns (Int.toNat i2) ([], [])))) Tip.none],
                                AObj.tok, AObj.tok] ∧
                            AWP Try.prog 73 n_1 c42_13
                              [(3, AV.sl 1 (Seq.map encB (0 : UInt8) x) (Tip.tok 2)), (22, AV.sl 2 (Seq.map T.encR ((0 : Int), []) rs) Tip.none),
                                (23, AV.int IntKind.i64 n), (24, AV.int IntKind.i64 i), (37, AV.sl 2 (Seq.map T.encN ([], []) ns) Tip.none),
                                (38, AV.int IntKind.i64 n2), (39, AV.int IntKind.i64 i2),
                                (53, AV.sl 2 (Seq.map T.encS ((0 : Int), (0 : Int)) (Prod.snd (List.getD ns (Int.toNat i2) ([], [])))) Tip.none),
                                (54, AV.int IntKind.i64 (↑(List.length (Prod.snd (List.getD ns (Int.toNat i2) ([], [])))) : Int)), (55, AV.int IntKind.i64 (0 : Int))]
                              [AObj.cells
                                  [AV.str { data := List.toArray (Prod.fst (List.getD ns (Int.toNat i2) ([], []))) },
                                    AV.sl 2 (Seq.map T.encS ((0 : Int), (0 : Int)) (Prod.snd (List.getD ns (Int.toNat i2) ([], [])))) Tip.none],
                                AObj.tok, AObj.tok]
                              (q42_10 n_1 Post)))
      (AWP Try.prog 73 n_1 c42_5
        [(3, AV.sl 1 (Seq.map encB (0 : UInt8) b) Tip.none), (22, AV.sl 2 (Seq.map T.encR ((0 : Int), []) rs) Tip.none), (23, AV.int IntKind.i64 n),
          (24, AV.int IntKind.i64 (IntKind.wrap IntKind.i64 (i + (1 : Int))))]
        [] (q42_2 n_1 Post)) →
    AWP Try.prog 73 n_1 c42_9
      [(3, AV.sl 1 (Seq.map encB (0 : UInt8) b) Tip.none), (22, AV.sl 2 (Seq.map T.encR ((0 : Int), []) rs) Tip.none), (23, AV.int IntKind.i64 n),
        (24, AV.int IntKind.i64 i), (37, AV.sl 2 (Seq.map T.encN ([], []) ns) Tip.none), (38, AV.int IntKind.i64 n2), (39, AV.int IntKind.i64 i2)]
      [] (q42_6 n_1 Post) := fun b rs n i ns n2 i2 n Post h => Go.Ab.AWP.loop' g42 (Cfg.live g42) c42_9 (by kernel_rfl) (by kernel_rfl) (Go.Ab.kc (by kernel_rfl) h)
theorem v42_13 : ∀ (b : List UInt8) (rs : List T.Rel) (n i : Int) (ns : List T.Need) (n2 i2 : Int) (ss : List T.Span) (n3 i3 : Int) (n_1 : Nat) (Post : AV → List AObj → Prop),
  condP (decide (i3 < n3))
      (needP ((0 : Int) ≤ i3 ∧ i3 < (↑(List.length ss) : Int))
        (ASpec Try.prog 17
          [AV.sl 1 (Seq.map encB (0 : UInt8) b) Tip.none,
            AV.sl 1
              (Seq.raw
                [[AV.int IntKind.i64 (Prod.fst (List.getD ss (Int.toNat i3) ((0 : Int), (0 : Int))))],
                  [AV.int IntKind.i64 (IntKind.wrap IntKind.i64 (Prod.snd (List.getD ss (Int.toNat i3) ((0 : Int), (0 : Int))) - Prod.fst (List.getD ss (Int.toNat i3) ((0 : Int), (0 : Int)))))]])
              Tip.full]
          [AObj.cells [AV.int IntKind.i64 (Prod.fst (List.getD ss (Int.toNat i3) ((0 : Int), (0 : Int)))), AV.int IntKind.i64 (Prod.snd (List.getD ss (Int.toNat i3) ((0 : Int), (0 : Int))))]]
          fun (r : AV) (H' : List AObj) =>
          ∃ (x : List UInt8),
            r = AV.sl 1 (Seq.map encB (0 : UInt8) x) (Tip.tok 1) ∧
              H' =
                  [AObj.cells [AV.int IntKind.i64 (Prod.fst (List.getD ss (Int.toNat i3) ((0 : Int), (0 : Int)))), AV.int IntKind.i64 (Prod.snd (List.getD ss (Int.toNat i3) ((0 : Int), (0 : Int))))],
                    AObj.tok] ∧
                AWP Try.prog 73 n_1 c42_13
                  [(3, AV.sl 1 (Seq.map encB (0 : UInt8) x) (Tip.tok 1)), (22, AV.sl 2 (Seq.map T.encR ((0 : Int), []) rs) Tip.none),
                    (23, AV.int IntKind.i64 n), (24, AV.int IntKind.i64 i), (37, AV.sl 2 (Seq.map T.encN ([], []) ns) Tip.none), (38, AV.int IntKind.i64 n2),
                    (39, AV.int IntKind.i64 i2), (53, AV.sl 2 (Seq.map T.encS ((0 : Int), (0 : Int)) ss) Tip.none), (54, AV.int IntKind.i64 n3),
                    (55, AV.int IntKind.i64 (IntKind.wrap IntKind.i64 (i3 + (1 : Int))))]
                  [AObj.cells [AV.int IntKind.i64 (Prod.fst (List.getD ss (Int.toNat i3) ((0 : Int), (0 : Int)))), AV.int IntKind.i64 (Prod.snd (List.getD ss (Int.toNat i3) ((0 : Int), (0 : Int))))],
                    AObj.tok]
                  (q42_10 n_1 Post)))
      (AWP Try.prog 73 n_1 c42_9
        [(3, AV.sl 1 (Seq.map encB (0 : UInt8) b) Tip.none), (22, AV.sl 2 (Seq.map T.encR ((0 : Int), []) rs) Tip.none), (23, AV.int IntKind.i64 n),
          (24, AV.int IntKind.i64 i), (37, AV.sl 2 (Seq.map T.encN ([], []) ns) Tip.none), (38, AV.int IntKind.i64 n2),
          (39, AV.int IntKind.i64 (IntKind.wrap IntKind.i64 (i2 + (1 : Int))))]
        [] (q42_6 n_1 Post)) →
    AWP Try.prog 73 n_1 c42_13
      [(3, AV.sl 1 (Seq.map encB (0 : UInt8) b) Tip.none), (22, AV.sl 2 (Seq.map T.encR ((0 : Int), []) rs) Tip.none), (23, AV.int IntKind.i64 n),
        (24, AV.int IntKind.i64 i), (37, AV.sl 2 (Seq.map T.encN ([], []) ns) Tip.none), (38, AV.int IntKind.i64 n2), (39, AV.int IntKind.i64 i2),
        (53, AV.sl 2 (Seq.map T.encS ((0 : Int), (0 : Int)) ss) Tip.none), (54, AV.int IntKind.i64 n3), (55, AV.int IntKind.i64 i3)]
      [] (q42_10 n_1 Post) := fun b rs n i ns n2 i2 ss n3 i3 n Post h => Go.Ab.AWP.loop' g42 (Cfg.live g42) c42_13 (by kernel_rfl) (by kernel_rfl) (Go.Ab.kc (by kernel_rfl) h)

-- 107
noncomputable def l107 : Nat → List Nat
  | 3 => [0, 3, 4]
  | 7 => [0, 3, 4, 5]
  | _ => []
noncomputable def u107 : Nat → Bool
  | _ => false
noncomputable def m107 : Nat → Bool
  | _ => false
noncomputable def g107 : Cfg := { N := 63, live := l107, cut := u107, mu := m107, ret := rets }
noncomputable def c107 : Go.Code := Go.Ab.bodyOf Go.Proofs.Try.f107
noncomputable def q107_0 : Nat → (AV → List AObj → Prop) → AQ := fun (n : Nat) (Post : AV → List AObj → Prop) => endQ Try.prog (resultsOf Try.f107) Post
noncomputable def q107_1 : Nat → (AV → List AObj → Prop) → AQ := fun (n : Nat) (Post : AV → List AObj → Prop) => seqQ (fun (s' : Slots) (H' : List AObj) => awp Try.prog g107 n (codeSnd (codeSnd (codeSnd c107))) s' H' (q107_0 n Post)) (q107_0 n Post)
noncomputable def q107_2 : Nat → (AV → List AObj → Prop) → AQ := fun (n : Nat) (Post : AV → List AObj → Prop) => blockQ 0 (q107_1 n Post)
noncomputable def c107_3 : Go.Code := codeFst (codeSnd (codeFst (codeSnd (codeSnd c107))))
theorem s107 : ∀ (l : List T.Need) (Post : AV → List AObj → Prop),
  (ASpec Try.prog 87 [AV.int IntKind.i64 (↑(List.length l) : Int)] [] fun (r : AV) (H' : List AObj) =>
      ∃ (x : ByteArray),
        r = AV.str x ∧
          H' = [] ∧
            AWP Try.prog 63 0 c107_3 [(0, AV.sl 2 (Seq.map T.encN ([], []) l) Tip.none), (3, AV.str x), (4, AV.int IntKind.i64 (0 : Int))] []
              (q107_2 0 Post)) →
    ASpec Try.prog 107 [AV.sl 2 (Seq.map T.encN ([], []) l) Tip.none] [] Post := fun l Post h => Go.Ab.ASpec.of_vc g107 Go.Proofs.Try.func107 (by kernel_rfl) (by kernel_rfl) (by kernel_rfl) (Go.Ab.kc (by kernel_rfl) h)
noncomputable def q107_3 : Nat → (AV → List AObj → Prop) → AQ := fun (n : Nat) (Post : AV → List AObj → Prop) => loopQ Try.prog 63 n c107_3 (q107_2 n Post) (Cfg.live g107)
noncomputable def q107_4 : Nat → (AV → List AObj → Prop) → AQ := fun (n : Nat) (Post : AV → List AObj → Prop) => seqQ (fun (s' : Slots) (H' : List AObj) => awp Try.prog g107 n (codeSnd (codeSnd (codeFst c107_3))) s' H' (q107_3 n Post)) (q107_3 n Post)
noncomputable def q107_5 : Nat → (AV → List AObj → Prop) → AQ := fun (n : Nat) (Post : AV → List AObj → Prop) => blockQ 1 (q107_4 n Post)
noncomputable def q107_6 : Nat → (AV → List AObj → Prop) → AQ := fun (n : Nat) (Post : AV → List AObj → Prop) => blockQ 2 (q107_5 n Post)
noncomputable def c107_7 : Go.Code := codeFst (codeSnd (codeSnd (codeFst (codeFst (codeSnd (codeFst c107_3))))))
theorem v107_3 : ∀ (l : List T.Need) (s : ByteArray) (i : Int) (n : Nat) (Post : AV → List AObj → Prop),
  condP (decide (i < (↑(List.length l) : Int)))
      (needP ((0 : Int) ≤ i ∧ i < (↑(List.length l) : Int))
        (needP ((0 : Int) ≤ i ∧ i < (↑(List.length l) : Int))
          (ASpec Try.prog 20 [AV.str { data := List.toArray (Prod.fst (List.getD l (Int.toNat i) ([], []))) }] [] fun (r : AV) (H' : List AObj) =>
            ∃ (x : ByteArray),
              r = AV.str x ∧
                H' = [] ∧
                  (AV.int IntKind.i64 (↑(List.length (Prod.snd (List.getD l (Int.toNat i) ([], [])))) : Int) =
                        AV.int IntKind.i64 (↑(List.length (Prod.snd (List.getD l (Int.toNat i) ([], [])))) : Int) ∧
                      ([] : List AObj) = []) ∧
                    (AV.sl 2 (Seq.map T.encS ((0 : Int), (0 : Int)) (Prod.snd (List.getD l (Int.toNat i) ([], [])))) Tip.none =
                          AV.sl 2 (Seq.map T.encS ((0 : Int), (0 : Int)) (Prod.snd (List.getD l (Int.toNat i) ([], [])))) Tip.none ∧
                        ([] : List AObj) = []) ∧
                      needP ((↑(ByteArray.size s + ByteArray.size x) : Int) ≤ (9223372036854775807 : Int))
                        (ASpec Try.prog 87 [AV.int IntKind.i64 (↑(List.length (Prod.snd (List.getD l (Int.toNat i) ([], [])))) : Int)] [] fun (r : AV) (H' : List AObj) =>
                          ∃ (x_1 : ByteArray),
                            r = AV.str x_1 ∧
                              H' = [] ∧
                                needP ((↑(ByteArray.size (s ++ x) + ByteArray.size x_1) : Int) ≤ (9223372036854775807 : Int))
                                  (AWP Try.prog 63 n c107_7
                                    [(0, AV.sl 2 (Seq.map T.encN ([], []) l) Tip.none), (3, AV.str (s ++ x ++ x_1)), (4, AV.int IntKind.i64 i),
                                      (5, AV.int IntKind.i64 (0 : Int))]
                                    [] (q107_6 n Post))))))
      (Post (AV.str s) []) →
    AWP Try.prog 63 n c107_3 [(0, AV.sl 2 (Seq.map T.encN ([], []) l) Tip.none), (3, AV.str s), (4, AV.int IntKind.i64 i)] [] (q107_2 n Post) := fun l s i n Post h => Go.Ab.AWP.loop' g107 (Cfg.live g107) c107_3 (by kernel_rfl) (by kernel_rfl) (Go.Ab.kc (by kernel_rfl) h)
theorem v107_7 : ∀ (l : List T.Need) (s : ByteArray) (i k : Int) (n : Nat) (Post : AV → List AObj → Prop),
  needP ((0 : Int) ≤ i ∧ i < (↑(List.length l) : Int))
      (condP (decide (k < (↑(List.length (Prod.snd (List.getD l (Int.toNat i) ([], [])))) : Int)))
        (needP ((0 : Int) ≤ i ∧ i < (↑(List.length l) : Int))
          (needP ((0 : Int) ≤ k ∧ k < (↑(List.length (Prod.snd (List.getD l (Int.toNat i) ([], [])))) : Int))
            (ASpec Try.prog 87 [AV.int IntKind.i64 (Prod.fst (List.getD (Prod.snd (List.getD l (Int.toNat i) ([], []))) (Int.toNat k) ((0 : Int), (0 : Int))))]
              [AObj.cells
                  [AV.int IntKind.i64 (Prod.fst (List.getD (Prod.snd (List.getD l (Int.toNat i) ([], []))) (Int.toNat k) ((0 : Int), (0 : Int)))),
                    AV.int IntKind.i64 (Prod.snd (List.getD (Prod.snd (List.getD l (Int.toNat i) ([], []))) (Int.toNat k) ((0 : Int), (0 : Int))))]]
              fun (r : AV) (H' : List AObj) =>
              ∃ (x : ByteArray),
                r = AV.str x ∧
                  H' =
                      [AObj.cells
                          [AV.int IntKind.i64 (Prod.fst (List.getD (Prod.snd (List.getD l (Int.toNat i) ([], []))) (Int.toNat k) ((0 : Int), (0 : Int)))),
                            AV.int IntKind.i64 (Prod.snd (List.getD (Prod.snd (List.getD l (Int.toNat i) ([], []))) (Int.toNat k) ((0 : Int), (0 : Int))))]] ∧
                    (AV.int IntKind.i64 (Prod.fst (List.getD (Prod.snd (List.getD l (Int.toNat i) ([], []))) (Int.toNat k) ((0 : Int), (0 : Int)))) =
                          AV.int IntKind.i64 (Prod.fst (List.getD (Prod.snd (List.getD l (Int.toNat i) ([], []))) (Int.toNat k) ((0 : Int), (0 : Int)))) ∧
                        [AObj.cells
                              [AV.int IntKind.i64 (Prod.fst (List.getD (Prod.snd (List.getD l (Int.toNat i) ([], []))) (Int.toNat k) ((0 : Int), (0 : Int)))),
                                AV.int IntKind.i64 (Prod.snd (List.getD (Prod.snd (List.getD l (Int.toNat i) ([], []))) (Int.toNat k) ((0 : Int), (0 : Int))))]] =
                          [AObj.cells
                              [AV.int IntKind.i64 (Prod.fst (List.getD (Prod.snd (List.getD l (Int.toNat i) ([], []))) (Int.toNat k) ((0 : Int), (0 : Int)))),
                                AV.int IntKind.i64 (Prod.snd (List.getD (Prod.snd (List.getD l (Int.toNat i) ([], []))) (Int.toNat k) ((0 : Int), (0 : Int))))]]) ∧
                      (AV.int IntKind.i64 (Prod.snd (List.getD (Prod.snd (List.getD l (Int.toNat i) ([], []))) (Int.toNat k) ((0 : Int), (0 : Int)))) =
                            AV.int IntKind.i64 (Prod.snd (List.getD (Prod.snd (List.getD l (Int.toNat i) ([], []))) (Int.toNat k) ((0 : Int), (0 : Int)))) ∧
                          [AObj.cells
                                [AV.int IntKind.i64 (Prod.fst (List.getD (Prod.snd (List.getD l (Int.toNat i) ([], []))) (Int.toNat k) ((0 : Int), (0 : Int)))),
                                  AV.int IntKind.i64 (Prod.snd (List.getD (Prod.snd (List.getD l (Int.toNat i) ([], []))) (Int.toNat k) ((0 : Int), (0 : Int))))]] =
                            [AObj.cells
                                [AV.int IntKind.i64 (Prod.fst (List.getD (Prod.snd (List.getD l (Int.toNat i) ([], []))) (Int.toNat k) ((0 : Int), (0 : Int)))),
                                  AV.int IntKind.i64 (Prod.snd (List.getD (Prod.snd (List.getD l (Int.toNat i) ([], []))) (Int.toNat k) ((0 : Int), (0 : Int))))]]) ∧
                        needP ((↑(ByteArray.size s + ByteArray.size x) : Int) ≤ (9223372036854775807 : Int))
                          (ASpec Try.prog 87
                            [AV.int IntKind.i64
                                (IntKind.wrap IntKind.i64
                                  (Prod.snd (List.getD (Prod.snd (List.getD l (Int.toNat i) ([], []))) (Int.toNat k) ((0 : Int), (0 : Int))) -
                                    Prod.fst (List.getD (Prod.snd (List.getD l (Int.toNat i) ([], []))) (Int.toNat k) ((0 : Int), (0 : Int)))))]
                            [AObj.cells
                                [AV.int IntKind.i64 (Prod.fst (List.getD (Prod.snd (List.getD l (Int.toNat i) ([], []))) (Int.toNat k) ((0 : Int), (0 : Int)))),
                                  AV.int IntKind.i64 (Prod.snd (List.getD (Prod.snd (List.getD l (Int.toNat i) ([], []))) (Int.toNat k) ((0 : Int), (0 : Int))))]]
                            fun (r : AV) (H' : List AObj) =>
                            ∃ (x_1 : ByteArray),
                              r = AV.str x_1 ∧
                                H' =
                                    [AObj.cells
                                        [AV.int IntKind.i64 (Prod.fst (List.getD (Prod.snd (List.getD l (Int.toNat i) ([], []))) (Int.toNat k) ((0 : Int), (0 : Int)))),
                                          AV.int IntKind.i64 (Prod.snd (List.getD (Prod.snd (List.getD l (Int.toNat i) ([], []))) (Int.toNat k) ((0 : Int), (0 : Int))))]] ∧
                                  needP ((↑(ByteArray.size (s ++ x) + ByteArray.size x_1) : Int) ≤ (9223372036854775807 : Int))
                                    (AWP Try.prog 63 n c107_7
                                      [(0, AV.sl 2 (Seq.map T.encN ([], []) l) Tip.none), (3, AV.str (s ++ x ++ x_1)), (4, AV.int IntKind.i64 i),
                                        (5, AV.int IntKind.i64 (IntKind.wrap IntKind.i64 (k + (1 : Int))))]
                                      [AObj.cells
                                          [AV.int IntKind.i64 (Prod.fst (List.getD (Prod.snd (List.getD l (Int.toNat i) ([], []))) (Int.toNat k) ((0 : Int), (0 : Int)))),
                                            AV.int IntKind.i64 (Prod.snd (List.getD (Prod.snd (List.getD l (Int.toNat i) ([], []))) (Int.toNat k) ((0 : Int), (0 : Int))))]]
                                      (q107_6 n Post))))))
        (AWP Try.prog 63 n c107_3
          [(0, AV.sl 2 (Seq.map T.encN ([], []) l) Tip.none), (3, AV.str s), (4, AV.int IntKind.i64 (IntKind.wrap IntKind.i64 (i + (1 : Int))))] [] (q107_2 n Post))) →
    AWP Try.prog 63 n c107_7 [(0, AV.sl 2 (Seq.map T.encN ([], []) l) Tip.none), (3, AV.str s), (4, AV.int IntKind.i64 i), (5, AV.int IntKind.i64 k)] []
      (q107_6 n Post) := fun l s i k n Post h => Go.Ab.AWP.loop' g107 (Cfg.live g107) c107_7 (by kernel_rfl) (by kernel_rfl) (Go.Ab.kc (by kernel_rfl) h)

-- 43
noncomputable def l43 : Nat → List Nat
  | 5 => [1, 3, 4]
  | _ => []
noncomputable def u43 : Nat → Bool
  | _ => false
noncomputable def m43 : Nat → Bool
  | _ => false
noncomputable def g43 : Cfg := { N := 41, live := l43, cut := u43, mu := m43, ret := rets }
noncomputable def c43 : Go.Code := Go.Ab.bodyOf Go.Proofs.Try.f43
noncomputable def q43_0 : Nat → (AV → List AObj → Prop) → AQ := fun (n : Nat) (Post : AV → List AObj → Prop) => endQ Try.prog (resultsOf Try.f43) Post
noncomputable def q43_1 : Nat → (AV → List AObj → Prop) → AQ := fun (n : Nat) (Post : AV → List AObj → Prop) => seqQ (fun (s' : Slots) (H' : List AObj) => awp Try.prog g43 n (codeSnd (codeSnd (codeSnd (codeSnd c43)))) s' H' (q43_0 n Post)) (q43_0 n Post)
noncomputable def q43_2 : Nat → (AV → List AObj → Prop) → AQ := fun (n : Nat) (Post : AV → List AObj → Prop) => blockQ 0 (q43_1 n Post)
noncomputable def c43_5 : Go.Code := codeFst (codeSnd (codeFst (codeSnd (codeSnd (codeSnd c43)))))
theorem s43 : ∀ (m : T.Mani) (Post : AV → List AObj → Prop),
  (ASpec Try.prog 45 [AV.agg [AV.str { data := List.toArray (Prod.fst m) }, AV.sl 2 (Seq.map T.encR ((0 : Int), []) (Prod.snd m)) Tip.none]]
      [AObj.cells [AV.str { data := List.toArray (Prod.fst m) }, AV.sl 2 (Seq.map T.encR ((0 : Int), []) (Prod.snd m)) Tip.none]] fun (r : AV) (H' : List AObj) =>
      ∃ (x : Bool),
        r = AV.bool x ∧
          H' = [AObj.cells [AV.str { data := List.toArray (Prod.fst m) }, AV.sl 2 (Seq.map T.encR ((0 : Int), []) (Prod.snd m)) Tip.none]] ∧
            condP (!x) (Post (AV.str { data := #[] }) [AObj.cells [AV.str { data := List.toArray (Prod.fst m) }, AV.sl 2 (Seq.map T.encR ((0 : Int), []) (Prod.snd m)) Tip.none]])
              (ASpec Try.prog 20 [AV.str { data := List.toArray (Prod.fst m) }]
                [AObj.cells [AV.str { data := List.toArray (Prod.fst m) }, AV.sl 2 (Seq.map T.encR ((0 : Int), []) (Prod.snd m)) Tip.none]] fun (r : AV) (H' : List AObj) =>
                ∃ (x : ByteArray),
                  r = AV.str x ∧
                    H' = [AObj.cells [AV.str { data := List.toArray (Prod.fst m) }, AV.sl 2 (Seq.map T.encR ((0 : Int), []) (Prod.snd m)) Tip.none]] ∧
                      (AV.int IntKind.i64 (↑(List.length (Prod.snd m)) : Int) = AV.int IntKind.i64 (↑(List.length (Prod.snd m)) : Int) ∧
                          [AObj.cells [AV.str { data := List.toArray (Prod.fst m) }, AV.sl 2 (Seq.map T.encR ((0 : Int), []) (Prod.snd m)) Tip.none]] =
                            [AObj.cells [AV.str { data := List.toArray (Prod.fst m) }, AV.sl 2 (Seq.map T.encR ((0 : Int), []) (Prod.snd m)) Tip.none]]) ∧
                        (AV.sl 2 (Seq.map T.encR ((0 : Int), []) (Prod.snd m)) Tip.none = AV.sl 2 (Seq.map T.encR ((0 : Int), []) (Prod.snd m)) Tip.none ∧
                            [AObj.cells [AV.str { data := List.toArray (Prod.fst m) }, AV.sl 2 (Seq.map T.encR ((0 : Int), []) (Prod.snd m)) Tip.none]] =
                              [AObj.cells [AV.str { data := List.toArray (Prod.fst m) }, AV.sl 2 (Seq.map T.encR ((0 : Int), []) (Prod.snd m)) Tip.none]]) ∧
                          ASpec Try.prog 87 [AV.int IntKind.i64 (↑(List.length (Prod.snd m)) : Int)]
                            [AObj.cells [AV.str { data := List.toArray (Prod.fst m) }, AV.sl 2 (Seq.map T.encR ((0 : Int), []) (Prod.snd m)) Tip.none]] fun (r : AV) (H' : List AObj) =>
                            ∃ (x_1 : ByteArray),
                              r = AV.str x_1 ∧
                                H' = [AObj.cells [AV.str { data := List.toArray (Prod.fst m) }, AV.sl 2 (Seq.map T.encR ((0 : Int), []) (Prod.snd m)) Tip.none]] ∧
                                  needP ((↑(ByteArray.size x + ByteArray.size x_1) : Int) ≤ (9223372036854775807 : Int))
                                    (AWP Try.prog 41 0 c43_5 [(1, AV.ptr 0 0), (3, AV.str (x ++ x_1)), (4, AV.int IntKind.i64 (0 : Int))]
                                      [AObj.cells [AV.str { data := List.toArray (Prod.fst m) }, AV.sl 2 (Seq.map T.encR ((0 : Int), []) (Prod.snd m)) Tip.none]] (q43_2 0 Post)))) →
    ASpec Try.prog 43 [AV.agg (T.encM m)] [] Post := fun m Post h => Go.Ab.ASpec.of_vc g43 Go.Proofs.Try.func43 (by kernel_rfl) (by kernel_rfl) (by kernel_rfl) (Go.Ab.kc (by kernel_rfl) h)
theorem v43_5 : ∀ (m : T.Mani) (s : ByteArray) (i : Int) (n : Nat) (Post : AV → List AObj → Prop),
  condP (decide (i < (↑(List.length (Prod.snd m)) : Int)))
      (needP ((0 : Int) ≤ i ∧ i < (↑(List.length (Prod.snd m)) : Int))
        (needP ((0 : Int) ≤ i ∧ i < (↑(List.length (Prod.snd m)) : Int))
          (ASpec Try.prog 87 [AV.int IntKind.i64 (Prod.fst (List.getD (Prod.snd m) (Int.toNat i) ((0 : Int), [])))]
            [AObj.cells [AV.str { data := List.toArray (Prod.fst m) }, AV.sl 2 (Seq.map T.encR ((0 : Int), []) (Prod.snd m)) Tip.none]] fun (r : AV) (H' : List AObj) =>
            ∃ (x : ByteArray),
              r = AV.str x ∧
                H' = [AObj.cells [AV.str { data := List.toArray (Prod.fst m) }, AV.sl 2 (Seq.map T.encR ((0 : Int), []) (Prod.snd m)) Tip.none]] ∧
                  (AV.sl 2 (Seq.map T.encN ([], []) (Prod.snd (List.getD (Prod.snd m) (Int.toNat i) ((0 : Int), [])))) Tip.none =
                        AV.sl 2 (Seq.map T.encN ([], []) (Prod.snd (List.getD (Prod.snd m) (Int.toNat i) ((0 : Int), [])))) Tip.none ∧
                      [AObj.cells [AV.str { data := List.toArray (Prod.fst m) }, AV.sl 2 (Seq.map T.encR ((0 : Int), []) (Prod.snd m)) Tip.none]] =
                        [AObj.cells [AV.str { data := List.toArray (Prod.fst m) }, AV.sl 2 (Seq.map T.encR ((0 : Int), []) (Prod.snd m)) Tip.none]]) ∧
                    (AV.sl 2 (Seq.map T.encR ((0 : Int), []) (Prod.snd m)) Tip.none = AV.sl 2 (Seq.map T.encR ((0 : Int), []) (Prod.snd m)) Tip.none ∧
                        [AObj.cells [AV.str { data := List.toArray (Prod.fst m) }, AV.sl 2 (Seq.map T.encR ((0 : Int), []) (Prod.snd m)) Tip.none]] =
                          [AObj.cells [AV.str { data := List.toArray (Prod.fst m) }, AV.sl 2 (Seq.map T.encR ((0 : Int), []) (Prod.snd m)) Tip.none]]) ∧
                      needP ((↑(ByteArray.size s + ByteArray.size x) : Int) ≤ (9223372036854775807 : Int))
                        (ASpec Try.prog 107 [AV.sl 2 (Seq.map T.encN ([], []) (Prod.snd (List.getD (Prod.snd m) (Int.toNat i) ((0 : Int), [])))) Tip.none]
                          [AObj.cells [AV.str { data := List.toArray (Prod.fst m) }, AV.sl 2 (Seq.map T.encR ((0 : Int), []) (Prod.snd m)) Tip.none]] fun (r : AV) (H' : List AObj) =>
                          ∃ (x_1 : ByteArray),
                            r = AV.str x_1 ∧
                              H' = [AObj.cells [AV.str { data := List.toArray (Prod.fst m) }, AV.sl 2 (Seq.map T.encR ((0 : Int), []) (Prod.snd m)) Tip.none]] ∧
                                needP ((↑(ByteArray.size (s ++ x) + ByteArray.size x_1) : Int) ≤ (9223372036854775807 : Int))
                                  (AWP Try.prog 41 n c43_5
                                    [(1, AV.ptr 0 0), (3, AV.str (s ++ x ++ x_1)), (4, AV.int IntKind.i64 (IntKind.wrap IntKind.i64 (i + (1 : Int))))]
                                    [AObj.cells [AV.str { data := List.toArray (Prod.fst m) }, AV.sl 2 (Seq.map T.encR ((0 : Int), []) (Prod.snd m)) Tip.none]] (q43_2 n Post))))))
      (Post (AV.str s) [AObj.cells [AV.str { data := List.toArray (Prod.fst m) }, AV.sl 2 (Seq.map T.encR ((0 : Int), []) (Prod.snd m)) Tip.none]]) →
    AWP Try.prog 41 n c43_5 [(1, AV.ptr 0 0), (3, AV.str s), (4, AV.int IntKind.i64 i)] [AObj.cells (T.encM m)] (q43_2 n Post) := fun m s i n Post h => Go.Ab.AWP.loop' g43 (Cfg.live g43) c43_5 (by kernel_rfl) (by kernel_rfl) (Go.Ab.kc (by kernel_rfl) h)

-- 98
noncomputable def l98 : Nat → List Nat
  | _ => []
noncomputable def u98 : Nat → Bool
  | _ => false
noncomputable def m98 : Nat → Bool
  | _ => false
noncomputable def g98 : Cfg := { N := 4, live := l98, cut := u98, mu := m98, ret := rets }
noncomputable def c98 : Go.Code := Go.Ab.bodyOf Go.Proofs.Try.f98
theorem s98 : ∀ (bs : List UInt8) (p e : Int) (Post : AV → List AObj → Prop),
  (ASpec Try.prog 23 [AV.ptr 0 0, AV.int IntKind.i64 (24 : Int)]
      [AObj.cells [AV.sl 1 (Seq.map encB (0 : UInt8) bs) Tip.none, AV.int IntKind.i64 p, AV.int IntKind.i64 e], AObj.cells [AV.ptr 0 0],
        AObj.cells [AV.fn (98 : FuncId) [AV.ptr 1 0]], AObj.cells [AV.fn (99 : FuncId) [AV.ptr 1 0]],
        AObj.cells [AV.fn (100 : FuncId) [AV.ptr 2 0, AV.ptr 1 0, AV.ptr 3 0]]]
      fun (r : AV) (H' : List AObj) =>
      ∃ (x : ByteArray × Int × Int),
        r = AV.str (Prod.fst x) ∧
          H' =
              [AObj.cells [AV.sl 1 (Seq.map encB (0 : UInt8) bs) Tip.none, AV.int IntKind.i64 (Prod.fst (Prod.snd x)), AV.int IntKind.i64 (Prod.snd (Prod.snd x))],
                AObj.cells [AV.ptr 0 0], AObj.cells [AV.fn (98 : FuncId) [AV.ptr 1 0]], AObj.cells [AV.fn (99 : FuncId) [AV.ptr 1 0]],
                AObj.cells [AV.fn (100 : FuncId) [AV.ptr 2 0, AV.ptr 1 0, AV.ptr 3 0]]] ∧
            Post (AV.str (Prod.fst x))
              [AObj.cells [AV.sl 1 (Seq.map encB (0 : UInt8) bs) Tip.none, AV.int IntKind.i64 (Prod.fst (Prod.snd x)), AV.int IntKind.i64 (Prod.snd (Prod.snd x))],
                AObj.cells [AV.ptr 0 0], AObj.cells [AV.fn (98 : FuncId) [AV.ptr 1 0]], AObj.cells [AV.fn (99 : FuncId) [AV.ptr 1 0]],
                AObj.cells [AV.fn (100 : FuncId) [AV.ptr 2 0, AV.ptr 1 0, AV.ptr 3 0]]]) →
    ASpec Try.prog 98 [AV.ptr 1 0] (HR bs p e) Post := fun bs p e Post h => Go.Ab.ASpec.of_vc g98 Go.Proofs.Try.func98 (by kernel_rfl) (by kernel_rfl) (by kernel_rfl) (Go.Ab.kc (by kernel_rfl) h)

-- 99
noncomputable def l99 : Nat → List Nat
  | _ => []
noncomputable def u99 : Nat → Bool
  | _ => false
noncomputable def m99 : Nat → Bool
  | _ => false
noncomputable def g99 : Cfg := { N := 11, live := l99, cut := u99, mu := m99, ret := rets }
noncomputable def c99 : Go.Code := Go.Ab.bodyOf Go.Proofs.Try.f99
theorem s99 : ∀ (bs : List UInt8) (p e : Int) (Post : AV → List AObj → Prop),
  (ASpec Try.prog 22 [AV.ptr 0 0, AV.int IntKind.i64 (1000000000 : Int)]
      [AObj.cells [AV.sl 1 (Seq.map encB (0 : UInt8) bs) Tip.none, AV.int IntKind.i64 p, AV.int IntKind.i64 e], AObj.cells [AV.ptr 0 0],
        AObj.cells [AV.fn (98 : FuncId) [AV.ptr 1 0]], AObj.cells [AV.fn (99 : FuncId) [AV.ptr 1 0]],
        AObj.cells [AV.fn (100 : FuncId) [AV.ptr 2 0, AV.ptr 1 0, AV.ptr 3 0]], AObj.cells [AV.int IntKind.i64 (0 : Int), AV.int IntKind.i64 (0 : Int)]]
      fun (r : AV) (H' : List AObj) =>
      ∃ (x : Int × Int × Int),
        r = AV.int IntKind.i64 (Prod.fst x) ∧
          H' =
              [AObj.cells [AV.sl 1 (Seq.map encB (0 : UInt8) bs) Tip.none, AV.int IntKind.i64 (Prod.fst (Prod.snd x)), AV.int IntKind.i64 (Prod.snd (Prod.snd x))],
                AObj.cells [AV.ptr 0 0], AObj.cells [AV.fn (98 : FuncId) [AV.ptr 1 0]], AObj.cells [AV.fn (99 : FuncId) [AV.ptr 1 0]],
                AObj.cells [AV.fn (100 : FuncId) [AV.ptr 2 0, AV.ptr 1 0, AV.ptr 3 0]],
                AObj.cells [AV.int IntKind.i64 (0 : Int), AV.int IntKind.i64 (0 : Int)]] ∧
            ASpec Try.prog 22 [AV.ptr 0 0, AV.int IntKind.i64 (1000000000 : Int)]
              [AObj.cells [AV.sl 1 (Seq.map encB (0 : UInt8) bs) Tip.none, AV.int IntKind.i64 (Prod.fst (Prod.snd x)), AV.int IntKind.i64 (Prod.snd (Prod.snd x))],
                AObj.cells [AV.ptr 0 0], AObj.cells [AV.fn (98 : FuncId) [AV.ptr 1 0]], AObj.cells [AV.fn (99 : FuncId) [AV.ptr 1 0]],
                AObj.cells [AV.fn (100 : FuncId) [AV.ptr 2 0, AV.ptr 1 0, AV.ptr 3 0]],
                AObj.cells [AV.int IntKind.i64 (0 : Int), AV.int IntKind.i64 (0 : Int)]]
              fun (r : AV) (H' : List AObj) =>
              ∃ (x_1 : Int × Int × Int),
                r = AV.int IntKind.i64 (Prod.fst x_1) ∧
                  H' =
                      [AObj.cells [AV.sl 1 (Seq.map encB (0 : UInt8) bs) Tip.none, AV.int IntKind.i64 (Prod.fst (Prod.snd x_1)), AV.int IntKind.i64 (Prod.snd (Prod.snd x_1))],
                        AObj.cells [AV.ptr 0 0], AObj.cells [AV.fn (98 : FuncId) [AV.ptr 1 0]], AObj.cells [AV.fn (99 : FuncId) [AV.ptr 1 0]],
                        AObj.cells [AV.fn (100 : FuncId) [AV.ptr 2 0, AV.ptr 1 0, AV.ptr 3 0]],
                        AObj.cells [AV.int IntKind.i64 (0 : Int), AV.int IntKind.i64 (0 : Int)]] ∧
                    Post (AV.agg [AV.int IntKind.i64 (Prod.fst x), AV.int IntKind.i64 (IntKind.wrap IntKind.i64 (Prod.fst x + Prod.fst x_1))])
                      [AObj.cells [AV.sl 1 (Seq.map encB (0 : UInt8) bs) Tip.none, AV.int IntKind.i64 (Prod.fst (Prod.snd x_1)), AV.int IntKind.i64 (Prod.snd (Prod.snd x_1))],
                        AObj.cells [AV.ptr 0 0], AObj.cells [AV.fn (98 : FuncId) [AV.ptr 1 0]], AObj.cells [AV.fn (99 : FuncId) [AV.ptr 1 0]],
                        AObj.cells [AV.fn (100 : FuncId) [AV.ptr 2 0, AV.ptr 1 0, AV.ptr 3 0]],
                        AObj.cells [AV.int IntKind.i64 (Prod.fst x), AV.int IntKind.i64 (IntKind.wrap IntKind.i64 (Prod.fst x + Prod.fst x_1))]]) →
    ASpec Try.prog 99 [AV.ptr 1 0] (HR bs p e) Post := fun bs p e Post h => Go.Ab.ASpec.of_vc g99 Go.Proofs.Try.func99 (by kernel_rfl) (by kernel_rfl) (by kernel_rfl) (Go.Ab.kc (by kernel_rfl) h)

-- 101
noncomputable def l101 : Nat → List Nat
  | 3 => [0, 2, 7, 8]
  | _ => []
noncomputable def u101 : Nat → Bool
  | _ => false
noncomputable def m101 : Nat → Bool
  | _ => false
noncomputable def g101 : Cfg := { N := 27, live := l101, cut := u101, mu := m101, ret := rets }
noncomputable def c101 : Go.Code := Go.Ab.bodyOf Go.Proofs.Try.f101
noncomputable def q101_0 : Nat → (AV → List AObj → Prop) → AQ := fun (n : Nat) (Post : AV → List AObj → Prop) => endQ Try.prog (resultsOf Try.f101) Post
noncomputable def q101_1 : Nat → (AV → List AObj → Prop) → AQ := fun (n : Nat) (Post : AV → List AObj → Prop) => seqQ (fun (s' : Slots) (H' : List AObj) => awp Try.prog g101 n (codeSnd (codeSnd (codeSnd c101))) s' H' (q101_0 n Post)) (q101_0 n Post)
noncomputable def q101_2 : Nat → (AV → List AObj → Prop) → AQ := fun (n : Nat) (Post : AV → List AObj → Prop) => blockQ 0 (q101_1 n Post)
noncomputable def c101_3 : Go.Code := codeFst (codeSnd (codeFst (codeSnd (codeSnd c101))))
theorem s101 : ∀ (bs : List UInt8) (p e most : Int) (Post : AV → List AObj → Prop),
  (ASpec Try.prog 22 [AV.ptr 0 0, AV.int IntKind.i64 most]
      [AObj.cells [AV.sl 1 (Seq.map encB (0 : UInt8) bs) Tip.none, AV.int IntKind.i64 p, AV.int IntKind.i64 e], AObj.cells [AV.ptr 0 0],
        AObj.cells [AV.fn (98 : FuncId) [AV.ptr 1 0]], AObj.cells [AV.fn (99 : FuncId) [AV.ptr 1 0]],
        AObj.cells [AV.fn (100 : FuncId) [AV.ptr 2 0, AV.ptr 1 0, AV.ptr 3 0]]]
      fun (r : AV) (H' : List AObj) =>
      ∃ (x : Int × Int × Int),
        r = AV.int IntKind.i64 (Prod.fst x) ∧
          H' =
              [AObj.cells [AV.sl 1 (Seq.map encB (0 : UInt8) bs) Tip.none, AV.int IntKind.i64 (Prod.fst (Prod.snd x)), AV.int IntKind.i64 (Prod.snd (Prod.snd x))],
                AObj.cells [AV.ptr 0 0], AObj.cells [AV.fn (98 : FuncId) [AV.ptr 1 0]], AObj.cells [AV.fn (99 : FuncId) [AV.ptr 1 0]],
                AObj.cells [AV.fn (100 : FuncId) [AV.ptr 2 0, AV.ptr 1 0, AV.ptr 3 0]]] ∧
            AWP Try.prog 27 5 c101_3
              [(0, AV.ptr 0 0), (2, AV.fn (99 : FuncId) [AV.ptr 1 0]), (7, AV.sl 0 (Seq.raw []) Tip.nil),
                (8, AV.int IntKind.i64 (Prod.fst x))]
              [AObj.cells [AV.sl 1 (Seq.map encB (0 : UInt8) bs) Tip.none, AV.int IntKind.i64 (Prod.fst (Prod.snd x)), AV.int IntKind.i64 (Prod.snd (Prod.snd x))],
                AObj.cells [AV.ptr 0 0], AObj.cells [AV.fn (98 : FuncId) [AV.ptr 1 0]], AObj.cells [AV.fn (99 : FuncId) [AV.ptr 1 0]],
                AObj.cells [AV.fn (100 : FuncId) [AV.ptr 2 0, AV.ptr 1 0, AV.ptr 3 0]]]
              (q101_2 5 Post)) →
    ASpec Try.prog 101 [AV.ptr 0 0, AV.int IntKind.i64 most, AV.fn (99 : FuncId) [AV.ptr 1 0]] (HR bs p e) Post := fun bs p e most Post h => Go.Ab.ASpec.of_vc g101 Go.Proofs.Try.func101 (by kernel_rfl) (by kernel_rfl) (by kernel_rfl) (Go.Ab.kc (by kernel_rfl) h)
theorem v101_3 : ∀ (bs : List UInt8) (p e : Int) (acc : List T.Span) (n : Int) (n_1 : Nat) (Post : AV → List AObj → Prop),
  condP (decide (n > (0 : Int)))
      (ASpec Try.prog 24 [AV.ptr 0 0]
        [AObj.cells [AV.sl 1 (Seq.map encB (0 : UInt8) bs) Tip.none, AV.int IntKind.i64 p, AV.int IntKind.i64 e], AObj.cells [AV.ptr 0 0],
          AObj.cells [AV.fn (98 : FuncId) [AV.ptr 1 0]], AObj.cells [AV.fn (99 : FuncId) [AV.ptr 1 0]],
          AObj.cells [AV.fn (100 : FuncId) [AV.ptr 2 0, AV.ptr 1 0, AV.ptr 3 0]], AObj.tok]
        fun (r : AV) (H' : List AObj) =>
        ∃ (x : Int),
          r = AV.int IntKind.i64 x ∧
            H' =
                [AObj.cells [AV.sl 1 (Seq.map encB (0 : UInt8) bs) Tip.none, AV.int IntKind.i64 p, AV.int IntKind.i64 e], AObj.cells [AV.ptr 0 0],
                  AObj.cells [AV.fn (98 : FuncId) [AV.ptr 1 0]], AObj.cells [AV.fn (99 : FuncId) [AV.ptr 1 0]],
                  AObj.cells [AV.fn (100 : FuncId) [AV.ptr 2 0, AV.ptr 1 0, AV.ptr 3 0]], AObj.tok] ∧
              condP (x == (0 : Int))
                (ASpec Try.prog 99 [AV.ptr 1 0]
                  [AObj.cells [AV.sl 1 (Seq.map encB (0 : UInt8) bs) Tip.none, AV.int IntKind.i64 p, AV.int IntKind.i64 e], AObj.cells [AV.ptr 0 0],
                    AObj.cells [AV.fn (98 : FuncId) [AV.ptr 1 0]], AObj.cells [AV.fn (99 : FuncId) [AV.ptr 1 0]],
                    AObj.cells [AV.fn (100 : FuncId) [AV.ptr 2 0, AV.ptr 1 0, AV.ptr 3 0]], AObj.tok]
                  fun (r : AV) (H' : List AObj) =>
                  ∃ (x : T.Span × Int × Int),
                    r = AV.agg [AV.int IntKind.i64 (Prod.fst (Prod.fst x)), AV.int IntKind.i64 (Prod.snd (Prod.fst x))] ∧
                      H' =
                          [AObj.cells [AV.sl 1 (Seq.map encB (0 : UInt8) bs) Tip.none, AV.int IntKind.i64 (Prod.fst (Prod.snd x)), AV.int IntKind.i64 (Prod.snd (Prod.snd x))],
                            AObj.cells [AV.ptr 0 0], AObj.cells [AV.fn (98 : FuncId) [AV.ptr 1 0]], AObj.cells [AV.fn (99 : FuncId) [AV.ptr 1 0]],
                            AObj.cells [AV.fn (100 : FuncId) [AV.ptr 2 0, AV.ptr 1 0, AV.ptr 3 0]], AObj.tok] ∧
                        needP ((List.length acc + 1) * 16 ≤ 140737488351232)
                          (AWP Try.prog 27 n_1 c101_3
                            [(0, AV.ptr 0 0), (2, AV.fn (99 : FuncId) [AV.ptr 1 0]),
                              (7,
                                AV.sl 2
                                  (Seq.app (Seq.map T.encS ((0 : Int), (0 : Int)) acc) (Seq.raw [[AV.int IntKind.i64 (Prod.fst (Prod.fst x)), AV.int IntKind.i64 (Prod.snd (Prod.fst x))]]))
                                  (Tip.tok 6)),
                              (8, AV.int IntKind.i64 (IntKind.wrap IntKind.i64 (n - (1 : Int))))]
                            [AObj.cells [AV.sl 1 (Seq.map encB (0 : UInt8) bs) Tip.none, AV.int IntKind.i64 (Prod.fst (Prod.snd x)), AV.int IntKind.i64 (Prod.snd (Prod.snd x))],
                              AObj.cells [AV.ptr 0 0], AObj.cells [AV.fn (98 : FuncId) [AV.ptr 1 0]], AObj.cells [AV.fn (99 : FuncId) [AV.ptr 1 0]],
                              AObj.cells [AV.fn (100 : FuncId) [AV.ptr 2 0, AV.ptr 1 0, AV.ptr 3 0]], AObj.gone, AObj.tok]
                            (q101_2 n_1 Post)))
                (Post (AV.sl 2 (Seq.map T.encS ((0 : Int), (0 : Int)) acc) (Tip.tok 5))
                  [AObj.cells [AV.sl 1 (Seq.map encB (0 : UInt8) bs) Tip.none, AV.int IntKind.i64 p, AV.int IntKind.i64 e], AObj.cells [AV.ptr 0 0],
                    AObj.cells [AV.fn (98 : FuncId) [AV.ptr 1 0]], AObj.cells [AV.fn (99 : FuncId) [AV.ptr 1 0]],
                    AObj.cells [AV.fn (100 : FuncId) [AV.ptr 2 0, AV.ptr 1 0, AV.ptr 3 0]], AObj.tok]))
      (Post (AV.sl 2 (Seq.map T.encS ((0 : Int), (0 : Int)) acc) (Tip.tok 5))
        [AObj.cells [AV.sl 1 (Seq.map encB (0 : UInt8) bs) Tip.none, AV.int IntKind.i64 p, AV.int IntKind.i64 e], AObj.cells [AV.ptr 0 0],
          AObj.cells [AV.fn (98 : FuncId) [AV.ptr 1 0]], AObj.cells [AV.fn (99 : FuncId) [AV.ptr 1 0]],
          AObj.cells [AV.fn (100 : FuncId) [AV.ptr 2 0, AV.ptr 1 0, AV.ptr 3 0]], AObj.tok]) →
    AWP Try.prog 27 n_1 c101_3
      [(0, AV.ptr 0 0), (2, AV.fn (99 : FuncId) [AV.ptr 1 0]),
        (7, AV.sl 2 (Seq.map T.encS ((0 : Int), (0 : Int)) acc) (Tip.tok 5)), (8, AV.int IntKind.i64 n)]
      (HR bs p e ++ [AObj.tok]) (q101_2 n_1 Post) := fun bs p e acc n n Post h => Go.Ab.AWP.loop' g101 (Cfg.live g101) c101_3 (by kernel_rfl) (by kernel_rfl) (Go.Ab.kc (by kernel_rfl) h)

-- 100
noncomputable def l100 : Nat → List Nat
  | _ => []
noncomputable def u100 : Nat → Bool
  | _ => false
noncomputable def m100 : Nat → Bool
  | _ => false
noncomputable def g100 : Cfg := { N := 13, live := l100, cut := u100, mu := m100, ret := rets }
noncomputable def c100 : Go.Code := Go.Ab.bodyOf Go.Proofs.Try.f100
theorem s100 : ∀ (bs : List UInt8) (p e : Int) (Post : AV → List AObj → Prop),
  (ASpec Try.prog 98 [AV.ptr 1 0]
      [AObj.cells [AV.sl 1 (Seq.map encB (0 : UInt8) bs) Tip.none, AV.int IntKind.i64 p, AV.int IntKind.i64 e], AObj.cells [AV.ptr 0 0],
        AObj.cells [AV.fn (98 : FuncId) [AV.ptr 1 0]], AObj.cells [AV.fn (99 : FuncId) [AV.ptr 1 0]],
        AObj.cells [AV.fn (100 : FuncId) [AV.ptr 2 0, AV.ptr 1 0, AV.ptr 3 0]],
        AObj.cells [AV.str { data := #[] }, AV.sl 0 (Seq.raw []) Tip.nil]]
      fun (r : AV) (H' : List AObj) =>
      ∃ (x : ByteArray × Int × Int),
        r = AV.str (Prod.fst x) ∧
          H' =
              [AObj.cells [AV.sl 1 (Seq.map encB (0 : UInt8) bs) Tip.none, AV.int IntKind.i64 (Prod.fst (Prod.snd x)), AV.int IntKind.i64 (Prod.snd (Prod.snd x))],
                AObj.cells [AV.ptr 0 0], AObj.cells [AV.fn (98 : FuncId) [AV.ptr 1 0]], AObj.cells [AV.fn (99 : FuncId) [AV.ptr 1 0]],
                AObj.cells [AV.fn (100 : FuncId) [AV.ptr 2 0, AV.ptr 1 0, AV.ptr 3 0]],
                AObj.cells [AV.str { data := #[] }, AV.sl 0 (Seq.raw []) Tip.nil]] ∧
            ASpec Try.prog 101 [AV.ptr 0 0, AV.int IntKind.i64 (6 : Int), AV.fn (99 : FuncId) [AV.ptr 1 0]]
              [AObj.cells [AV.sl 1 (Seq.map encB (0 : UInt8) bs) Tip.none, AV.int IntKind.i64 (Prod.fst (Prod.snd x)), AV.int IntKind.i64 (Prod.snd (Prod.snd x))],
                AObj.cells [AV.ptr 0 0], AObj.cells [AV.fn (98 : FuncId) [AV.ptr 1 0]], AObj.cells [AV.fn (99 : FuncId) [AV.ptr 1 0]],
                AObj.cells [AV.fn (100 : FuncId) [AV.ptr 2 0, AV.ptr 1 0, AV.ptr 3 0]],
                AObj.cells [AV.str { data := #[] }, AV.sl 0 (Seq.raw []) Tip.nil], AObj.cells [AV.str (Prod.fst x), AV.sl 0 (Seq.raw []) Tip.nil]]
              fun (r : AV) (H' : List AObj) =>
              ∃ (x_1 : List T.Span × Int × Int),
                r = AV.sl 2 (Seq.map T.encS ((0 : Int), (0 : Int)) (Prod.fst x_1)) Tip.none ∧
                  H' =
                      [AObj.cells [AV.sl 1 (Seq.map encB (0 : UInt8) bs) Tip.none, AV.int IntKind.i64 (Prod.fst (Prod.snd x_1)), AV.int IntKind.i64 (Prod.snd (Prod.snd x_1))],
                        AObj.cells [AV.ptr 0 0], AObj.cells [AV.fn (98 : FuncId) [AV.ptr 1 0]], AObj.cells [AV.fn (99 : FuncId) [AV.ptr 1 0]],
                        AObj.cells [AV.fn (100 : FuncId) [AV.ptr 2 0, AV.ptr 1 0, AV.ptr 3 0]],
                        AObj.cells [AV.str { data := #[] }, AV.sl 0 (Seq.raw []) Tip.nil], AObj.cells [AV.str (Prod.fst x), AV.sl 0 (Seq.raw []) Tip.nil]] ∧
                    Post (AV.agg [AV.str (Prod.fst x), AV.sl 2 (Seq.map T.encS ((0 : Int), (0 : Int)) (Prod.fst x_1)) Tip.none])
                      [AObj.cells [AV.sl 1 (Seq.map encB (0 : UInt8) bs) Tip.none, AV.int IntKind.i64 (Prod.fst (Prod.snd x_1)), AV.int IntKind.i64 (Prod.snd (Prod.snd x_1))],
                        AObj.cells [AV.ptr 0 0], AObj.cells [AV.fn (98 : FuncId) [AV.ptr 1 0]], AObj.cells [AV.fn (99 : FuncId) [AV.ptr 1 0]],
                        AObj.cells [AV.fn (100 : FuncId) [AV.ptr 2 0, AV.ptr 1 0, AV.ptr 3 0]],
                        AObj.cells [AV.str (Prod.fst x), AV.sl 2 (Seq.map T.encS ((0 : Int), (0 : Int)) (Prod.fst x_1)) Tip.none],
                        AObj.cells [AV.str (Prod.fst x), AV.sl 2 (Seq.map T.encS ((0 : Int), (0 : Int)) (Prod.fst x_1)) Tip.none]]) →
    ASpec Try.prog 100 [AV.ptr 2 0, AV.ptr 1 0, AV.ptr 3 0] (HR bs p e) Post := fun bs p e Post h => Go.Ab.ASpec.of_vc g100 Go.Proofs.Try.func100 (by kernel_rfl) (by kernel_rfl) (by kernel_rfl) (Go.Ab.kc (by kernel_rfl) h)

-- 104
noncomputable def l104 : Nat → List Nat
  | 3 => [0, 2, 7, 8]
  | _ => []
noncomputable def u104 : Nat → Bool
  | _ => false
noncomputable def m104 : Nat → Bool
  | _ => false
noncomputable def g104 : Cfg := { N := 27, live := l104, cut := u104, mu := m104, ret := rets }
noncomputable def c104 : Go.Code := Go.Ab.bodyOf Go.Proofs.Try.f104
noncomputable def q104_0 : Nat → (AV → List AObj → Prop) → AQ := fun (n : Nat) (Post : AV → List AObj → Prop) => endQ Try.prog (resultsOf Try.f104) Post
noncomputable def q104_1 : Nat → (AV → List AObj → Prop) → AQ := fun (n : Nat) (Post : AV → List AObj → Prop) => seqQ (fun (s' : Slots) (H' : List AObj) => awp Try.prog g104 n (codeSnd (codeSnd (codeSnd c104))) s' H' (q104_0 n Post)) (q104_0 n Post)
noncomputable def q104_2 : Nat → (AV → List AObj → Prop) → AQ := fun (n : Nat) (Post : AV → List AObj → Prop) => blockQ 0 (q104_1 n Post)
noncomputable def c104_3 : Go.Code := codeFst (codeSnd (codeFst (codeSnd (codeSnd c104))))
theorem s104 : ∀ (bs : List UInt8) (p e most : Int) (Post : AV → List AObj → Prop),
  (ASpec Try.prog 22 [AV.ptr 0 0, AV.int IntKind.i64 most]
      [AObj.cells [AV.sl 1 (Seq.map encB (0 : UInt8) bs) Tip.none, AV.int IntKind.i64 p, AV.int IntKind.i64 e], AObj.cells [AV.ptr 0 0],
        AObj.cells [AV.fn (98 : FuncId) [AV.ptr 1 0]], AObj.cells [AV.fn (99 : FuncId) [AV.ptr 1 0]],
        AObj.cells [AV.fn (100 : FuncId) [AV.ptr 2 0, AV.ptr 1 0, AV.ptr 3 0]]]
      fun (r : AV) (H' : List AObj) =>
      ∃ (x : Int × Int × Int),
        r = AV.int IntKind.i64 (Prod.fst x) ∧
          H' =
              [AObj.cells [AV.sl 1 (Seq.map encB (0 : UInt8) bs) Tip.none, AV.int IntKind.i64 (Prod.fst (Prod.snd x)), AV.int IntKind.i64 (Prod.snd (Prod.snd x))],
                AObj.cells [AV.ptr 0 0], AObj.cells [AV.fn (98 : FuncId) [AV.ptr 1 0]], AObj.cells [AV.fn (99 : FuncId) [AV.ptr 1 0]],
                AObj.cells [AV.fn (100 : FuncId) [AV.ptr 2 0, AV.ptr 1 0, AV.ptr 3 0]]] ∧
            AWP Try.prog 27 5 c104_3
              [(0, AV.ptr 0 0), (2, AV.fn (100 : FuncId) [AV.ptr 2 0, AV.ptr 1 0, AV.ptr 3 0]),
                (7, AV.sl 0 (Seq.raw []) Tip.nil), (8, AV.int IntKind.i64 (Prod.fst x))]
              [AObj.cells [AV.sl 1 (Seq.map encB (0 : UInt8) bs) Tip.none, AV.int IntKind.i64 (Prod.fst (Prod.snd x)), AV.int IntKind.i64 (Prod.snd (Prod.snd x))],
                AObj.cells [AV.ptr 0 0], AObj.cells [AV.fn (98 : FuncId) [AV.ptr 1 0]], AObj.cells [AV.fn (99 : FuncId) [AV.ptr 1 0]],
                AObj.cells [AV.fn (100 : FuncId) [AV.ptr 2 0, AV.ptr 1 0, AV.ptr 3 0]]]
              (q104_2 5 Post)) →
    ASpec Try.prog 104 [AV.ptr 0 0, AV.int IntKind.i64 most, AV.fn (100 : FuncId) [AV.ptr 2 0, AV.ptr 1 0, AV.ptr 3 0]]
      (HR bs p e) Post := fun bs p e most Post h => Go.Ab.ASpec.of_vc g104 Go.Proofs.Try.func104 (by kernel_rfl) (by kernel_rfl) (by kernel_rfl) (Go.Ab.kc (by kernel_rfl) h)
theorem v104_3 : ∀ (bs : List UInt8) (p e : Int) (acc : List T.Need) (n : Int) (n_1 : Nat) (Post : AV → List AObj → Prop),
  condP (decide (n > (0 : Int)))
      (ASpec Try.prog 24 [AV.ptr 0 0]
        [AObj.cells [AV.sl 1 (Seq.map encB (0 : UInt8) bs) Tip.none, AV.int IntKind.i64 p, AV.int IntKind.i64 e], AObj.cells [AV.ptr 0 0],
          AObj.cells [AV.fn (98 : FuncId) [AV.ptr 1 0]], AObj.cells [AV.fn (99 : FuncId) [AV.ptr 1 0]],
          AObj.cells [AV.fn (100 : FuncId) [AV.ptr 2 0, AV.ptr 1 0, AV.ptr 3 0]], AObj.tok]
        fun (r : AV) (H' : List AObj) =>
        ∃ (x : Int),
          r = AV.int IntKind.i64 x ∧
            H' =
                [AObj.cells [AV.sl 1 (Seq.map encB (0 : UInt8) bs) Tip.none, AV.int IntKind.i64 p, AV.int IntKind.i64 e], AObj.cells [AV.ptr 0 0],
                  AObj.cells [AV.fn (98 : FuncId) [AV.ptr 1 0]], AObj.cells [AV.fn (99 : FuncId) [AV.ptr 1 0]],
                  AObj.cells [AV.fn (100 : FuncId) [AV.ptr 2 0, AV.ptr 1 0, AV.ptr 3 0]], AObj.tok] ∧
              condP (x == (0 : Int))
                (ASpec Try.prog 100 [AV.ptr 2 0, AV.ptr 1 0, AV.ptr 3 0]
                  [AObj.cells [AV.sl 1 (Seq.map encB (0 : UInt8) bs) Tip.none, AV.int IntKind.i64 p, AV.int IntKind.i64 e], AObj.cells [AV.ptr 0 0],
                    AObj.cells [AV.fn (98 : FuncId) [AV.ptr 1 0]], AObj.cells [AV.fn (99 : FuncId) [AV.ptr 1 0]],
                    AObj.cells [AV.fn (100 : FuncId) [AV.ptr 2 0, AV.ptr 1 0, AV.ptr 3 0]], AObj.tok]
                  fun (r : AV) (H' : List AObj) =>
                  ∃ (x : T.Need × Int × Int),
                    r = AV.agg [AV.str { data := List.toArray (Prod.fst (Prod.fst x)) }, AV.sl 2 (Seq.map T.encS ((0 : Int), (0 : Int)) (Prod.snd (Prod.fst x))) Tip.none] ∧
                      H' =
                          [AObj.cells [AV.sl 1 (Seq.map encB (0 : UInt8) bs) Tip.none, AV.int IntKind.i64 (Prod.fst (Prod.snd x)), AV.int IntKind.i64 (Prod.snd (Prod.snd x))],
                            AObj.cells [AV.ptr 0 0], AObj.cells [AV.fn (98 : FuncId) [AV.ptr 1 0]], AObj.cells [AV.fn (99 : FuncId) [AV.ptr 1 0]],
                            AObj.cells [AV.fn (100 : FuncId) [AV.ptr 2 0, AV.ptr 1 0, AV.ptr 3 0]], AObj.tok] ∧
                        needP ((List.length acc + 1) * 40 ≤ 140737488351232)
                          (AWP Try.prog 27 n_1 c104_3
                            [(0, AV.ptr 0 0), (2, AV.fn (100 : FuncId) [AV.ptr 2 0, AV.ptr 1 0, AV.ptr 3 0]),
                              (7,
                                AV.sl 2
                                  (Seq.app (Seq.map T.encN ([], []) acc)
                                    (Seq.raw [[AV.str { data := List.toArray (Prod.fst (Prod.fst x)) }, AV.sl 2 (Seq.map T.encS ((0 : Int), (0 : Int)) (Prod.snd (Prod.fst x))) Tip.none]]))
                                  (Tip.tok 6)),
                              (8, AV.int IntKind.i64 (IntKind.wrap IntKind.i64 (n - (1 : Int))))]
                            [AObj.cells [AV.sl 1 (Seq.map encB (0 : UInt8) bs) Tip.none, AV.int IntKind.i64 (Prod.fst (Prod.snd x)), AV.int IntKind.i64 (Prod.snd (Prod.snd x))],
                              AObj.cells [AV.ptr 0 0], AObj.cells [AV.fn (98 : FuncId) [AV.ptr 1 0]], AObj.cells [AV.fn (99 : FuncId) [AV.ptr 1 0]],
                              AObj.cells [AV.fn (100 : FuncId) [AV.ptr 2 0, AV.ptr 1 0, AV.ptr 3 0]], AObj.gone, AObj.tok]
                            (q104_2 n_1 Post)))
                (Post (AV.sl 2 (Seq.map T.encN ([], []) acc) (Tip.tok 5))
                  [AObj.cells [AV.sl 1 (Seq.map encB (0 : UInt8) bs) Tip.none, AV.int IntKind.i64 p, AV.int IntKind.i64 e], AObj.cells [AV.ptr 0 0],
                    AObj.cells [AV.fn (98 : FuncId) [AV.ptr 1 0]], AObj.cells [AV.fn (99 : FuncId) [AV.ptr 1 0]],
                    AObj.cells [AV.fn (100 : FuncId) [AV.ptr 2 0, AV.ptr 1 0, AV.ptr 3 0]], AObj.tok]))
      (Post (AV.sl 2 (Seq.map T.encN ([], []) acc) (Tip.tok 5))
        [AObj.cells [AV.sl 1 (Seq.map encB (0 : UInt8) bs) Tip.none, AV.int IntKind.i64 p, AV.int IntKind.i64 e], AObj.cells [AV.ptr 0 0],
          AObj.cells [AV.fn (98 : FuncId) [AV.ptr 1 0]], AObj.cells [AV.fn (99 : FuncId) [AV.ptr 1 0]],
          AObj.cells [AV.fn (100 : FuncId) [AV.ptr 2 0, AV.ptr 1 0, AV.ptr 3 0]], AObj.tok]) →
    AWP Try.prog 27 n_1 c104_3
      [(0, AV.ptr 0 0), (2, AV.fn (100 : FuncId) [AV.ptr 2 0, AV.ptr 1 0, AV.ptr 3 0]),
        (7, AV.sl 2 (Seq.map T.encN ([], []) acc) (Tip.tok 5)), (8, AV.int IntKind.i64 n)]
      (HR bs p e ++ [AObj.tok]) (q104_2 n_1 Post) := fun bs p e acc n n Post h => Go.Ab.AWP.loop' g104 (Cfg.live g104) c104_3 (by kernel_rfl) (by kernel_rfl) (Go.Ab.kc (by kernel_rfl) h)

-- 103
noncomputable def l103 : Nat → List Nat
  | _ => []
noncomputable def u103 : Nat → Bool
  | _ => false
noncomputable def m103 : Nat → Bool
  | _ => false
noncomputable def g103 : Cfg := { N := 12, live := l103, cut := u103, mu := m103, ret := rets }
noncomputable def c103 : Go.Code := Go.Ab.bodyOf Go.Proofs.Try.f103
theorem s103 : ∀ (bs : List UInt8) (p e : Int) (Post : AV → List AObj → Prop),
  (ASpec Try.prog 22 [AV.ptr 0 0, AV.int IntKind.i64 (1000000000 : Int)]
      [AObj.cells [AV.sl 1 (Seq.map encB (0 : UInt8) bs) Tip.none, AV.int IntKind.i64 p, AV.int IntKind.i64 e], AObj.cells [AV.ptr 0 0],
        AObj.cells [AV.fn (98 : FuncId) [AV.ptr 1 0]], AObj.cells [AV.fn (99 : FuncId) [AV.ptr 1 0]],
        AObj.cells [AV.fn (100 : FuncId) [AV.ptr 2 0, AV.ptr 1 0, AV.ptr 3 0]],
        AObj.cells [AV.int IntKind.i64 (0 : Int), AV.sl 0 (Seq.raw []) Tip.nil]]
      fun (r : AV) (H' : List AObj) =>
      ∃ (x : Int × Int × Int),
        r = AV.int IntKind.i64 (Prod.fst x) ∧
          H' =
              [AObj.cells [AV.sl 1 (Seq.map encB (0 : UInt8) bs) Tip.none, AV.int IntKind.i64 (Prod.fst (Prod.snd x)), AV.int IntKind.i64 (Prod.snd (Prod.snd x))],
                AObj.cells [AV.ptr 0 0], AObj.cells [AV.fn (98 : FuncId) [AV.ptr 1 0]], AObj.cells [AV.fn (99 : FuncId) [AV.ptr 1 0]],
                AObj.cells [AV.fn (100 : FuncId) [AV.ptr 2 0, AV.ptr 1 0, AV.ptr 3 0]],
                AObj.cells [AV.int IntKind.i64 (0 : Int), AV.sl 0 (Seq.raw []) Tip.nil]] ∧
            ASpec Try.prog 104
              [AV.ptr 0 0, AV.int IntKind.i64 (6 : Int), AV.fn (100 : FuncId) [AV.ptr 2 0, AV.ptr 1 0, AV.ptr 3 0]]
              [AObj.cells [AV.sl 1 (Seq.map encB (0 : UInt8) bs) Tip.none, AV.int IntKind.i64 (Prod.fst (Prod.snd x)), AV.int IntKind.i64 (Prod.snd (Prod.snd x))],
                AObj.cells [AV.ptr 0 0], AObj.cells [AV.fn (98 : FuncId) [AV.ptr 1 0]], AObj.cells [AV.fn (99 : FuncId) [AV.ptr 1 0]],
                AObj.cells [AV.fn (100 : FuncId) [AV.ptr 2 0, AV.ptr 1 0, AV.ptr 3 0]],
                AObj.cells [AV.int IntKind.i64 (0 : Int), AV.sl 0 (Seq.raw []) Tip.nil], AObj.cells [AV.int IntKind.i64 (Prod.fst x), AV.sl 0 (Seq.raw []) Tip.nil]]
              fun (r : AV) (H' : List AObj) =>
              ∃ (x_1 : List T.Need × Int × Int),
                r = AV.sl 2 (Seq.map T.encN ([], []) (Prod.fst x_1)) Tip.none ∧
                  H' =
                      [AObj.cells [AV.sl 1 (Seq.map encB (0 : UInt8) bs) Tip.none, AV.int IntKind.i64 (Prod.fst (Prod.snd x_1)), AV.int IntKind.i64 (Prod.snd (Prod.snd x_1))],
                        AObj.cells [AV.ptr 0 0], AObj.cells [AV.fn (98 : FuncId) [AV.ptr 1 0]], AObj.cells [AV.fn (99 : FuncId) [AV.ptr 1 0]],
                        AObj.cells [AV.fn (100 : FuncId) [AV.ptr 2 0, AV.ptr 1 0, AV.ptr 3 0]],
                        AObj.cells [AV.int IntKind.i64 (0 : Int), AV.sl 0 (Seq.raw []) Tip.nil], AObj.cells [AV.int IntKind.i64 (Prod.fst x), AV.sl 0 (Seq.raw []) Tip.nil]] ∧
                    Post (AV.agg [AV.int IntKind.i64 (Prod.fst x), AV.sl 2 (Seq.map T.encN ([], []) (Prod.fst x_1)) Tip.none])
                      [AObj.cells [AV.sl 1 (Seq.map encB (0 : UInt8) bs) Tip.none, AV.int IntKind.i64 (Prod.fst (Prod.snd x_1)), AV.int IntKind.i64 (Prod.snd (Prod.snd x_1))],
                        AObj.cells [AV.ptr 0 0], AObj.cells [AV.fn (98 : FuncId) [AV.ptr 1 0]], AObj.cells [AV.fn (99 : FuncId) [AV.ptr 1 0]],
                        AObj.cells [AV.fn (100 : FuncId) [AV.ptr 2 0, AV.ptr 1 0, AV.ptr 3 0]],
                        AObj.cells [AV.int IntKind.i64 (Prod.fst x), AV.sl 2 (Seq.map T.encN ([], []) (Prod.fst x_1)) Tip.none],
                        AObj.cells [AV.int IntKind.i64 (Prod.fst x), AV.sl 2 (Seq.map T.encN ([], []) (Prod.fst x_1)) Tip.none]]) →
    ASpec Try.prog 103 [AV.ptr 1 0, AV.ptr 4 0] (HR bs p e) Post := fun bs p e Post h => Go.Ab.ASpec.of_vc g103 Go.Proofs.Try.func103 (by kernel_rfl) (by kernel_rfl) (by kernel_rfl) (Go.Ab.kc (by kernel_rfl) h)

-- 102
noncomputable def l102 : Nat → List Nat
  | 3 => [0, 2, 7, 8]
  | _ => []
noncomputable def u102 : Nat → Bool
  | _ => false
noncomputable def m102 : Nat → Bool
  | _ => false
noncomputable def g102 : Cfg := { N := 27, live := l102, cut := u102, mu := m102, ret := rets }
noncomputable def c102 : Go.Code := Go.Ab.bodyOf Go.Proofs.Try.f102
noncomputable def q102_0 : Nat → (AV → List AObj → Prop) → AQ := fun (n : Nat) (Post : AV → List AObj → Prop) => endQ Try.prog (resultsOf Try.f102) Post
noncomputable def q102_1 : Nat → (AV → List AObj → Prop) → AQ := fun (n : Nat) (Post : AV → List AObj → Prop) => seqQ (fun (s' : Slots) (H' : List AObj) => awp Try.prog g102 n (codeSnd (codeSnd (codeSnd c102))) s' H' (q102_0 n Post)) (q102_0 n Post)
noncomputable def q102_2 : Nat → (AV → List AObj → Prop) → AQ := fun (n : Nat) (Post : AV → List AObj → Prop) => blockQ 0 (q102_1 n Post)
noncomputable def c102_3 : Go.Code := codeFst (codeSnd (codeFst (codeSnd (codeSnd c102))))
theorem s102 : ∀ (bs : List UInt8) (p e most : Int) (Post : AV → List AObj → Prop),
  (ASpec Try.prog 22 [AV.ptr 0 0, AV.int IntKind.i64 most]
      [AObj.cells [AV.sl 1 (Seq.map encB (0 : UInt8) bs) Tip.none, AV.int IntKind.i64 p, AV.int IntKind.i64 e], AObj.cells [AV.ptr 0 0],
        AObj.cells [AV.fn (98 : FuncId) [AV.ptr 1 0]], AObj.cells [AV.fn (99 : FuncId) [AV.ptr 1 0]],
        AObj.cells [AV.fn (100 : FuncId) [AV.ptr 2 0, AV.ptr 1 0, AV.ptr 3 0]]]
      fun (r : AV) (H' : List AObj) =>
      ∃ (x : Int × Int × Int),
        r = AV.int IntKind.i64 (Prod.fst x) ∧
          H' =
              [AObj.cells [AV.sl 1 (Seq.map encB (0 : UInt8) bs) Tip.none, AV.int IntKind.i64 (Prod.fst (Prod.snd x)), AV.int IntKind.i64 (Prod.snd (Prod.snd x))],
                AObj.cells [AV.ptr 0 0], AObj.cells [AV.fn (98 : FuncId) [AV.ptr 1 0]], AObj.cells [AV.fn (99 : FuncId) [AV.ptr 1 0]],
                AObj.cells [AV.fn (100 : FuncId) [AV.ptr 2 0, AV.ptr 1 0, AV.ptr 3 0]]] ∧
            AWP Try.prog 27 5 c102_3
              [(0, AV.ptr 0 0), (2, AV.fn (103 : FuncId) [AV.ptr 1 0, AV.ptr 4 0]), (7, AV.sl 0 (Seq.raw []) Tip.nil),
                (8, AV.int IntKind.i64 (Prod.fst x))]
              [AObj.cells [AV.sl 1 (Seq.map encB (0 : UInt8) bs) Tip.none, AV.int IntKind.i64 (Prod.fst (Prod.snd x)), AV.int IntKind.i64 (Prod.snd (Prod.snd x))],
                AObj.cells [AV.ptr 0 0], AObj.cells [AV.fn (98 : FuncId) [AV.ptr 1 0]], AObj.cells [AV.fn (99 : FuncId) [AV.ptr 1 0]],
                AObj.cells [AV.fn (100 : FuncId) [AV.ptr 2 0, AV.ptr 1 0, AV.ptr 3 0]]]
              (q102_2 5 Post)) →
    ASpec Try.prog 102 [AV.ptr 0 0, AV.int IntKind.i64 most, AV.fn (103 : FuncId) [AV.ptr 1 0, AV.ptr 4 0]] (HR bs p e) Post := fun bs p e most Post h => Go.Ab.ASpec.of_vc g102 Go.Proofs.Try.func102 (by kernel_rfl) (by kernel_rfl) (by kernel_rfl) (Go.Ab.kc (by kernel_rfl) h)
theorem v102_3 : ∀ (bs : List UInt8) (p e : Int) (acc : List T.Rel) (n : Int) (n_1 : Nat) (Post : AV → List AObj → Prop),
  condP (decide (n > (0 : Int)))
      (ASpec Try.prog 24 [AV.ptr 0 0]
        [AObj.cells [AV.sl 1 (Seq.map encB (0 : UInt8) bs) Tip.none, AV.int IntKind.i64 p, AV.int IntKind.i64 e], AObj.cells [AV.ptr 0 0],
          AObj.cells [AV.fn (98 : FuncId) [AV.ptr 1 0]], AObj.cells [AV.fn (99 : FuncId) [AV.ptr 1 0]],
          AObj.cells [AV.fn (100 : FuncId) [AV.ptr 2 0, AV.ptr 1 0, AV.ptr 3 0]], AObj.tok]
        fun (r : AV) (H' : List AObj) =>
        ∃ (x : Int),
          r = AV.int IntKind.i64 x ∧
            H' =
                [AObj.cells [AV.sl 1 (Seq.map encB (0 : UInt8) bs) Tip.none, AV.int IntKind.i64 p, AV.int IntKind.i64 e], AObj.cells [AV.ptr 0 0],
                  AObj.cells [AV.fn (98 : FuncId) [AV.ptr 1 0]], AObj.cells [AV.fn (99 : FuncId) [AV.ptr 1 0]],
                  AObj.cells [AV.fn (100 : FuncId) [AV.ptr 2 0, AV.ptr 1 0, AV.ptr 3 0]], AObj.tok] ∧
              condP (x == (0 : Int))
                (ASpec Try.prog 103 [AV.ptr 1 0, AV.ptr 4 0]
                  [AObj.cells [AV.sl 1 (Seq.map encB (0 : UInt8) bs) Tip.none, AV.int IntKind.i64 p, AV.int IntKind.i64 e], AObj.cells [AV.ptr 0 0],
                    AObj.cells [AV.fn (98 : FuncId) [AV.ptr 1 0]], AObj.cells [AV.fn (99 : FuncId) [AV.ptr 1 0]],
                    AObj.cells [AV.fn (100 : FuncId) [AV.ptr 2 0, AV.ptr 1 0, AV.ptr 3 0]], AObj.tok]
                  fun (r : AV) (H' : List AObj) =>
                  ∃ (x : T.Rel × Int × Int),
                    r = AV.agg [AV.int IntKind.i64 (Prod.fst (Prod.fst x)), AV.sl 2 (Seq.map T.encN ([], []) (Prod.snd (Prod.fst x))) Tip.none] ∧
                      H' =
                          [AObj.cells [AV.sl 1 (Seq.map encB (0 : UInt8) bs) Tip.none, AV.int IntKind.i64 (Prod.fst (Prod.snd x)), AV.int IntKind.i64 (Prod.snd (Prod.snd x))],
                            AObj.cells [AV.ptr 0 0], AObj.cells [AV.fn (98 : FuncId) [AV.ptr 1 0]], AObj.cells [AV.fn (99 : FuncId) [AV.ptr 1 0]],
                            AObj.cells [AV.fn (100 : FuncId) [AV.ptr 2 0, AV.ptr 1 0, AV.ptr 3 0]], AObj.tok] ∧
                        needP ((List.length acc + 1) * 32 ≤ 140737488351232)
                          (AWP Try.prog 27 n_1 c102_3
                            [(0, AV.ptr 0 0), (2, AV.fn (103 : FuncId) [AV.ptr 1 0, AV.ptr 4 0]),
                              (7,
                                AV.sl 2
                                  (Seq.app (Seq.map T.encR ((0 : Int), []) acc)
                                    (Seq.raw [[AV.int IntKind.i64 (Prod.fst (Prod.fst x)), AV.sl 2 (Seq.map T.encN ([], []) (Prod.snd (Prod.fst x))) Tip.none]]))
                                  (Tip.tok 6)),
                              (8, AV.int IntKind.i64 (IntKind.wrap IntKind.i64 (n - (1 : Int))))]
                            [AObj.cells [AV.sl 1 (Seq.map encB (0 : UInt8) bs) Tip.none, AV.int IntKind.i64 (Prod.fst (Prod.snd x)), AV.int IntKind.i64 (Prod.snd (Prod.snd x))],
                              AObj.cells [AV.ptr 0 0], AObj.cells [AV.fn (98 : FuncId) [AV.ptr 1 0]], AObj.cells [AV.fn (99 : FuncId) [AV.ptr 1 0]],
                              AObj.cells [AV.fn (100 : FuncId) [AV.ptr 2 0, AV.ptr 1 0, AV.ptr 3 0]], AObj.gone, AObj.tok]
                            (q102_2 n_1 Post)))
                (Post (AV.sl 2 (Seq.map T.encR ((0 : Int), []) acc) (Tip.tok 5))
                  [AObj.cells [AV.sl 1 (Seq.map encB (0 : UInt8) bs) Tip.none, AV.int IntKind.i64 p, AV.int IntKind.i64 e], AObj.cells [AV.ptr 0 0],
                    AObj.cells [AV.fn (98 : FuncId) [AV.ptr 1 0]], AObj.cells [AV.fn (99 : FuncId) [AV.ptr 1 0]],
                    AObj.cells [AV.fn (100 : FuncId) [AV.ptr 2 0, AV.ptr 1 0, AV.ptr 3 0]], AObj.tok]))
      (Post (AV.sl 2 (Seq.map T.encR ((0 : Int), []) acc) (Tip.tok 5))
        [AObj.cells [AV.sl 1 (Seq.map encB (0 : UInt8) bs) Tip.none, AV.int IntKind.i64 p, AV.int IntKind.i64 e], AObj.cells [AV.ptr 0 0],
          AObj.cells [AV.fn (98 : FuncId) [AV.ptr 1 0]], AObj.cells [AV.fn (99 : FuncId) [AV.ptr 1 0]],
          AObj.cells [AV.fn (100 : FuncId) [AV.ptr 2 0, AV.ptr 1 0, AV.ptr 3 0]], AObj.tok]) →
    AWP Try.prog 27 n_1 c102_3
      [(0, AV.ptr 0 0), (2, AV.fn (103 : FuncId) [AV.ptr 1 0, AV.ptr 4 0]),
        (7, AV.sl 2 (Seq.map T.encR ((0 : Int), []) acc) (Tip.tok 5)), (8, AV.int IntKind.i64 n)]
      (HR bs p e ++ [AObj.tok]) (q102_2 n_1 Post) := fun bs p e acc n n Post h => Go.Ab.AWP.loop' g102 (Cfg.live g102) c102_3 (by kernel_rfl) (by kernel_rfl) (Go.Ab.kc (by kernel_rfl) h)

-- 40
noncomputable def l40 : Nat → List Nat
  | _ => []
noncomputable def u40 : Nat → Bool
  | _ => false
noncomputable def m40 : Nat → Bool
  | _ => false
noncomputable def g40 : Cfg := { N := 40, live := l40, cut := u40, mu := m40, ret := rets }
noncomputable def c40 : Go.Code := Go.Ab.bodyOf Go.Proofs.Try.f40
theorem s40 : ∀ (bs : List UInt8) (Post : AV → List AObj → Prop),
  condP (decide ((↑(List.length bs) : Int) > (8192 : Int)))
      (Post (AV.tup [AV.agg [AV.str { data := #[] }, AV.sl 0 (Seq.raw []) Tip.nil], AV.int IntKind.i64 (4 : Int)]) [AObj.cells [AV.str { data := #[] }, AV.sl 0 (Seq.raw []) Tip.nil]])
      (ASpec Try.prog 21 [AV.sl 1 (Seq.map encB (0 : UInt8) bs) Tip.none] [AObj.cells [AV.str { data := #[] }, AV.sl 0 (Seq.raw []) Tip.nil]] fun (r : AV) (H' : List AObj) =>
        ∃ (x : List UInt8),
          r = AV.ptr 1 0 ∧
            H' =
                [AObj.cells [AV.str { data := #[] }, AV.sl 0 (Seq.raw []) Tip.nil],
                  AObj.cells [AV.sl 1 (Seq.map encB (0 : UInt8) x) Tip.none, AV.int IntKind.i64 (0 : Int), AV.int IntKind.i64 (0 : Int)]] ∧
              ASpec Try.prog 98 [AV.ptr 2 0]
                [AObj.cells [AV.str { data := #[] }, AV.sl 0 (Seq.raw []) Tip.nil],
                  AObj.cells [AV.sl 1 (Seq.map encB (0 : UInt8) x) Tip.none, AV.int IntKind.i64 (0 : Int), AV.int IntKind.i64 (0 : Int)], AObj.cells [AV.ptr 1 0],
                  AObj.cells [AV.fn 98 [AV.ptr 2 0]], AObj.cells [AV.fn 99 [AV.ptr 2 0]],
                  AObj.cells [AV.fn 100 [AV.ptr 3 0, AV.ptr 2 0, AV.ptr 4 0]]]
                fun (r : AV) (H' : List AObj) =>
                ∃ (x_1 : ByteArray × Int × Int),
                  r = AV.str (Prod.fst x_1) ∧
                    H' =
                        [AObj.cells [AV.str { data := #[] }, AV.sl 0 (Seq.raw []) Tip.nil],
                          AObj.cells [AV.sl 1 (Seq.map encB (0 : UInt8) x) Tip.none, AV.int IntKind.i64 (Prod.fst (Prod.snd x_1)), AV.int IntKind.i64 (Prod.snd (Prod.snd x_1))],
                          AObj.cells [AV.ptr 1 0], AObj.cells [AV.fn 98 [AV.ptr 2 0]], AObj.cells [AV.fn 99 [AV.ptr 2 0]],
                          AObj.cells [AV.fn 100 [AV.ptr 3 0, AV.ptr 2 0, AV.ptr 4 0]]] ∧
                      ASpec Try.prog 102 [AV.ptr 1 0, AV.int IntKind.i64 (8 : Int), AV.fn 103 [AV.ptr 2 0, AV.ptr 5 0]]
                        [AObj.cells [AV.str { data := #[] }, AV.sl 0 (Seq.raw []) Tip.nil],
                          AObj.cells [AV.sl 1 (Seq.map encB (0 : UInt8) x) Tip.none, AV.int IntKind.i64 (Prod.fst (Prod.snd x_1)), AV.int IntKind.i64 (Prod.snd (Prod.snd x_1))],
                          AObj.cells [AV.ptr 1 0], AObj.cells [AV.fn 98 [AV.ptr 2 0]], AObj.cells [AV.fn 99 [AV.ptr 2 0]],
                          AObj.cells [AV.fn 100 [AV.ptr 3 0, AV.ptr 2 0, AV.ptr 4 0]],
                          AObj.cells [AV.str (Prod.fst x_1), AV.sl 0 (Seq.raw []) Tip.nil]]
                        fun (r : AV) (H' : List AObj) =>
                        ∃ (x_2 : List T.Rel × Int × Int),
                          r = AV.sl 2 (Seq.map T.encR ((0 : Int), []) (Prod.fst x_2)) Tip.none ∧
                            H' =
                                [AObj.cells [AV.str { data := #[] }, AV.sl 0 (Seq.raw []) Tip.nil],
                                  AObj.cells [AV.sl 1 (Seq.map encB (0 : UInt8) x) Tip.none, AV.int IntKind.i64 (Prod.fst (Prod.snd x_2)), AV.int IntKind.i64 (Prod.snd (Prod.snd x_2))],
                                  AObj.cells [AV.ptr 1 0], AObj.cells [AV.fn 98 [AV.ptr 2 0]], AObj.cells [AV.fn 99 [AV.ptr 2 0]],
                                  AObj.cells [AV.fn 100 [AV.ptr 3 0, AV.ptr 2 0, AV.ptr 4 0]],
                                  AObj.cells [AV.str (Prod.fst x_1), AV.sl 0 (Seq.raw []) Tip.nil]] ∧
                              ASpec Try.prog 30 [AV.ptr 1 0]
                                [AObj.cells [AV.str { data := #[] }, AV.sl 0 (Seq.raw []) Tip.nil],
                                  AObj.cells [AV.sl 1 (Seq.map encB (0 : UInt8) x) Tip.none, AV.int IntKind.i64 (Prod.fst (Prod.snd x_2)), AV.int IntKind.i64 (Prod.snd (Prod.snd x_2))],
                                  AObj.cells [AV.ptr 1 0], AObj.cells [AV.fn 98 [AV.ptr 2 0]], AObj.cells [AV.fn 99 [AV.ptr 2 0]],
                                  AObj.cells [AV.fn 100 [AV.ptr 3 0, AV.ptr 2 0, AV.ptr 4 0]],
                                  AObj.cells [AV.str (Prod.fst x_1), AV.sl 2 (Seq.map T.encR ((0 : Int), []) (Prod.fst x_2)) Tip.none]]
                                fun (r : AV) (H' : List AObj) =>
                                ∃ (x_3 : Int),
                                  r = AV.int IntKind.i64 x_3 ∧
                                    H' =
                                        [AObj.cells [AV.str { data := #[] }, AV.sl 0 (Seq.raw []) Tip.nil],
                                          AObj.cells
                                            [AV.sl 1 (Seq.map encB (0 : UInt8) x) Tip.none, AV.int IntKind.i64 (Prod.fst (Prod.snd x_2)), AV.int IntKind.i64 (Prod.snd (Prod.snd x_2))],
                                          AObj.cells [AV.ptr 1 0], AObj.cells [AV.fn 98 [AV.ptr 2 0]],
                                          AObj.cells [AV.fn 99 [AV.ptr 2 0]],
                                          AObj.cells [AV.fn 100 [AV.ptr 3 0, AV.ptr 2 0, AV.ptr 4 0]],
                                          AObj.cells [AV.str (Prod.fst x_1), AV.sl 2 (Seq.map T.encR ((0 : Int), []) (Prod.fst x_2)) Tip.none]] ∧
                                      condP (x_3 == (0 : Int))
                                        (ASpec Try.prog 105 [AV.agg [AV.str (Prod.fst x_1), AV.sl 2 (Seq.map T.encR ((0 : Int), []) (Prod.fst x_2)) Tip.none]]
                                          [AObj.cells [AV.str { data := #[] }, AV.sl 0 (Seq.raw []) Tip.nil],
                                            AObj.cells
                                              [AV.sl 1 (Seq.map encB (0 : UInt8) x) Tip.none, AV.int IntKind.i64 (Prod.fst (Prod.snd x_2)), AV.int IntKind.i64 (Prod.snd (Prod.snd x_2))],
                                            AObj.cells [AV.ptr 1 0], AObj.cells [AV.fn 98 [AV.ptr 2 0]],
                                            AObj.cells [AV.fn 99 [AV.ptr 2 0]],
                                            AObj.cells [AV.fn 100 [AV.ptr 3 0, AV.ptr 2 0, AV.ptr 4 0]],
                                            AObj.cells [AV.str (Prod.fst x_1), AV.sl 2 (Seq.map T.encR ((0 : Int), []) (Prod.fst x_2)) Tip.none]]
                                          fun (r : AV) (H' : List AObj) =>
                                          ∃ (x_4 : Bool),
                                            r = AV.bool x_4 ∧
                                              H' =
                                                  [AObj.cells [AV.str { data := #[] }, AV.sl 0 (Seq.raw []) Tip.nil],
                                                    AObj.cells
                                                      [AV.sl 1 (Seq.map encB (0 : UInt8) x) Tip.none, AV.int IntKind.i64 (Prod.fst (Prod.snd x_2)),
                                                        AV.int IntKind.i64 (Prod.snd (Prod.snd x_2))],
                                                    AObj.cells [AV.ptr 1 0], AObj.cells [AV.fn 98 [AV.ptr 2 0]],
                                                    AObj.cells [AV.fn 99 [AV.ptr 2 0]],
                                                    AObj.cells [AV.fn 100 [AV.ptr 3 0, AV.ptr 2 0, AV.ptr 4 0]],
                                                    AObj.cells [AV.str (Prod.fst x_1), AV.sl 2 (Seq.map T.encR ((0 : Int), []) (Prod.fst x_2)) Tip.none]] ∧
                                                condP (!x_4)
                                                  (Post (AV.tup [AV.agg [AV.str { data := #[] }, AV.sl 0 (Seq.raw []) Tip.nil], AV.int IntKind.i64 (3 : Int)])
                                                    [AObj.cells [AV.str { data := #[] }, AV.sl 0 (Seq.raw []) Tip.nil],
                                                      AObj.cells
                                                        [AV.sl 1 (Seq.map encB (0 : UInt8) x) Tip.none, AV.int IntKind.i64 (Prod.fst (Prod.snd x_2)),
                                                          AV.int IntKind.i64 (Prod.snd (Prod.snd x_2))],
                                                      AObj.cells [AV.ptr 1 0], AObj.cells [AV.fn 98 [AV.ptr 2 0]],
                                                      AObj.cells [AV.fn 99 [AV.ptr 2 0]],
                                                      AObj.cells [AV.fn 100 [AV.ptr 3 0, AV.ptr 2 0, AV.ptr 4 0]],
                                                      AObj.cells [AV.str (Prod.fst x_1), AV.sl 2 (Seq.map T.encR ((0 : Int), []) (Prod.fst x_2)) Tip.none]])
                                                  (condP (x_3 != (0 : Int))
                                                    (Post (AV.tup [AV.agg [AV.str { data := #[] }, AV.sl 0 (Seq.raw []) Tip.nil], AV.int IntKind.i64 x_3])
                                                      [AObj.cells [AV.str { data := #[] }, AV.sl 0 (Seq.raw []) Tip.nil],
                                                        AObj.cells
                                                          [AV.sl 1 (Seq.map encB (0 : UInt8) x) Tip.none, AV.int IntKind.i64 (Prod.fst (Prod.snd x_2)),
                                                            AV.int IntKind.i64 (Prod.snd (Prod.snd x_2))],
                                                        AObj.cells [AV.ptr 1 0], AObj.cells [AV.fn 98 [AV.ptr 2 0]],
                                                        AObj.cells [AV.fn 99 [AV.ptr 2 0]],
                                                        AObj.cells [AV.fn 100 [AV.ptr 3 0, AV.ptr 2 0, AV.ptr 4 0]],
                                                        AObj.cells [AV.str (Prod.fst x_1), AV.sl 2 (Seq.map T.encR ((0 : Int), []) (Prod.fst x_2)) Tip.none]])
                                                    (Post
                                                      (AV.tup [AV.agg [AV.str (Prod.fst x_1), AV.sl 2 (Seq.map T.encR ((0 : Int), []) (Prod.fst x_2)) Tip.none], AV.int IntKind.i64 (0 : Int)])
                                                      [AObj.cells [AV.str (Prod.fst x_1), AV.sl 2 (Seq.map T.encR ((0 : Int), []) (Prod.fst x_2)) Tip.none],
                                                        AObj.cells
                                                          [AV.sl 1 (Seq.map encB (0 : UInt8) x) Tip.none, AV.int IntKind.i64 (Prod.fst (Prod.snd x_2)),
                                                            AV.int IntKind.i64 (Prod.snd (Prod.snd x_2))],
                                                        AObj.cells [AV.ptr 1 0], AObj.cells [AV.fn 98 [AV.ptr 2 0]],
                                                        AObj.cells [AV.fn 99 [AV.ptr 2 0]],
                                                        AObj.cells [AV.fn 100 [AV.ptr 3 0, AV.ptr 2 0, AV.ptr 4 0]],
                                                        AObj.cells [AV.str (Prod.fst x_1), AV.sl 2 (Seq.map T.encR ((0 : Int), []) (Prod.fst x_2)) Tip.none]])))
                                        (condP (x_3 != (0 : Int))
                                          (Post (AV.tup [AV.agg [AV.str { data := #[] }, AV.sl 0 (Seq.raw []) Tip.nil], AV.int IntKind.i64 x_3])
                                            [AObj.cells [AV.str { data := #[] }, AV.sl 0 (Seq.raw []) Tip.nil],
                                              AObj.cells
                                                [AV.sl 1 (Seq.map encB (0 : UInt8) x) Tip.none, AV.int IntKind.i64 (Prod.fst (Prod.snd x_2)), AV.int IntKind.i64 (Prod.snd (Prod.snd x_2))],
                                              AObj.cells [AV.ptr 1 0], AObj.cells [AV.fn 98 [AV.ptr 2 0]],
                                              AObj.cells [AV.fn 99 [AV.ptr 2 0]],
                                              AObj.cells [AV.fn 100 [AV.ptr 3 0, AV.ptr 2 0, AV.ptr 4 0]],
                                              AObj.cells [AV.str (Prod.fst x_1), AV.sl 2 (Seq.map T.encR ((0 : Int), []) (Prod.fst x_2)) Tip.none]])
                                          (Post (AV.tup [AV.agg [AV.str (Prod.fst x_1), AV.sl 2 (Seq.map T.encR ((0 : Int), []) (Prod.fst x_2)) Tip.none], AV.int IntKind.i64 (0 : Int)])
                                            [AObj.cells [AV.str (Prod.fst x_1), AV.sl 2 (Seq.map T.encR ((0 : Int), []) (Prod.fst x_2)) Tip.none],
                                              AObj.cells
                                                [AV.sl 1 (Seq.map encB (0 : UInt8) x) Tip.none, AV.int IntKind.i64 (Prod.fst (Prod.snd x_2)), AV.int IntKind.i64 (Prod.snd (Prod.snd x_2))],
                                              AObj.cells [AV.ptr 1 0], AObj.cells [AV.fn 98 [AV.ptr 2 0]],
                                              AObj.cells [AV.fn 99 [AV.ptr 2 0]],
                                              AObj.cells [AV.fn 100 [AV.ptr 3 0, AV.ptr 2 0, AV.ptr 4 0]],
                                              AObj.cells [AV.str (Prod.fst x_1), AV.sl 2 (Seq.map T.encR ((0 : Int), []) (Prod.fst x_2)) Tip.none]]))) →
    ASpec Try.prog 40 [AV.sl 1 (Seq.map encB (0 : UInt8) bs) Tip.none] [] Post := fun bs Post h => Go.Ab.ASpec.of_vc g40 Go.Proofs.Try.func40 (by kernel_rfl) (by kernel_rfl) (by kernel_rfl) (Go.Ab.kc (by kernel_rfl) h)

-- 106
noncomputable def l106 : Nat → List Nat
  | 4 => [0, 3, 4, 5]
  | 9 => [0, 3, 4, 5, 6, 7, 8]
  | _ => []
noncomputable def u106 : Nat → Bool
  | _ => false
noncomputable def m106 : Nat → Bool
  | _ => false
noncomputable def g106 : Cfg := { N := 47, live := l106, cut := u106, mu := m106, ret := rets }
noncomputable def c106 : Go.Code := Go.Ab.bodyOf Go.Proofs.Try.f106
noncomputable def q106_0 : Nat → (AV → List AObj → Prop) → AQ := fun (n : Nat) (Post : AV → List AObj → Prop) => endQ Try.prog (resultsOf Try.f106) Post
noncomputable def q106_1 : Nat → (AV → List AObj → Prop) → AQ := fun (n : Nat) (Post : AV → List AObj → Prop) => seqQ (fun (s' : Slots) (H' : List AObj) => awp Try.prog g106 n (codeSnd (codeSnd (codeSnd (codeSnd c106)))) s' H' (q106_0 n Post)) (q106_0 n Post)
noncomputable def q106_2 : Nat → (AV → List AObj → Prop) → AQ := fun (n : Nat) (Post : AV → List AObj → Prop) => blockQ 0 (q106_1 n Post)
noncomputable def c106_4 : Go.Code := codeFst (codeSnd (codeFst (codeSnd (codeSnd (codeSnd c106)))))
theorem s106 : ∀ (s : ByteArray) (e : Int) (Post : AV → List AObj → Prop),
  (ASpec Try.prog 26 [AV.ptr 0 0, AV.int IntKind.i64 (6 : Int)] [AObj.cells [AV.str s, AV.int IntKind.i64 e]] fun (r : AV) (H' : List AObj) =>
      ∃ (x : Int × ByteArray × Int),
        r = AV.int IntKind.i64 (Prod.fst x) ∧
          H' = [AObj.cells [AV.str (Prod.fst (Prod.snd x)), AV.int IntKind.i64 (Prod.snd (Prod.snd x))]] ∧
            AWP Try.prog 47 1 c106_4
              [(0, AV.ptr 0 0), (3, AV.sl 0 (Seq.raw []) Tip.nil), (4, AV.int IntKind.i64 (Prod.fst x)), (5, AV.int IntKind.i64 (0 : Int))]
              [AObj.cells [AV.str (Prod.fst (Prod.snd x)), AV.int IntKind.i64 (Prod.snd (Prod.snd x))]] (q106_2 1 Post)) →
    ASpec Try.prog 106 [AV.ptr 0 0] [AObj.cells [AV.str s, AV.int IntKind.i64 e]] Post := fun s e Post h => Go.Ab.ASpec.of_vc g106 Go.Proofs.Try.func106 (by kernel_rfl) (by kernel_rfl) (by kernel_rfl) (Go.Ab.kc (by kernel_rfl) h)
noncomputable def q106_3 : Nat → (AV → List AObj → Prop) → AQ := fun (n : Nat) (Post : AV → List AObj → Prop) => loopQ Try.prog 47 n c106_4 (q106_2 n Post) (Cfg.live g106)
noncomputable def q106_4 : Nat → (AV → List AObj → Prop) → AQ := fun (n : Nat) (Post : AV → List AObj → Prop) => seqQ (fun (s' : Slots) (H' : List AObj) => awp Try.prog g106 n (codeSnd (codeSnd (codeFst c106_4))) s' H' (q106_3 n Post)) (q106_3 n Post)
noncomputable def q106_5 : Nat → (AV → List AObj → Prop) → AQ := fun (n : Nat) (Post : AV → List AObj → Prop) => blockQ 1 (q106_4 n Post)
noncomputable def q106_6 : Nat → (AV → List AObj → Prop) → AQ := fun (n : Nat) (Post : AV → List AObj → Prop) => seqQ (fun (s' : Slots) (H' : List AObj) => awp Try.prog g106 n (codeSnd (codeSnd (codeSnd (codeFst (codeFst (codeSnd (codeFst c106_4))))))) s' H' (q106_5 n Post)) (q106_5 n Post)
noncomputable def q106_7 : Nat → (AV → List AObj → Prop) → AQ := fun (n : Nat) (Post : AV → List AObj → Prop) => blockQ 2 (q106_6 n Post)
noncomputable def c106_9 : Go.Code := codeFst (codeSnd (codeFst (codeSnd (codeSnd (codeFst (codeFst (codeSnd (codeFst c106_4))))))))
theorem v106_4 : ∀ (s : ByteArray) (e : Int) (acc : List T.Need) (n i : Int) (n_1 : Nat) (Post : AV → List AObj → Prop),
  condP (decide (i < n))
      (ASpec Try.prog 27 [AV.ptr 0 0, AV.int IntKind.i64 (24 : Int)] [AObj.cells [AV.str s, AV.int IntKind.i64 e], AObj.tok] fun (r : AV) (H' : List AObj) =>
        ∃ (x : ByteArray × ByteArray × Int),
          r = AV.str (Prod.fst x) ∧
            H' = [AObj.cells [AV.str (Prod.fst (Prod.snd x)), AV.int IntKind.i64 (Prod.snd (Prod.snd x))], AObj.tok] ∧
              ASpec Try.prog 26 [AV.ptr 0 0, AV.int IntKind.i64 (6 : Int)]
                [AObj.cells [AV.str (Prod.fst (Prod.snd x)), AV.int IntKind.i64 (Prod.snd (Prod.snd x))], AObj.tok, AObj.cells [AV.str (Prod.fst x), AV.sl 0 (Seq.raw []) Tip.nil]]
                fun (r : AV) (H' : List AObj) =>
                ∃ (x_1 : Int × ByteArray × Int),
                  r = AV.int IntKind.i64 (Prod.fst x_1) ∧
                    H' =
                        [AObj.cells [AV.str (Prod.fst (Prod.snd x_1)), AV.int IntKind.i64 (Prod.snd (Prod.snd x_1))], AObj.tok,
                          AObj.cells [AV.str (Prod.fst x), AV.sl 0 (Seq.raw []) Tip.nil]] ∧
                      AWP Try.prog 47 n_1 c106_9
                        [(0, AV.ptr 0 0), (3, AV.sl 2 (Seq.map T.encN ([], []) acc) (Tip.tok 1)), (4, AV.int IntKind.i64 n),
                          (5, AV.int IntKind.i64 i), (6, AV.ptr 2 0), (7, AV.int IntKind.i64 (Prod.fst x_1)), (8, AV.int IntKind.i64 (0 : Int))]
                        [AObj.cells [AV.str (Prod.fst (Prod.snd x_1)), AV.int IntKind.i64 (Prod.snd (Prod.snd x_1))], AObj.tok, AObj.cells [AV.str (Prod.fst x), AV.sl 0 (Seq.raw []) Tip.nil]]
                        (q106_7 n_1 Post))
      (Post (AV.sl 2 (Seq.map T.encN ([], []) acc) (Tip.tok 1)) [AObj.cells [AV.str s, AV.int IntKind.i64 e], AObj.tok]) →
    AWP Try.prog 47 n_1 c106_4
      [(0, AV.ptr 0 0), (3, AV.sl 2 (Seq.map T.encN ([], []) acc) (Tip.tok 1)), (4, AV.int IntKind.i64 n), (5, AV.int IntKind.i64 i)]
      [AObj.cells [AV.str s, AV.int IntKind.i64 e], AObj.tok] (q106_2 n_1 Post) := fun s e acc n i n Post h => Go.Ab.AWP.loop' g106 (Cfg.live g106) c106_4 (by kernel_rfl) (by kernel_rfl) (Go.Ab.kc (by kernel_rfl) h)
theorem v106_9 : ∀ (s : ByteArray) (e : Int) (acc : List T.Need) (n i : Int) (nm : ByteArray) (sp : List T.Span) (k j : Int) (n_1 : Nat) (Post : AV → List AObj → Prop),
  condP (decide (j < k))
      (ASpec Try.prog 26 [AV.ptr 0 0, AV.int IntKind.i64 (1000000000 : Int)]
        [AObj.cells [AV.str s, AV.int IntKind.i64 e], AObj.tok, AObj.cells [AV.str nm, AV.sl 2 (Seq.map T.encS ((0 : Int), (0 : Int)) sp) (Tip.tok 3)], AObj.tok]
        fun (r : AV) (H' : List AObj) =>
        ∃ (x : Int × ByteArray × Int),
          r = AV.int IntKind.i64 (Prod.fst x) ∧
            H' =
                [AObj.cells [AV.str (Prod.fst (Prod.snd x)), AV.int IntKind.i64 (Prod.snd (Prod.snd x))], AObj.tok,
                  AObj.cells [AV.str nm, AV.sl 2 (Seq.map T.encS ((0 : Int), (0 : Int)) sp) (Tip.tok 3)], AObj.tok] ∧
              ASpec Try.prog 26 [AV.ptr 0 0, AV.int IntKind.i64 (1000000000 : Int)]
                [AObj.cells [AV.str (Prod.fst (Prod.snd x)), AV.int IntKind.i64 (Prod.snd (Prod.snd x))], AObj.tok,
                  AObj.cells [AV.str nm, AV.sl 2 (Seq.map T.encS ((0 : Int), (0 : Int)) sp) (Tip.tok 3)], AObj.tok]
                fun (r : AV) (H' : List AObj) =>
                ∃ (x_1 : Int × ByteArray × Int),
                  r = AV.int IntKind.i64 (Prod.fst x_1) ∧
                    H' =
                        [AObj.cells [AV.str (Prod.fst (Prod.snd x_1)), AV.int IntKind.i64 (Prod.snd (Prod.snd x_1))], AObj.tok,
                          AObj.cells [AV.str nm, AV.sl 2 (Seq.map T.encS ((0 : Int), (0 : Int)) sp) (Tip.tok 3)], AObj.tok] ∧
                      needP ((List.length sp + 1) * 16 ≤ 140737488351232)
                        (AWP Try.prog 47 n_1 c106_9
                          [(0, AV.ptr 0 0), (3, AV.sl 2 (Seq.map T.encN ([], []) acc) (Tip.tok 1)), (4, AV.int IntKind.i64 n),
                            (5, AV.int IntKind.i64 i), (6, AV.ptr 2 0), (7, AV.int IntKind.i64 k),
                            (8, AV.int IntKind.i64 (IntKind.wrap IntKind.i64 (j + (1 : Int))))]
                          [AObj.cells [AV.str (Prod.fst (Prod.snd x_1)), AV.int IntKind.i64 (Prod.snd (Prod.snd x_1))], AObj.tok,
                            AObj.cells
                              [AV.str nm,
                                AV.sl 2
                                  (Seq.app (Seq.map T.encS ((0 : Int), (0 : Int)) sp)
                                    (Seq.raw [[AV.int IntKind.i64 (Prod.fst x), AV.int IntKind.i64 (IntKind.wrap IntKind.i64 (Prod.fst x + Prod.fst x_1))]]))
                                  (Tip.tok 4)],
                            AObj.gone, AObj.tok]
                          (q106_7 n_1 Post)))
      (needP ((List.length acc + 1) * 40 ≤ 140737488351232)
        (AWP Try.prog 47 n_1 c106_4
          [(0, AV.ptr 0 0),
            (3,
              AV.sl 2 (Seq.app (Seq.map T.encN ([], []) acc) (Seq.raw [[AV.str nm, AV.sl 2 (Seq.map T.encS ((0 : Int), (0 : Int)) sp) (Tip.tok 3)]])) (Tip.tok 4)),
            (4, AV.int IntKind.i64 n), (5, AV.int IntKind.i64 (IntKind.wrap IntKind.i64 (i + (1 : Int))))]
          [AObj.cells [AV.str s, AV.int IntKind.i64 e], AObj.gone, AObj.cells [AV.str nm, AV.sl 2 (Seq.map T.encS ((0 : Int), (0 : Int)) sp) (Tip.tok 3)], AObj.tok, AObj.tok]
          (q106_2 n_1 Post))) →
    AWP Try.prog 47 n_1 c106_9
      [(0, AV.ptr 0 0), (3, AV.sl 2 (Seq.map T.encN ([], []) acc) (Tip.tok 1)), (4, AV.int IntKind.i64 n), (5, AV.int IntKind.i64 i),
        (6, AV.ptr 2 0), (7, AV.int IntKind.i64 k), (8, AV.int IntKind.i64 j)]
      [AObj.cells [AV.str s, AV.int IntKind.i64 e], AObj.tok, AObj.cells [AV.str nm, AV.sl 2 (Seq.map T.encS ((0 : Int), (0 : Int)) sp) (Tip.tok 3)], AObj.tok] (q106_7 n_1 Post) := fun s e acc n i nm sp k j n Post h => Go.Ab.AWP.loop' g106 (Cfg.live g106) c106_9 (by kernel_rfl) (by kernel_rfl) (Go.Ab.kc (by kernel_rfl) h)

-- 41
noncomputable def l41 : Nat → List Nat
  | 7 => [2, 4, 5, 6, 7]
  | _ => []
noncomputable def u41 : Nat → Bool
  | _ => false
noncomputable def m41 : Nat → Bool
  | _ => false
noncomputable def g41 : Cfg := { N := 53, live := l41, cut := u41, mu := m41, ret := rets }
noncomputable def c41 : Go.Code := Go.Ab.bodyOf Go.Proofs.Try.f41
noncomputable def q41_0 : Nat → (AV → List AObj → Prop) → AQ := fun (n : Nat) (Post : AV → List AObj → Prop) => endQ Try.prog (resultsOf Try.f41) Post
noncomputable def q41_1 : Nat → (AV → List AObj → Prop) → AQ := fun (n : Nat) (Post : AV → List AObj → Prop) => seqQ (fun (s' : Slots) (H' : List AObj) => awp Try.prog g41 n (codeSnd (codeSnd (codeSnd (codeSnd (codeSnd (codeSnd c41)))))) s' H' (q41_0 n Post)) (q41_0 n Post)
noncomputable def q41_2 : Nat → (AV → List AObj → Prop) → AQ := fun (n : Nat) (Post : AV → List AObj → Prop) => blockQ 0 (q41_1 n Post)
noncomputable def c41_7 : Go.Code := codeFst (codeSnd (codeFst (codeSnd (codeSnd (codeSnd (codeSnd (codeSnd c41)))))))
theorem s41 : ∀ (s : ByteArray) (Post : AV → List AObj → Prop),
  condP (decide ((↑(ByteArray.size s) : Int) > (8192 : Int)))
      (Post (AV.tup [AV.agg [AV.str { data := #[] }, AV.sl 0 (Seq.raw []) Tip.nil], AV.int IntKind.i64 (4 : Int)]) [AObj.cells [AV.str { data := #[] }, AV.sl 0 (Seq.raw []) Tip.nil]])
      (ASpec Try.prog 27 [AV.ptr 1 0, AV.int IntKind.i64 (24 : Int)]
        [AObj.cells [AV.str { data := #[] }, AV.sl 0 (Seq.raw []) Tip.nil], AObj.cells [AV.str s, AV.int IntKind.i64 (0 : Int)]] fun (r : AV) (H' : List AObj) =>
        ∃ (x : ByteArray × ByteArray × Int),
          r = AV.str (Prod.fst x) ∧
            H' = [AObj.cells [AV.str { data := #[] }, AV.sl 0 (Seq.raw []) Tip.nil], AObj.cells [AV.str (Prod.fst (Prod.snd x)), AV.int IntKind.i64 (Prod.snd (Prod.snd x))]] ∧
              ASpec Try.prog 26 [AV.ptr 1 0, AV.int IntKind.i64 (8 : Int)]
                [AObj.cells [AV.str { data := #[] }, AV.sl 0 (Seq.raw []) Tip.nil], AObj.cells [AV.str (Prod.fst (Prod.snd x)), AV.int IntKind.i64 (Prod.snd (Prod.snd x))],
                  AObj.cells [AV.str (Prod.fst x), AV.sl 0 (Seq.raw []) Tip.nil]]
                fun (r : AV) (H' : List AObj) =>
                ∃ (x_1 : Int × ByteArray × Int),
                  r = AV.int IntKind.i64 (Prod.fst x_1) ∧
                    H' =
                        [AObj.cells [AV.str { data := #[] }, AV.sl 0 (Seq.raw []) Tip.nil], AObj.cells [AV.str (Prod.fst (Prod.snd x_1)), AV.int IntKind.i64 (Prod.snd (Prod.snd x_1))],
                          AObj.cells [AV.str (Prod.fst x), AV.sl 0 (Seq.raw []) Tip.nil]] ∧
                      AWP Try.prog 53 0 c41_7
                        [(2, AV.ptr 0 0), (4, AV.ptr 1 0), (5, AV.ptr 2 0), (6, AV.int IntKind.i64 (Prod.fst x_1)),
                          (7, AV.int IntKind.i64 (0 : Int))]
                        [AObj.cells [AV.str { data := #[] }, AV.sl 0 (Seq.raw []) Tip.nil], AObj.cells [AV.str (Prod.fst (Prod.snd x_1)), AV.int IntKind.i64 (Prod.snd (Prod.snd x_1))],
                          AObj.cells [AV.str (Prod.fst x), AV.sl 0 (Seq.raw []) Tip.nil]]
                        (q41_2 0 Post)) →
    ASpec Try.prog 41 [AV.str s] [] Post := fun s Post h => Go.Ab.ASpec.of_vc g41 Go.Proofs.Try.func41 (by kernel_rfl) (by kernel_rfl) (by kernel_rfl) (Go.Ab.kc (by kernel_rfl) h)
theorem v41_7 : ∀ (s : ByteArray) (e : Int) (nm : ByteArray) (acc : List T.Rel) (n i : Int) (n_1 : Nat) (Post : AV → List AObj → Prop),
  condP (decide (i < n))
      (ASpec Try.prog 26 [AV.ptr 1 0, AV.int IntKind.i64 (1000000000 : Int)]
        [AObj.cells [AV.str { data := #[] }, AV.sl 0 (Seq.raw []) Tip.nil], AObj.cells [AV.str s, AV.int IntKind.i64 e],
          AObj.cells [AV.str nm, AV.sl 2 (Seq.map T.encR ((0 : Int), []) acc) (Tip.tok 3)], AObj.tok]
        fun (r : AV) (H' : List AObj) =>
        ∃ (x : Int × ByteArray × Int),
          r = AV.int IntKind.i64 (Prod.fst x) ∧
            H' =
                [AObj.cells [AV.str { data := #[] }, AV.sl 0 (Seq.raw []) Tip.nil], AObj.cells [AV.str (Prod.fst (Prod.snd x)), AV.int IntKind.i64 (Prod.snd (Prod.snd x))],
                  AObj.cells [AV.str nm, AV.sl 2 (Seq.map T.encR ((0 : Int), []) acc) (Tip.tok 3)], AObj.tok] ∧
              ASpec Try.prog 106 [AV.ptr 1 0]
                [AObj.cells [AV.str { data := #[] }, AV.sl 0 (Seq.raw []) Tip.nil], AObj.cells [AV.str (Prod.fst (Prod.snd x)), AV.int IntKind.i64 (Prod.snd (Prod.snd x))],
                  AObj.cells [AV.str nm, AV.sl 2 (Seq.map T.encR ((0 : Int), []) acc) (Tip.tok 3)], AObj.tok,
                  AObj.cells [AV.int IntKind.i64 (Prod.fst x), AV.sl 0 (Seq.raw []) Tip.nil]]
                fun (r : AV) (H' : List AObj) =>
                ∃ (x_1 : List T.Need × ByteArray × Int),
                  r = AV.sl 2 (Seq.map T.encN ([], []) (Prod.fst x_1)) Tip.none ∧
                    H' =
                        [AObj.cells [AV.str { data := #[] }, AV.sl 0 (Seq.raw []) Tip.nil], AObj.cells [AV.str (Prod.fst (Prod.snd x_1)), AV.int IntKind.i64 (Prod.snd (Prod.snd x_1))],
                          AObj.cells [AV.str nm, AV.sl 2 (Seq.map T.encR ((0 : Int), []) acc) (Tip.tok 3)], AObj.tok,
                          AObj.cells [AV.int IntKind.i64 (Prod.fst x), AV.sl 0 (Seq.raw []) Tip.nil]] ∧
                      needP ((List.length acc + 1) * 32 ≤ 140737488351232)
                        (AWP Try.prog 53 n_1 c41_7
                          [(2, AV.ptr 0 0), (4, AV.ptr 1 0), (5, AV.ptr 2 0), (6, AV.int IntKind.i64 n),
                            (7, AV.int IntKind.i64 (IntKind.wrap IntKind.i64 (i + (1 : Int))))]
                          [AObj.cells [AV.str { data := #[] }, AV.sl 0 (Seq.raw []) Tip.nil], AObj.cells [AV.str (Prod.fst (Prod.snd x_1)), AV.int IntKind.i64 (Prod.snd (Prod.snd x_1))],
                            AObj.cells
                              [AV.str nm,
                                AV.sl 2
                                  (Seq.app (Seq.map T.encR ((0 : Int), []) acc) (Seq.raw [[AV.int IntKind.i64 (Prod.fst x), AV.sl 2 (Seq.map T.encN ([], []) (Prod.fst x_1)) Tip.none]]))
                                  (Tip.tok 5)],
                            AObj.gone, AObj.cells [AV.int IntKind.i64 (Prod.fst x), AV.sl 2 (Seq.map T.encN ([], []) (Prod.fst x_1)) Tip.none], AObj.tok]
                          (q41_2 n_1 Post)))
      (ASpec Try.prog 31 [AV.ptr 1 0]
        [AObj.cells [AV.str { data := #[] }, AV.sl 0 (Seq.raw []) Tip.nil], AObj.cells [AV.str s, AV.int IntKind.i64 e],
          AObj.cells [AV.str nm, AV.sl 2 (Seq.map T.encR ((0 : Int), []) acc) (Tip.tok 3)], AObj.tok]
        fun (r : AV) (H' : List AObj) =>
        ∃ (x : Int),
          r = AV.int IntKind.i64 x ∧
            H' =
                [AObj.cells [AV.str { data := #[] }, AV.sl 0 (Seq.raw []) Tip.nil], AObj.cells [AV.str s, AV.int IntKind.i64 e],
                  AObj.cells [AV.str nm, AV.sl 2 (Seq.map T.encR ((0 : Int), []) acc) (Tip.tok 3)], AObj.tok] ∧
              condP (x == (0 : Int))
                (ASpec Try.prog 45 [AV.agg [AV.str nm, AV.sl 2 (Seq.map T.encR ((0 : Int), []) acc) (Tip.tok 3)]]
                  [AObj.cells [AV.str { data := #[] }, AV.sl 0 (Seq.raw []) Tip.nil], AObj.cells [AV.str s, AV.int IntKind.i64 e],
                    AObj.cells [AV.str nm, AV.sl 2 (Seq.map T.encR ((0 : Int), []) acc) (Tip.tok 3)], AObj.tok]
                  fun (r : AV) (H' : List AObj) =>
                  ∃ (x_1 : Bool),
                    r = AV.bool x_1 ∧
                      H' =
                          [AObj.cells [AV.str { data := #[] }, AV.sl 0 (Seq.raw []) Tip.nil], AObj.cells [AV.str s, AV.int IntKind.i64 e],
                            AObj.cells [AV.str nm, AV.sl 2 (Seq.map T.encR ((0 : Int), []) acc) (Tip.tok 3)], AObj.tok] ∧
                        condP (!x_1)
                          (Post (AV.tup [AV.agg [AV.str { data := #[] }, AV.sl 0 (Seq.raw []) Tip.nil], AV.int IntKind.i64 (3 : Int)])
                            [AObj.cells [AV.str { data := #[] }, AV.sl 0 (Seq.raw []) Tip.nil], AObj.cells [AV.str s, AV.int IntKind.i64 e],
                              AObj.cells [AV.str nm, AV.sl 2 (Seq.map T.encR ((0 : Int), []) acc) (Tip.tok 3)], AObj.tok])
                          (condP (x != (0 : Int))
                            (Post (AV.tup [AV.agg [AV.str { data := #[] }, AV.sl 0 (Seq.raw []) Tip.nil], AV.int IntKind.i64 x])
                              [AObj.cells [AV.str { data := #[] }, AV.sl 0 (Seq.raw []) Tip.nil], AObj.cells [AV.str s, AV.int IntKind.i64 e],
                                AObj.cells [AV.str nm, AV.sl 2 (Seq.map T.encR ((0 : Int), []) acc) (Tip.tok 3)], AObj.tok])
                            (Post (AV.tup [AV.agg [AV.str nm, AV.sl 2 (Seq.map T.encR ((0 : Int), []) acc) (Tip.tok 3)], AV.int IntKind.i64 (0 : Int)])
                              [AObj.cells [AV.str nm, AV.sl 2 (Seq.map T.encR ((0 : Int), []) acc) (Tip.tok 3)], AObj.cells [AV.str s, AV.int IntKind.i64 e],
                                AObj.cells [AV.str nm, AV.sl 2 (Seq.map T.encR ((0 : Int), []) acc) (Tip.tok 3)], AObj.tok])))
                (condP (x != (0 : Int))
                  (Post (AV.tup [AV.agg [AV.str { data := #[] }, AV.sl 0 (Seq.raw []) Tip.nil], AV.int IntKind.i64 x])
                    [AObj.cells [AV.str { data := #[] }, AV.sl 0 (Seq.raw []) Tip.nil], AObj.cells [AV.str s, AV.int IntKind.i64 e],
                      AObj.cells [AV.str nm, AV.sl 2 (Seq.map T.encR ((0 : Int), []) acc) (Tip.tok 3)], AObj.tok])
                  (Post (AV.tup [AV.agg [AV.str nm, AV.sl 2 (Seq.map T.encR ((0 : Int), []) acc) (Tip.tok 3)], AV.int IntKind.i64 (0 : Int)])
                    [AObj.cells [AV.str nm, AV.sl 2 (Seq.map T.encR ((0 : Int), []) acc) (Tip.tok 3)], AObj.cells [AV.str s, AV.int IntKind.i64 e],
                      AObj.cells [AV.str nm, AV.sl 2 (Seq.map T.encR ((0 : Int), []) acc) (Tip.tok 3)], AObj.tok]))) →
    AWP Try.prog 53 n_1 c41_7
      [(2, AV.ptr 0 0), (4, AV.ptr 1 0), (5, AV.ptr 2 0), (6, AV.int IntKind.i64 n), (7, AV.int IntKind.i64 i)]
      [AObj.cells [AV.str { data := #[] }, AV.sl 0 (Seq.raw []) Tip.nil], AObj.cells [AV.str s, AV.int IntKind.i64 e],
        AObj.cells [AV.str nm, AV.sl 2 (Seq.map T.encR ((0 : Int), []) acc) (Tip.tok 3)], AObj.tok]
      (q41_2 n_1 Post) := fun s e nm acc n i n Post h => Go.Ab.AWP.loop' g41 (Cfg.live g41) c41_7 (by kernel_rfl) (by kernel_rfl) (Go.Ab.kc (by kernel_rfl) h)

-- 39
noncomputable def l39 : Nat → List Nat
  | _ => []
noncomputable def u39 : Nat → Bool
  | _ => false
noncomputable def m39 : Nat → Bool
  | _ => false
noncomputable def g39 : Cfg := { N := 5, live := l39, cut := u39, mu := m39, ret := rets }
noncomputable def c39 : Go.Code := Go.Ab.bodyOf Go.Proofs.Try.f39
theorem s39 : ∀ (Post : AV → List AObj → Prop),
  (ASpec Try.prog 42 [AV.agg [AV.str { data := #[(97 : UInt8)] }, AV.sl 0 (Seq.raw []) Tip.nil]] [] fun (r : AV) (H' : List AObj) =>
      ∃ (x : List UInt8),
        r = AV.sl 1 (Seq.map encB (0 : UInt8) x) Tip.none ∧
          H' = [] ∧
            needP (allBytes (Seq.map encB (0 : UInt8) x))
              (Post (AV.bool (ByteArray.toList (bytesOf (Seq.map encB (0 : UInt8) x)) == ByteArray.toList { data := #[(1 : UInt8), (97 : UInt8), (0 : UInt8)] })) [])) →
    ASpec Try.prog 39 [] [] Post := fun Post h => Go.Ab.ASpec.of_vc g39 Go.Proofs.Try.func39 (by kernel_rfl) (by kernel_rfl) (by kernel_rfl) (Go.Ab.kc (by kernel_rfl) h)

-- 9
noncomputable def l9 : Nat → List Nat
  | 3 => [1, 2]
  | _ => []
noncomputable def u9 : Nat → Bool
  | 3 => true
  | _ => false
noncomputable def m9 : Nat → Bool
  | _ => false
noncomputable def g9 : Cfg := { N := 47, live := l9, cut := u9, mu := m9, ret := rets }
noncomputable def c9 : Go.Code := Go.Ab.bodyOf Go.Proofs.Try.f9
noncomputable def q9_0 : Nat → (AV → List AObj → Prop) → AQ := fun (n : Nat) (Post : AV → List AObj → Prop) => endQ Try.prog (resultsOf Try.f9) Post
noncomputable def c9_3 : Go.Code := codeSnd (codeSnd c9)
theorem s9 : ∀ (m : T.Mani) (bs : List UInt8) (Post : AV → List AObj → Prop),
  (ASpec Try.prog 38 [AV.agg [AV.str { data := List.toArray (Prod.fst m) }, AV.sl 2 (Seq.map T.encR ((0 : Int), []) (Prod.snd m)) Tip.none]]
      [AObj.cells [AV.str { data := List.toArray (Prod.fst m) }, AV.sl 2 (Seq.map T.encR ((0 : Int), []) (Prod.snd m)) Tip.none]] fun (r : AV) (H' : List AObj) =>
      ∃ (x : Bool),
        r = AV.bool x ∧
          H' = [AObj.cells [AV.str { data := List.toArray (Prod.fst m) }, AV.sl 2 (Seq.map T.encR ((0 : Int), []) (Prod.snd m)) Tip.none]] ∧
            condP x
              (ASpec Try.prog 39 [] [AObj.cells [AV.str { data := List.toArray (Prod.fst m) }, AV.sl 2 (Seq.map T.encR ((0 : Int), []) (Prod.snd m)) Tip.none]]
                fun (r : AV) (H' : List AObj) =>
                ∃ (x : Unit),
                  r = AV.bool true ∧
                    H' = [AObj.cells [AV.str { data := List.toArray (Prod.fst m) }, AV.sl 2 (Seq.map T.encR ((0 : Int), []) (Prod.snd m)) Tip.none]] ∧
                      Post (AV.bool true) [AObj.cells [AV.str { data := List.toArray (Prod.fst m) }, AV.sl 2 (Seq.map T.encR ((0 : Int), []) (Prod.snd m)) Tip.none]])
              (condP (decide ((↑(List.length bs) : Int) > (20000 : Int)))
                (ASpec Try.prog 39 [] [AObj.cells [AV.str { data := List.toArray (Prod.fst m) }, AV.sl 2 (Seq.map T.encR ((0 : Int), []) (Prod.snd m)) Tip.none]]
                  fun (r : AV) (H' : List AObj) =>
                  ∃ (x : Unit),
                    r = AV.bool true ∧
                      H' = [AObj.cells [AV.str { data := List.toArray (Prod.fst m) }, AV.sl 2 (Seq.map T.encR ((0 : Int), []) (Prod.snd m)) Tip.none]] ∧
                        Post (AV.bool true) [AObj.cells [AV.str { data := List.toArray (Prod.fst m) }, AV.sl 2 (Seq.map T.encR ((0 : Int), []) (Prod.snd m)) Tip.none]])
                (AWP Try.prog 47 0 c9_3 [(1, AV.sl 1 (Seq.map encB (0 : UInt8) bs) Tip.none), (2, AV.ptr 0 0)]
                  [AObj.cells [AV.str { data := List.toArray (Prod.fst m) }, AV.sl 2 (Seq.map T.encR ((0 : Int), []) (Prod.snd m)) Tip.none]] (q9_0 0 Post)))) →
    ASpec Try.prog 9 [AV.agg (T.encM m), AV.sl 1 (Seq.map encB (0 : UInt8) bs) Tip.none] [] Post := fun m bs Post h => Go.Ab.ASpec.of_vc g9 Go.Proofs.Try.func9 (by kernel_rfl) (by kernel_rfl) (by kernel_rfl) (Go.Ab.kc (by kernel_rfl) h)
theorem v9_3 : ∀ (m : T.Mani) (bs : List UInt8) (n : Nat) (Post : AV → List AObj → Prop),
  (ASpec Try.prog 40 [AV.sl 1 (Seq.map encB (0 : UInt8) bs) Tip.none]
      [AObj.cells [AV.str { data := List.toArray (Prod.fst m) }, AV.sl 2 (Seq.map T.encR ((0 : Int), []) (Prod.snd m)) Tip.none]] fun (r : AV) (H' : List AObj) =>
      ∃ (x : T.Mani × Int),
        r =
            AV.tup
              [AV.agg [AV.str { data := List.toArray (Prod.fst (Prod.fst x)) }, AV.sl 2 (Seq.map T.encR ((0 : Int), []) (Prod.snd (Prod.fst x))) Tip.none], AV.int IntKind.i64 (Prod.snd x)] ∧
          H' = [AObj.cells [AV.str { data := List.toArray (Prod.fst m) }, AV.sl 2 (Seq.map T.encR ((0 : Int), []) (Prod.snd m)) Tip.none]] ∧
            needP (allBytes (Seq.map encB (0 : UInt8) bs))
              (ASpec Try.prog 41 [AV.str (bytesOf (Seq.map encB (0 : UInt8) bs))]
                [AObj.cells [AV.str { data := List.toArray (Prod.fst m) }, AV.sl 2 (Seq.map T.encR ((0 : Int), []) (Prod.snd m)) Tip.none],
                  AObj.cells [AV.str { data := List.toArray (Prod.fst (Prod.fst x)) }, AV.sl 2 (Seq.map T.encR ((0 : Int), []) (Prod.snd (Prod.fst x))) Tip.none]]
                fun (r : AV) (H' : List AObj) =>
                ∃ (x_1 : T.Mani × Int),
                  r =
                      AV.tup
                        [AV.agg [AV.str { data := List.toArray (Prod.fst (Prod.fst x_1)) }, AV.sl 2 (Seq.map T.encR ((0 : Int), []) (Prod.snd (Prod.fst x_1))) Tip.none],
                          AV.int IntKind.i64 (Prod.snd x_1)] ∧
                    H' =
                        [AObj.cells [AV.str { data := List.toArray (Prod.fst m) }, AV.sl 2 (Seq.map T.encR ((0 : Int), []) (Prod.snd m)) Tip.none],
                          AObj.cells [AV.str { data := List.toArray (Prod.fst (Prod.fst x)) }, AV.sl 2 (Seq.map T.encR ((0 : Int), []) (Prod.snd (Prod.fst x))) Tip.none]] ∧
                      ASpec Try.prog 42 [AV.agg [AV.str { data := List.toArray (Prod.fst m) }, AV.sl 2 (Seq.map T.encR ((0 : Int), []) (Prod.snd m)) Tip.none]]
                        [AObj.cells [AV.str { data := List.toArray (Prod.fst m) }, AV.sl 2 (Seq.map T.encR ((0 : Int), []) (Prod.snd m)) Tip.none],
                          AObj.cells [AV.str { data := List.toArray (Prod.fst (Prod.fst x)) }, AV.sl 2 (Seq.map T.encR ((0 : Int), []) (Prod.snd (Prod.fst x))) Tip.none],
                          AObj.cells [AV.str { data := List.toArray (Prod.fst (Prod.fst x_1)) }, AV.sl 2 (Seq.map T.encR ((0 : Int), []) (Prod.snd (Prod.fst x_1))) Tip.none]]
                        fun (r : AV) (H' : List AObj) =>
                        ∃ (x_2 : List UInt8),
                          r = AV.sl 1 (Seq.map encB (0 : UInt8) x_2) Tip.none ∧
                            H' =
                                [AObj.cells [AV.str { data := List.toArray (Prod.fst m) }, AV.sl 2 (Seq.map T.encR ((0 : Int), []) (Prod.snd m)) Tip.none],
                                  AObj.cells [AV.str { data := List.toArray (Prod.fst (Prod.fst x)) }, AV.sl 2 (Seq.map T.encR ((0 : Int), []) (Prod.snd (Prod.fst x))) Tip.none],
                                  AObj.cells [AV.str { data := List.toArray (Prod.fst (Prod.fst x_1)) }, AV.sl 2 (Seq.map T.encR ((0 : Int), []) (Prod.snd (Prod.fst x_1))) Tip.none]] ∧
                              (AV.agg [AV.str { data := List.toArray (Prod.fst m) }, AV.sl 2 (Seq.map T.encR ((0 : Int), []) (Prod.snd m)) Tip.none] =
                                    AV.agg [AV.str { data := List.toArray (Prod.fst m) }, AV.sl 2 (Seq.map T.encR ((0 : Int), []) (Prod.snd m)) Tip.none] ∧
                                  [AObj.cells [AV.str { data := List.toArray (Prod.fst m) }, AV.sl 2 (Seq.map T.encR ((0 : Int), []) (Prod.snd m)) Tip.none],
                                      AObj.cells [AV.str { data := List.toArray (Prod.fst (Prod.fst x)) }, AV.sl 2 (Seq.map T.encR ((0 : Int), []) (Prod.snd (Prod.fst x))) Tip.none],
                                      AObj.cells [AV.str { data := List.toArray (Prod.fst (Prod.fst x_1)) }, AV.sl 2 (Seq.map T.encR ((0 : Int), []) (Prod.snd (Prod.fst x_1))) Tip.none]] =
                                    [AObj.cells [AV.str { data := List.toArray (Prod.fst m) }, AV.sl 2 (Seq.map T.encR ((0 : Int), []) (Prod.snd m)) Tip.none],
                                      AObj.cells [AV.str { data := List.toArray (Prod.fst (Prod.fst x)) }, AV.sl 2 (Seq.map T.encR ((0 : Int), []) (Prod.snd (Prod.fst x))) Tip.none],
                                      AObj.cells [AV.str { data := List.toArray (Prod.fst (Prod.fst x_1)) }, AV.sl 2 (Seq.map T.encR ((0 : Int), []) (Prod.snd (Prod.fst x_1))) Tip.none]]) ∧
                                needP (allBytes (Seq.map encB (0 : UInt8) x_2))
                                  (ASpec Try.prog 43 [AV.agg [AV.str { data := List.toArray (Prod.fst m) }, AV.sl 2 (Seq.map T.encR ((0 : Int), []) (Prod.snd m)) Tip.none]]
                                    [AObj.cells [AV.str { data := List.toArray (Prod.fst m) }, AV.sl 2 (Seq.map T.encR ((0 : Int), []) (Prod.snd m)) Tip.none],
                                      AObj.cells [AV.str { data := List.toArray (Prod.fst (Prod.fst x)) }, AV.sl 2 (Seq.map T.encR ((0 : Int), []) (Prod.snd (Prod.fst x))) Tip.none],
                                      AObj.cells [AV.str { data := List.toArray (Prod.fst (Prod.fst x_1)) }, AV.sl 2 (Seq.map T.encR ((0 : Int), []) (Prod.snd (Prod.fst x_1))) Tip.none]]
                                    fun (r : AV) (H' : List AObj) =>
                                    ∃ (x_3 : ByteArray),
                                      r = AV.str x_3 ∧
                                        H' =
                                            [AObj.cells [AV.str { data := List.toArray (Prod.fst m) }, AV.sl 2 (Seq.map T.encR ((0 : Int), []) (Prod.snd m)) Tip.none],
                                              AObj.cells [AV.str { data := List.toArray (Prod.fst (Prod.fst x)) }, AV.sl 2 (Seq.map T.encR ((0 : Int), []) (Prod.snd (Prod.fst x))) Tip.none],
                                              AObj.cells
                                                [AV.str { data := List.toArray (Prod.fst (Prod.fst x_1)) }, AV.sl 2 (Seq.map T.encR ((0 : Int), []) (Prod.snd (Prod.fst x_1))) Tip.none]] ∧
                                          condP (ByteArray.toList (bytesOf (Seq.map encB (0 : UInt8) x_2)) == ByteArray.toList x_3)
                                            (ASpec Try.prog 44
                                              [AV.agg [AV.str { data := List.toArray (Prod.fst (Prod.fst x)) }, AV.sl 2 (Seq.map T.encR ((0 : Int), []) (Prod.snd (Prod.fst x))) Tip.none],
                                                AV.agg [AV.str { data := List.toArray (Prod.fst (Prod.fst x_1)) }, AV.sl 2 (Seq.map T.encR ((0 : Int), []) (Prod.snd (Prod.fst x_1))) Tip.none]]
                                              [AObj.cells [AV.str { data := List.toArray (Prod.fst m) }, AV.sl 2 (Seq.map T.encR ((0 : Int), []) (Prod.snd m)) Tip.none],
                                                AObj.cells [AV.str { data := List.toArray (Prod.fst (Prod.fst x)) }, AV.sl 2 (Seq.map T.encR ((0 : Int), []) (Prod.snd (Prod.fst x))) Tip.none],
                                                AObj.cells
                                                  [AV.str { data := List.toArray (Prod.fst (Prod.fst x_1)) }, AV.sl 2 (Seq.map T.encR ((0 : Int), []) (Prod.snd (Prod.fst x_1))) Tip.none]]
                                              fun (r : AV) (H' : List AObj) =>
                                              ∃ (x_4 : Bool),
                                                r = AV.bool x_4 ∧
                                                  H' =
                                                      [AObj.cells [AV.str { data := List.toArray (Prod.fst m) }, AV.sl 2 (Seq.map T.encR ((0 : Int), []) (Prod.snd m)) Tip.none],
                                                        AObj.cells
                                                          [AV.str { data := List.toArray (Prod.fst (Prod.fst x)) }, AV.sl 2 (Seq.map T.encR ((0 : Int), []) (Prod.snd (Prod.fst x))) Tip.none],
                                                        AObj.cells
                                                          [AV.str { data := List.toArray (Prod.fst (Prod.fst x_1)) },
                                                            AV.sl 2 (Seq.map T.encR ((0 : Int), []) (Prod.snd (Prod.fst x_1))) Tip.none]] ∧
                                                    condP x_4
                                                      (condP (Prod.snd x == Prod.snd x_1)
                                                        (ASpec Try.prog 39 []
                                                          [AObj.cells [AV.str { data := List.toArray (Prod.fst m) }, AV.sl 2 (Seq.map T.encR ((0 : Int), []) (Prod.snd m)) Tip.none],
                                                            AObj.cells
                                                              [AV.str { data := List.toArray (Prod.fst (Prod.fst x)) },
                                                                AV.sl 2 (Seq.map T.encR ((0 : Int), []) (Prod.snd (Prod.fst x))) Tip.none],
                                                            AObj.cells
                                                              [AV.str { data := List.toArray (Prod.fst (Prod.fst x_1)) },
                                                                AV.sl 2 (Seq.map T.encR ((0 : Int), []) (Prod.snd (Prod.fst x_1))) Tip.none]]
                                                          fun (r : AV) (H' : List AObj) =>
                                                          ∃ (x_5 : Unit),
                                                            r = AV.bool true ∧
                                                              H' =
                                                                  [AObj.cells [AV.str { data := List.toArray (Prod.fst m) }, AV.sl 2 (Seq.map T.encR ((0 : Int), []) (Prod.snd m)) Tip.none],
                                                                    AObj.cells
                                                                      [AV.str { data := List.toArray (Prod.fst (Prod.fst x)) },
                                                                        AV.sl 2 (Seq.map T.encR ((0 : Int), []) (Prod.snd (Prod.fst x))) Tip.none],
                                                                    AObj.cells
                                                                      [AV.str { data := List.toArray (Prod.fst (Prod.fst x_1)) },
                                                                        AV.sl 2 (Seq.map T.encR ((0 : Int), []) (Prod.snd (Prod.fst x_1))) Tip.none]] ∧
                                                                Post (AV.bool true)
                                                                  [AObj.cells [AV.str { data := List.toArray (Prod.fst m) }, AV.sl 2 (Seq.map T.encR ((0 : Int), []) (Prod.snd m)) Tip.none],
                                                                    AObj.cells
                                                                      [AV.str { data := List.toArray (Prod.fst (Prod.fst x)) },
                                                                        AV.sl 2 (Seq.map T.encR ((0 : Int), []) (Prod.snd (Prod.fst x))) Tip.none],
                                                                    AObj.cells
                                                                      [AV.str { data := List.toArray (Prod.fst (Prod.fst x_1)) },
                                                                        AV.sl 2 (Seq.map T.encR ((0 : Int), []) (Prod.snd (Prod.fst x_1))) Tip.none]])
                                                        (Post (AV.bool false)
                                                          [AObj.cells [AV.str { data := List.toArray (Prod.fst m) }, AV.sl 2 (Seq.map T.encR ((0 : Int), []) (Prod.snd m)) Tip.none],
                                                            AObj.cells
                                                              [AV.str { data := List.toArray (Prod.fst (Prod.fst x)) },
                                                                AV.sl 2 (Seq.map T.encR ((0 : Int), []) (Prod.snd (Prod.fst x))) Tip.none],
                                                            AObj.cells
                                                              [AV.str { data := List.toArray (Prod.fst (Prod.fst x_1)) },
                                                                AV.sl 2 (Seq.map T.encR ((0 : Int), []) (Prod.snd (Prod.fst x_1))) Tip.none]]))
                                                      (Post (AV.bool false)
                                                        [AObj.cells [AV.str { data := List.toArray (Prod.fst m) }, AV.sl 2 (Seq.map T.encR ((0 : Int), []) (Prod.snd m)) Tip.none],
                                                          AObj.cells
                                                            [AV.str { data := List.toArray (Prod.fst (Prod.fst x)) },
                                                              AV.sl 2 (Seq.map T.encR ((0 : Int), []) (Prod.snd (Prod.fst x))) Tip.none],
                                                          AObj.cells
                                                            [AV.str { data := List.toArray (Prod.fst (Prod.fst x_1)) },
                                                              AV.sl 2 (Seq.map T.encR ((0 : Int), []) (Prod.snd (Prod.fst x_1))) Tip.none]]))
                                            (Post (AV.bool false)
                                              [AObj.cells [AV.str { data := List.toArray (Prod.fst m) }, AV.sl 2 (Seq.map T.encR ((0 : Int), []) (Prod.snd m)) Tip.none],
                                                AObj.cells [AV.str { data := List.toArray (Prod.fst (Prod.fst x)) }, AV.sl 2 (Seq.map T.encR ((0 : Int), []) (Prod.snd (Prod.fst x))) Tip.none],
                                                AObj.cells
                                                  [AV.str { data := List.toArray (Prod.fst (Prod.fst x_1)) },
                                                    AV.sl 2 (Seq.map T.encR ((0 : Int), []) (Prod.snd (Prod.fst x_1))) Tip.none]])))) →
    AWP Try.prog 47 n c9_3 [(1, AV.sl 1 (Seq.map encB (0 : UInt8) bs) Tip.none), (2, AV.ptr 0 0)] [AObj.cells (T.encM m)] (q9_0 n Post) := fun m bs n Post h => Go.Ab.awp_sound g9 n _ _ _ _ (Go.Ab.kc (by kernel_rfl) h)

-- 10
noncomputable def l10 : Nat → List Nat
  | 3 => [1, 2]
  | 8 => [1]
  | _ => []
noncomputable def u10 : Nat → Bool
  | 3 => true
  | 8 => true
  | _ => false
noncomputable def m10 : Nat → Bool
  | _ => false
noncomputable def g10 : Cfg := { N := 68, live := l10, cut := u10, mu := m10, ret := rets }
noncomputable def c10 : Go.Code := Go.Ab.bodyOf Go.Proofs.Try.f10
noncomputable def q10_0 : Nat → (AV → List AObj → Prop) → AQ := fun (n : Nat) (Post : AV → List AObj → Prop) => endQ Try.prog (resultsOf Try.f10) Post
noncomputable def c10_3 : Go.Code := codeSnd (codeSnd c10)
theorem s10 : ∀ (m : T.Mani) (bs : List UInt8) (Post : AV → List AObj → Prop),
  condP (decide ((↑(List.length bs) : Int) > (20000 : Int)))
      (ASpec Try.prog 39 [] [AObj.cells [AV.str { data := List.toArray (Prod.fst m) }, AV.sl 2 (Seq.map T.encR ((0 : Int), []) (Prod.snd m)) Tip.none]] fun (r : AV) (H' : List AObj) =>
        ∃ (x : Unit),
          r = AV.bool true ∧
            H' = [AObj.cells [AV.str { data := List.toArray (Prod.fst m) }, AV.sl 2 (Seq.map T.encR ((0 : Int), []) (Prod.snd m)) Tip.none]] ∧
              Post (AV.bool true) [AObj.cells [AV.str { data := List.toArray (Prod.fst m) }, AV.sl 2 (Seq.map T.encR ((0 : Int), []) (Prod.snd m)) Tip.none]])
      (AWP Try.prog 68 0 c10_3 [(1, AV.sl 1 (Seq.map encB (0 : UInt8) bs) Tip.none), (2, AV.ptr 0 0)]
        [AObj.cells [AV.str { data := List.toArray (Prod.fst m) }, AV.sl 2 (Seq.map T.encR ((0 : Int), []) (Prod.snd m)) Tip.none]] (q10_0 0 Post)) →
    ASpec Try.prog 10 [AV.agg (T.encM m), AV.sl 1 (Seq.map encB (0 : UInt8) bs) Tip.none] [] Post := fun m bs Post h => Go.Ab.ASpec.of_vc g10 Go.Proofs.Try.func10 (by kernel_rfl) (by kernel_rfl) (by kernel_rfl) (Go.Ab.kc (by kernel_rfl) h)
noncomputable def c10_8 : Go.Code := codeSnd c10_3
theorem v10_3 : ∀ (m : T.Mani) (bs : List UInt8) (n : Nat) (Post : AV → List AObj → Prop),
  (ASpec Try.prog 38 [AV.agg [AV.str { data := List.toArray (Prod.fst m) }, AV.sl 2 (Seq.map T.encR ((0 : Int), []) (Prod.snd m)) Tip.none]]
      [AObj.cells [AV.str { data := List.toArray (Prod.fst m) }, AV.sl 2 (Seq.map T.encR ((0 : Int), []) (Prod.snd m)) Tip.none]] fun (r : AV) (H' : List AObj) =>
      ∃ (x : Bool),
        r = AV.bool x ∧
          H' = [AObj.cells [AV.str { data := List.toArray (Prod.fst m) }, AV.sl 2 (Seq.map T.encR ((0 : Int), []) (Prod.snd m)) Tip.none]] ∧
            condP (!x)
              (ASpec Try.prog 45 [AV.agg [AV.str { data := List.toArray (Prod.fst m) }, AV.sl 2 (Seq.map T.encR ((0 : Int), []) (Prod.snd m)) Tip.none]]
                [AObj.cells [AV.str { data := List.toArray (Prod.fst m) }, AV.sl 2 (Seq.map T.encR ((0 : Int), []) (Prod.snd m)) Tip.none]] fun (r : AV) (H' : List AObj) =>
                ∃ (x : Bool),
                  r = AV.bool x ∧
                    H' = [AObj.cells [AV.str { data := List.toArray (Prod.fst m) }, AV.sl 2 (Seq.map T.encR ((0 : Int), []) (Prod.snd m)) Tip.none]] ∧
                      condP x
                        (ASpec Try.prog 42 [AV.agg [AV.str { data := List.toArray (Prod.fst m) }, AV.sl 2 (Seq.map T.encR ((0 : Int), []) (Prod.snd m)) Tip.none]]
                          [AObj.cells [AV.str { data := List.toArray (Prod.fst m) }, AV.sl 2 (Seq.map T.encR ((0 : Int), []) (Prod.snd m)) Tip.none]] fun (r : AV) (H' : List AObj) =>
                          ∃ (x : List UInt8),
                            r = AV.sl 1 (Seq.map encB (0 : UInt8) x) Tip.none ∧
                              H' = [AObj.cells [AV.str { data := List.toArray (Prod.fst m) }, AV.sl 2 (Seq.map T.encR ((0 : Int), []) (Prod.snd m)) Tip.none]] ∧
                                ASpec Try.prog 40 [AV.sl 1 (Seq.map encB (0 : UInt8) x) Tip.none]
                                  [AObj.cells [AV.str { data := List.toArray (Prod.fst m) }, AV.sl 2 (Seq.map T.encR ((0 : Int), []) (Prod.snd m)) Tip.none]] fun (r : AV) (H' : List AObj) =>
                                  ∃ (x_1 : T.Mani × Int),
                                    r =
                                        AV.tup
                                          [AV.agg [AV.str { data := List.toArray (Prod.fst (Prod.fst x_1)) }, AV.sl 2 (Seq.map T.encR ((0 : Int), []) (Prod.snd (Prod.fst x_1))) Tip.none],
                                            AV.int IntKind.i64 (Prod.snd x_1)] ∧
                                      H' = [AObj.cells [AV.str { data := List.toArray (Prod.fst m) }, AV.sl 2 (Seq.map T.encR ((0 : Int), []) (Prod.snd m)) Tip.none]] ∧
                                        condP (Prod.snd x_1 != (0 : Int))
                                          (Post (AV.bool false)
                                            [AObj.cells [AV.str { data := List.toArray (Prod.fst m) }, AV.sl 2 (Seq.map T.encR ((0 : Int), []) (Prod.snd m)) Tip.none],
                                              AObj.cells
                                                [AV.str { data := List.toArray (Prod.fst (Prod.fst x_1)) }, AV.sl 2 (Seq.map T.encR ((0 : Int), []) (Prod.snd (Prod.fst x_1))) Tip.none]])
                                          (ASpec Try.prog 44
                                            [AV.agg [AV.str { data := List.toArray (Prod.fst (Prod.fst x_1)) }, AV.sl 2 (Seq.map T.encR ((0 : Int), []) (Prod.snd (Prod.fst x_1))) Tip.none],
                                              AV.agg [AV.str { data := List.toArray (Prod.fst m) }, AV.sl 2 (Seq.map T.encR ((0 : Int), []) (Prod.snd m)) Tip.none]]
                                            [AObj.cells [AV.str { data := List.toArray (Prod.fst m) }, AV.sl 2 (Seq.map T.encR ((0 : Int), []) (Prod.snd m)) Tip.none],
                                              AObj.cells
                                                [AV.str { data := List.toArray (Prod.fst (Prod.fst x_1)) }, AV.sl 2 (Seq.map T.encR ((0 : Int), []) (Prod.snd (Prod.fst x_1))) Tip.none]]
                                            fun (r : AV) (H' : List AObj) =>
                                            ∃ (x_2 : Bool),
                                              r = AV.bool x_2 ∧
                                                H' =
                                                    [AObj.cells [AV.str { data := List.toArray (Prod.fst m) }, AV.sl 2 (Seq.map T.encR ((0 : Int), []) (Prod.snd m)) Tip.none],
                                                      AObj.cells
                                                        [AV.str { data := List.toArray (Prod.fst (Prod.fst x_1)) },
                                                          AV.sl 2 (Seq.map T.encR ((0 : Int), []) (Prod.snd (Prod.fst x_1))) Tip.none]] ∧
                                                  condP (!x_2)
                                                    (Post (AV.bool false)
                                                      [AObj.cells [AV.str { data := List.toArray (Prod.fst m) }, AV.sl 2 (Seq.map T.encR ((0 : Int), []) (Prod.snd m)) Tip.none],
                                                        AObj.cells
                                                          [AV.str { data := List.toArray (Prod.fst (Prod.fst x_1)) },
                                                            AV.sl 2 (Seq.map T.encR ((0 : Int), []) (Prod.snd (Prod.fst x_1))) Tip.none]])
                                                    (condP (decide ((↑(List.length x) : Int) > (8192 : Int)))
                                                      (Post (AV.bool false)
                                                        [AObj.cells [AV.str { data := List.toArray (Prod.fst m) }, AV.sl 2 (Seq.map T.encR ((0 : Int), []) (Prod.snd m)) Tip.none],
                                                          AObj.cells
                                                            [AV.str { data := List.toArray (Prod.fst (Prod.fst x_1)) },
                                                              AV.sl 2 (Seq.map T.encR ((0 : Int), []) (Prod.snd (Prod.fst x_1))) Tip.none]])
                                                      (condP ((↑(List.length x) : Int) == (0 : Int))
                                                        (Post (AV.bool false)
                                                          [AObj.cells [AV.str { data := List.toArray (Prod.fst m) }, AV.sl 2 (Seq.map T.encR ((0 : Int), []) (Prod.snd m)) Tip.none],
                                                            AObj.cells
                                                              [AV.str { data := List.toArray (Prod.fst (Prod.fst x_1)) },
                                                                AV.sl 2 (Seq.map T.encR ((0 : Int), []) (Prod.snd (Prod.fst x_1))) Tip.none]])
                                                        (AWP Try.prog 68 n c10_8 [(1, AV.sl 1 (Seq.map encB (0 : UInt8) bs) Tip.none)]
                                                          [AObj.cells [AV.str { data := List.toArray (Prod.fst m) }, AV.sl 2 (Seq.map T.encR ((0 : Int), []) (Prod.snd m)) Tip.none],
                                                            AObj.cells
                                                              [AV.str { data := List.toArray (Prod.fst (Prod.fst x_1)) },
                                                                AV.sl 2 (Seq.map T.encR ((0 : Int), []) (Prod.snd (Prod.fst x_1))) Tip.none]]
                                                          (q10_0 n Post))))))
                        (AWP Try.prog 68 n c10_8 [(1, AV.sl 1 (Seq.map encB (0 : UInt8) bs) Tip.none)]
                          [AObj.cells [AV.str { data := List.toArray (Prod.fst m) }, AV.sl 2 (Seq.map T.encR ((0 : Int), []) (Prod.snd m)) Tip.none]] (q10_0 n Post)))
              (AWP Try.prog 68 n c10_8 [(1, AV.sl 1 (Seq.map encB (0 : UInt8) bs) Tip.none)]
                [AObj.cells [AV.str { data := List.toArray (Prod.fst m) }, AV.sl 2 (Seq.map T.encR ((0 : Int), []) (Prod.snd m)) Tip.none]] (q10_0 n Post))) →
    AWP Try.prog 68 n c10_3 [(1, AV.sl 1 (Seq.map encB (0 : UInt8) bs) Tip.none), (2, AV.ptr 0 0)] [AObj.cells (T.encM m)] (q10_0 n Post) := fun m bs n Post h => Go.Ab.awp_sound g10 n _ _ _ _ (Go.Ab.kc (by kernel_rfl) h)
theorem v10_8 : ∀ (bs : List UInt8) (n : Nat) (Post : AV → List AObj → Prop),
  (ASpec Try.prog 40 [AV.sl 1 (Seq.map encB (0 : UInt8) bs) Tip.none] [] fun (r : AV) (H' : List AObj) =>
      ∃ (x : T.Mani × Int),
        r =
            AV.tup
              [AV.agg [AV.str { data := List.toArray (Prod.fst (Prod.fst x)) }, AV.sl 2 (Seq.map T.encR ((0 : Int), []) (Prod.snd (Prod.fst x))) Tip.none], AV.int IntKind.i64 (Prod.snd x)] ∧
          H' = [] ∧
            condP (Prod.snd x != (0 : Int))
              (ASpec Try.prog 39 [] [AObj.cells [AV.str { data := List.toArray (Prod.fst (Prod.fst x)) }, AV.sl 2 (Seq.map T.encR ((0 : Int), []) (Prod.snd (Prod.fst x))) Tip.none]]
                fun (r : AV) (H' : List AObj) =>
                ∃ (x_1 : Unit),
                  r = AV.bool true ∧
                    H' = [AObj.cells [AV.str { data := List.toArray (Prod.fst (Prod.fst x)) }, AV.sl 2 (Seq.map T.encR ((0 : Int), []) (Prod.snd (Prod.fst x))) Tip.none]] ∧
                      Post (AV.bool true) [AObj.cells [AV.str { data := List.toArray (Prod.fst (Prod.fst x)) }, AV.sl 2 (Seq.map T.encR ((0 : Int), []) (Prod.snd (Prod.fst x))) Tip.none]])
              (needP (allBytes (Seq.map encB (0 : UInt8) bs))
                (ASpec Try.prog 42 [AV.agg [AV.str { data := List.toArray (Prod.fst (Prod.fst x)) }, AV.sl 2 (Seq.map T.encR ((0 : Int), []) (Prod.snd (Prod.fst x))) Tip.none]]
                  [AObj.cells [AV.str { data := List.toArray (Prod.fst (Prod.fst x)) }, AV.sl 2 (Seq.map T.encR ((0 : Int), []) (Prod.snd (Prod.fst x))) Tip.none]]
                  fun (r : AV) (H' : List AObj) =>
                  ∃ (x_1 : List UInt8),
                    r = AV.sl 1 (Seq.map encB (0 : UInt8) x_1) Tip.none ∧
                      H' = [AObj.cells [AV.str { data := List.toArray (Prod.fst (Prod.fst x)) }, AV.sl 2 (Seq.map T.encR ((0 : Int), []) (Prod.snd (Prod.fst x))) Tip.none]] ∧
                        needP (allBytes (Seq.map encB (0 : UInt8) x_1))
                          (condP (ByteArray.toList (bytesOf (Seq.map encB (0 : UInt8) x_1)) == ByteArray.toList (bytesOf (Seq.map encB (0 : UInt8) bs)))
                            (ASpec Try.prog 45
                              [AV.agg [AV.str { data := List.toArray (Prod.fst (Prod.fst x)) }, AV.sl 2 (Seq.map T.encR ((0 : Int), []) (Prod.snd (Prod.fst x))) Tip.none]]
                              [AObj.cells [AV.str { data := List.toArray (Prod.fst (Prod.fst x)) }, AV.sl 2 (Seq.map T.encR ((0 : Int), []) (Prod.snd (Prod.fst x))) Tip.none]]
                              fun (r : AV) (H' : List AObj) =>
                              ∃ (x_2 : Bool),
                                r = AV.bool x_2 ∧
                                  H' = [AObj.cells [AV.str { data := List.toArray (Prod.fst (Prod.fst x)) }, AV.sl 2 (Seq.map T.encR ((0 : Int), []) (Prod.snd (Prod.fst x))) Tip.none]] ∧
                                    condP x_2
                                      (ASpec Try.prog 39 []
                                        [AObj.cells [AV.str { data := List.toArray (Prod.fst (Prod.fst x)) }, AV.sl 2 (Seq.map T.encR ((0 : Int), []) (Prod.snd (Prod.fst x))) Tip.none]]
                                        fun (r : AV) (H' : List AObj) =>
                                        ∃ (x_3 : Unit),
                                          r = AV.bool true ∧
                                            H' =
                                                [AObj.cells
                                                    [AV.str { data := List.toArray (Prod.fst (Prod.fst x)) }, AV.sl 2 (Seq.map T.encR ((0 : Int), []) (Prod.snd (Prod.fst x))) Tip.none]] ∧
                                              Post (AV.bool true)
                                                [AObj.cells
                                                    [AV.str { data := List.toArray (Prod.fst (Prod.fst x)) }, AV.sl 2 (Seq.map T.encR ((0 : Int), []) (Prod.snd (Prod.fst x))) Tip.none]])
                                      (Post (AV.bool false)
                                        [AObj.cells [AV.str { data := List.toArray (Prod.fst (Prod.fst x)) }, AV.sl 2 (Seq.map T.encR ((0 : Int), []) (Prod.snd (Prod.fst x))) Tip.none]]))
                            (Post (AV.bool false)
                              [AObj.cells [AV.str { data := List.toArray (Prod.fst (Prod.fst x)) }, AV.sl 2 (Seq.map T.encR ((0 : Int), []) (Prod.snd (Prod.fst x))) Tip.none]]))))) →
    AWP Try.prog 68 n c10_8 [(1, AV.sl 1 (Seq.map encB (0 : UInt8) bs) Tip.none)] [] (q10_0 n Post) := fun bs n Post h => Go.Ab.awp_sound g10 n _ _ _ _ (Go.Ab.kc (by kernel_rfl) h)

end
end W
