/- Printed: what the code of functions 114, 115, 149, 150, 151, 169, 50, 51, 148, 112, 113, 48, 49, 46, 147, 146, 168, 207, 111, 47, 11 asks for, by the framework's own reading of it; each line is checked against the code. -/
import Derived.Test.YtifbfcljgagacaaProg
import Derived.Test.YtifbfcljgagacaaVChk
import Derived.Test.YtifbfcljgagacaaVTypesE
set_option linter.unusedVariables false
set_option maxRecDepth 100000
set_option maxHeartbeats 4000000
open Go Go.Ab Go.Proofs
namespace E
noncomputable section

noncomputable def retE : List (Nat × Ret) := [
  (47, ⟨Unit, fun _ _ _ => .bool true, fun _ H _ => H⟩),
  (112, ⟨Int × List T.Need, fun _ _ x => .iface 207 (.agg [.int .i64 x.1, .sl 2 (.map T.encN ([], []) x.2) .none]), fun _ H _ => H⟩),
  (112, ⟨Unit, fun _ _ _ => .iface 161 (.agg []), fun _ H _ => H⟩),
  (112, ⟨Int × List UInt8, fun _ _ x => .iface 209 (.agg [.int .i64 x.1, .sl 1 (.map encB 0 x.2) .none]), fun _ H _ => H⟩),
  (112, ⟨Int, fun _ _ x => .iface 211 (.agg [.int .i64 x]), fun _ H _ => H⟩),
  (112, ⟨Unit, fun _ _ _ => .nili, fun _ H _ => H⟩),
  (113, ⟨T.Ev × Bool, fun _ _ x => .tup [.agg (T.encE x.1), .bool x.2], fun _ H _ => H⟩),
  (168, ⟨Int, fun _ _ x => .int .i64 x, fun _ H _ => H⟩),
  (46, ⟨Bool, fun _ _ x => .bool x, fun _ H _ => H⟩),
  (48, ⟨Bool, fun _ _ x => .bool x, fun _ H _ => H⟩),
  (49, ⟨Bool, fun _ _ x => .bool x, fun _ H _ => H⟩),
  (50, ⟨Bool, fun _ _ x => .bool x, fun _ H _ => H⟩),
  (51, ⟨Bool, fun _ _ x => .bool x, fun _ H _ => H⟩),
  (114, ⟨Bool, fun _ _ x => .bool x, fun _ H _ => H⟩),
  (115, ⟨Bool, fun _ _ x => .bool x, fun _ H _ => H⟩),
  (146, ⟨Bool, fun _ _ x => .bool x, fun _ H _ => H⟩),
  (147, ⟨Bool, fun _ _ x => .bool x, fun _ H _ => H⟩),
  (148, ⟨Bool, fun _ _ x => .bool x, fun _ H _ => H⟩),
  (149, ⟨Bool, fun _ _ x => .bool x, fun _ H _ => H⟩),
  (150, ⟨Bool, fun _ _ x => .bool x, fun _ H _ => H⟩),
  (151, ⟨Bool, fun _ _ x => .bool x, fun _ H _ => H⟩),
  (169, ⟨Bool, fun _ _ x => .bool x, fun _ H _ => H⟩),
  (111, ⟨List UInt8, fun _ _ x => .sl 1 (.map encB 0 x) .none, fun _ H _ => H⟩),
  (207, ⟨List UInt8, fun _ _ x => .sl 1 (.map encB 0 x) .none, fun _ H _ => H⟩),
  (209, ⟨List UInt8, fun _ _ x => .sl 1 (.map encB 0 x) .none, fun _ H _ => H⟩),
  (210, ⟨List UInt8, fun _ _ x => .sl 1 (.map encB 0 x) .none, fun _ H _ => H⟩),
  (211, ⟨List UInt8, fun _ _ x => .sl 1 (.map encB 0 x) .none, fun _ H _ => H⟩)
  ]
noncomputable def rets : FuncId → List Ret := lookupR (retE ++ C.retC ++ V.retL)

-- 114
noncomputable def l114 : Nat → List Nat
  | _ => []
noncomputable def u114 : Nat → Bool
  | _ => false
noncomputable def m114 : Nat → Bool
  | _ => false
noncomputable def g114 : Cfg := { N := 10, live := l114, cut := u114, mu := m114, ret := rets }
noncomputable def c114 : Go.Code := Go.Ab.bodyOf Go.Proofs.Try.f114
theorem s114 : ∀ (a b : List UInt8) (Post : AV → List AObj → Prop),
  needP (allBytes (Seq.map encB (0 : UInt8) a))
      (needP (allBytes (Seq.map encB (0 : UInt8) b)) (Post (AV.bool (ByteArray.toList (bytesOf (Seq.map encB (0 : UInt8) a)) == ByteArray.toList (bytesOf (Seq.map encB (0 : UInt8) b)))) [])) →
    ASpec Try.prog 114 [AV.sl 1 (Seq.map encB (0 : UInt8) a) Tip.none, AV.sl 1 (Seq.map encB (0 : UInt8) b) Tip.none] [] Post := fun a b Post h => Go.Ab.ASpec.of_vc g114 Go.Proofs.Try.func114 (by kernel_rfl) (by kernel_rfl) (by kernel_rfl) (Go.Ab.kc (by kernel_rfl) h)

-- 115
noncomputable def l115 : Nat → List Nat
  | _ => []
noncomputable def u115 : Nat → Bool
  | _ => false
noncomputable def m115 : Nat → Bool
  | _ => false
noncomputable def g115 : Cfg := { N := 8, live := l115, cut := u115, mu := m115, ret := rets }
noncomputable def c115 : Go.Code := Go.Ab.bodyOf Go.Proofs.Try.f115
theorem s115 : ∀ (a b : List T.Need) (Post : AV → List AObj → Prop),
  (ASpec Try.prog 149 [AV.sl 2 (Seq.map T.encN ([], []) a) Tip.none, AV.sl 2 (Seq.map T.encN ([], []) b) Tip.none, AV.fn 150 []] [] fun (r : AV) (H' : List AObj) =>
      ∃ (x : Bool), r = AV.bool x ∧ H' = [] ∧ Post (AV.bool x) []) →
    ASpec Try.prog 115 [AV.sl 2 (Seq.map T.encN ([], []) a) Tip.none, AV.sl 2 (Seq.map T.encN ([], []) b) Tip.none] [] Post := fun a b Post h => Go.Ab.ASpec.of_vc g115 Go.Proofs.Try.func115 (by kernel_rfl) (by kernel_rfl) (by kernel_rfl) (Go.Ab.kc (by kernel_rfl) h)

-- 149
noncomputable def l149 : Nat → List Nat
  | 4 => [1, 2, 15, 16, 17]
  | _ => []
noncomputable def u149 : Nat → Bool
  | _ => false
noncomputable def m149 : Nat → Bool
  | _ => false
noncomputable def g149 : Cfg := { N := 32, live := l149, cut := u149, mu := m149, ret := rets }
noncomputable def c149 : Go.Code := Go.Ab.bodyOf Go.Proofs.Try.f149
noncomputable def q149_0 : Nat → (AV → List AObj → Prop) → AQ := fun (n : Nat) (Post : AV → List AObj → Prop) => endQ Try.prog (resultsOf Try.f149) Post
noncomputable def q149_1 : Nat → (AV → List AObj → Prop) → AQ := fun (n : Nat) (Post : AV → List AObj → Prop) => seqQ (fun (s' : Slots) (H' : List AObj) => awp Try.prog g149 n (codeSnd (codeSnd (codeSnd c149))) s' H' (q149_0 n Post)) (q149_0 n Post)
noncomputable def q149_2 : Nat → (AV → List AObj → Prop) → AQ := fun (n : Nat) (Post : AV → List AObj → Prop) => blockQ 0 (q149_1 n Post)
noncomputable def c149_4 : Go.Code := codeFst (codeSnd (codeFst (codeSnd (codeSnd c149))))
theorem s149 : ∀ (a b : List T.Need) (Post : AV → List AObj → Prop),
  condP ((↑(List.length a) : Int) != (↑(List.length b) : Int)) (Post (AV.bool false) [])
      (AWP Try.prog 32 0 c149_4
        [(1, AV.sl 2 (Seq.map T.encN ([], []) b) Tip.none), (2, AV.fn (150 : FuncId) []), (15, AV.sl 2 (Seq.map T.encN ([], []) a) Tip.none),
          (16, AV.int IntKind.i64 (↑(List.length a) : Int)), (17, AV.int IntKind.i64 (0 : Int))]
        [] (q149_2 0 Post)) →
    ASpec Try.prog 149 [AV.sl 2 (Seq.map T.encN ([], []) a) Tip.none, AV.sl 2 (Seq.map T.encN ([], []) b) Tip.none, AV.fn (150 : FuncId) []] [] Post := fun a b Post h => Go.Ab.ASpec.of_vc g149 Go.Proofs.Try.func149 (by kernel_rfl) (by kernel_rfl) (by kernel_rfl) (Go.Ab.kc (by kernel_rfl) h)
theorem v149_4 : ∀ (a b : List T.Need) (n i : Int) (n_1 : Nat) (Post : AV → List AObj → Prop),
  condP (decide (i < n))
      (needP ((0 : Int) ≤ i ∧ i < (↑(List.length a) : Int))
        (needP ((0 : Int) ≤ i ∧ i < (↑(List.length b) : Int))
          (ASpec Try.prog 150
            [AV.agg
                [AV.str { data := List.toArray (Prod.fst (List.getD a (Int.toNat i) ([], []))) },
                  AV.sl 2 (Seq.map T.encS ((0 : Int), (0 : Int)) (Prod.snd (List.getD a (Int.toNat i) ([], [])))) Tip.none],
              AV.agg
                [AV.str { data := List.toArray (Prod.fst (List.getD b (Int.toNat i) ([], []))) },
                  AV.sl 2 (Seq.map T.encS ((0 : Int), (0 : Int)) (Prod.snd (List.getD b (Int.toNat i) ([], [])))) Tip.none]]
            [AObj.cells
                [AV.str { data := List.toArray (Prod.fst (List.getD a (Int.toNat i) ([], []))) },
                  AV.sl 2 (Seq.map T.encS ((0 : Int), (0 : Int)) (Prod.snd (List.getD a (Int.toNat i) ([], [])))) Tip.none],
              AObj.cells
                [AV.str { data := List.toArray (Prod.fst (List.getD b (Int.toNat i) ([], []))) },
                  AV.sl 2 (Seq.map T.encS ((0 : Int), (0 : Int)) (Prod.snd (List.getD b (Int.toNat i) ([], [])))) Tip.none]]
            fun (r : AV) (H' : List AObj) =>
            ∃ (x : Bool),
              r = AV.bool x ∧
                H' =
                    [AObj.cells
                        [AV.str { data := List.toArray (Prod.fst (List.getD a (Int.toNat i) ([], []))) },
                          AV.sl 2 (Seq.map T.encS ((0 : Int), (0 : Int)) (Prod.snd (List.getD a (Int.toNat i) ([], [])))) Tip.none],
                      AObj.cells
                        [AV.str { data := List.toArray (Prod.fst (List.getD b (Int.toNat i) ([], []))) },
                          AV.sl 2 (Seq.map T.encS ((0 : Int), (0 : Int)) (Prod.snd (List.getD b (Int.toNat i) ([], [])))) Tip.none]] ∧
                  condP (!x)
                    (Post (AV.bool false)
                      [AObj.cells
                          [AV.str { data := List.toArray (Prod.fst (List.getD a (Int.toNat i) ([], []))) },
                            AV.sl 2 (Seq.map T.encS ((0 : Int), (0 : Int)) (Prod.snd (List.getD a (Int.toNat i) ([], [])))) Tip.none],
                        AObj.cells
                          [AV.str { data := List.toArray (Prod.fst (List.getD b (Int.toNat i) ([], []))) },
                            AV.sl 2 (Seq.map T.encS ((0 : Int), (0 : Int)) (Prod.snd (List.getD b (Int.toNat i) ([], [])))) Tip.none]])
                    (AWP Try.prog 32 n_1 c149_4
                      [(1, AV.sl 2 (Seq.map T.encN ([], []) b) Tip.none), (2, AV.fn (150 : FuncId) []), (15, AV.sl 2 (Seq.map T.encN ([], []) a) Tip.none),
                        (16, AV.int IntKind.i64 n), (17, AV.int IntKind.i64 (IntKind.wrap IntKind.i64 (i + (1 : Int))))]
                      [AObj.cells
                          [AV.str { data := List.toArray (Prod.fst (List.getD a (Int.toNat i) ([], []))) },
                            AV.sl 2 (Seq.map T.encS ((0 : Int), (0 : Int)) (Prod.snd (List.getD a (Int.toNat i) ([], [])))) Tip.none],
                        AObj.cells
                          [AV.str { data := List.toArray (Prod.fst (List.getD b (Int.toNat i) ([], []))) },
                            AV.sl 2 (Seq.map T.encS ((0 : Int), (0 : Int)) (Prod.snd (List.getD b (Int.toNat i) ([], [])))) Tip.none]]
                      (q149_2 n_1 Post)))))
      (Post (AV.bool true) []) →
    AWP Try.prog 32 n_1 c149_4
      [(1, AV.sl 2 (Seq.map T.encN ([], []) b) Tip.none), (2, AV.fn (150 : FuncId) []), (15, AV.sl 2 (Seq.map T.encN ([], []) a) Tip.none),
        (16, AV.int IntKind.i64 n), (17, AV.int IntKind.i64 i)]
      [] (q149_2 n_1 Post) := fun a b n i n Post h => Go.Ab.AWP.loop' g149 (Cfg.live g149) c149_4 (by kernel_rfl) (by kernel_rfl) (Go.Ab.kc (by kernel_rfl) h)

-- 150
noncomputable def l150 : Nat → List Nat
  | _ => []
noncomputable def u150 : Nat → Bool
  | _ => false
noncomputable def m150 : Nat → Bool
  | _ => false
noncomputable def g150 : Cfg := { N := 17, live := l150, cut := u150, mu := m150, ret := rets }
noncomputable def c150 : Go.Code := Go.Ab.bodyOf Go.Proofs.Try.f150
theorem s150 : ∀ (a b : T.Need) (Post : AV → List AObj → Prop),
  condP (ByteArray.toList { data := List.toArray (Prod.fst a) } == ByteArray.toList { data := List.toArray (Prod.fst b) })
      (ASpec Try.prog 151 [AV.sl 2 (Seq.map T.encS ((0 : Int), (0 : Int)) (Prod.snd a)) Tip.none, AV.sl 2 (Seq.map T.encS ((0 : Int), (0 : Int)) (Prod.snd b)) Tip.none]
        [AObj.cells [AV.str { data := List.toArray (Prod.fst a) }, AV.sl 2 (Seq.map T.encS ((0 : Int), (0 : Int)) (Prod.snd a)) Tip.none],
          AObj.cells [AV.str { data := List.toArray (Prod.fst b) }, AV.sl 2 (Seq.map T.encS ((0 : Int), (0 : Int)) (Prod.snd b)) Tip.none]]
        fun (r : AV) (H' : List AObj) =>
        ∃ (x : Bool),
          r = AV.bool x ∧
            H' =
                [AObj.cells [AV.str { data := List.toArray (Prod.fst a) }, AV.sl 2 (Seq.map T.encS ((0 : Int), (0 : Int)) (Prod.snd a)) Tip.none],
                  AObj.cells [AV.str { data := List.toArray (Prod.fst b) }, AV.sl 2 (Seq.map T.encS ((0 : Int), (0 : Int)) (Prod.snd b)) Tip.none]] ∧
              Post (AV.bool x)
                [AObj.cells [AV.str { data := List.toArray (Prod.fst a) }, AV.sl 2 (Seq.map T.encS ((0 : Int), (0 : Int)) (Prod.snd a)) Tip.none],
                  AObj.cells [AV.str { data := List.toArray (Prod.fst b) }, AV.sl 2 (Seq.map T.encS ((0 : Int), (0 : Int)) (Prod.snd b)) Tip.none]])
      (Post (AV.bool false)
        [AObj.cells [AV.str { data := List.toArray (Prod.fst a) }, AV.sl 2 (Seq.map T.encS ((0 : Int), (0 : Int)) (Prod.snd a)) Tip.none],
          AObj.cells [AV.str { data := List.toArray (Prod.fst b) }, AV.sl 2 (Seq.map T.encS ((0 : Int), (0 : Int)) (Prod.snd b)) Tip.none]]) →
    ASpec Try.prog 150 [AV.agg (T.encN a), AV.agg (T.encN b)] [] Post := fun a b Post h => Go.Ab.ASpec.of_vc g150 Go.Proofs.Try.func150 (by kernel_rfl) (by kernel_rfl) (by kernel_rfl) (Go.Ab.kc (by kernel_rfl) h)

-- 151
noncomputable def l151 : Nat → List Nat
  | _ => []
noncomputable def u151 : Nat → Bool
  | _ => false
noncomputable def m151 : Nat → Bool
  | _ => false
noncomputable def g151 : Cfg := { N := 8, live := l151, cut := u151, mu := m151, ret := rets }
noncomputable def c151 : Go.Code := Go.Ab.bodyOf Go.Proofs.Try.f151
theorem s151 : ∀ (a b : List T.Span) (Post : AV → List AObj → Prop),
  (ASpec Try.prog 169 [AV.sl 2 (Seq.map T.encS ((0 : Int), (0 : Int)) a) Tip.none, AV.sl 2 (Seq.map T.encS ((0 : Int), (0 : Int)) b) Tip.none] []
      fun (r : AV) (H' : List AObj) => ∃ (x : Bool), r = AV.bool x ∧ H' = [] ∧ Post (AV.bool x) []) →
    ASpec Try.prog 151 [AV.sl 2 (Seq.map T.encS ((0 : Int), (0 : Int)) a) Tip.none, AV.sl 2 (Seq.map T.encS ((0 : Int), (0 : Int)) b) Tip.none] [] Post := fun a b Post h => Go.Ab.ASpec.of_vc g151 Go.Proofs.Try.func151 (by kernel_rfl) (by kernel_rfl) (by kernel_rfl) (Go.Ab.kc (by kernel_rfl) h)

-- 169
noncomputable def l169 : Nat → List Nat
  | 4 => [0, 1, 12, 13]
  | _ => []
noncomputable def u169 : Nat → Bool
  | _ => false
noncomputable def m169 : Nat → Bool
  | _ => false
noncomputable def g169 : Cfg := { N := 26, live := l169, cut := u169, mu := m169, ret := rets }
noncomputable def c169 : Go.Code := Go.Ab.bodyOf Go.Proofs.Try.f169
noncomputable def q169_0 : Nat → (AV → List AObj → Prop) → AQ := fun (n : Nat) (Post : AV → List AObj → Prop) => endQ Try.prog (resultsOf Try.f169) Post
noncomputable def q169_1 : Nat → (AV → List AObj → Prop) → AQ := fun (n : Nat) (Post : AV → List AObj → Prop) => seqQ (fun (s' : Slots) (H' : List AObj) => awp Try.prog g169 n (codeSnd (codeSnd (codeSnd c169))) s' H' (q169_0 n Post)) (q169_0 n Post)
noncomputable def q169_2 : Nat → (AV → List AObj → Prop) → AQ := fun (n : Nat) (Post : AV → List AObj → Prop) => blockQ 0 (q169_1 n Post)
noncomputable def c169_4 : Go.Code := codeFst (codeSnd (codeFst (codeSnd (codeSnd c169))))
theorem s169 : ∀ (a b : List T.Span) (Post : AV → List AObj → Prop),
  condP ((↑(List.length a) : Int) != (↑(List.length b) : Int)) (Post (AV.bool false) [])
      (AWP Try.prog 26 0 c169_4
        [(0, AV.sl 2 (Seq.map T.encS ((0 : Int), (0 : Int)) a) Tip.none), (1, AV.sl 2 (Seq.map T.encS ((0 : Int), (0 : Int)) b) Tip.none),
          (12, AV.int IntKind.i64 (↑(List.length a) : Int)), (13, AV.int IntKind.i64 (0 : Int))]
        [] (q169_2 0 Post)) →
    ASpec Try.prog 169 [AV.sl 2 (Seq.map T.encS ((0 : Int), (0 : Int)) a) Tip.none, AV.sl 2 (Seq.map T.encS ((0 : Int), (0 : Int)) b) Tip.none] [] Post := fun a b Post h => Go.Ab.ASpec.of_vc g169 Go.Proofs.Try.func169 (by kernel_rfl) (by kernel_rfl) (by kernel_rfl) (Go.Ab.kc (by kernel_rfl) h)
theorem v169_4 : ∀ (a b : List T.Span) (n i : Int) (n_1 : Nat) (Post : AV → List AObj → Prop),
  condP (decide (i < n))
      (needP ((0 : Int) ≤ i ∧ i < (↑(List.length a) : Int))
        (needP ((0 : Int) ≤ i ∧ i < (↑(List.length b) : Int))
          (condP
            (!(Prod.fst (List.getD a (Int.toNat i) ((0 : Int), (0 : Int))) == Prod.fst (List.getD b (Int.toNat i) ((0 : Int), (0 : Int))) &&
                (Prod.snd (List.getD a (Int.toNat i) ((0 : Int), (0 : Int))) == Prod.snd (List.getD b (Int.toNat i) ((0 : Int), (0 : Int))) && true)))
            (Post (AV.bool false) [])
            (AWP Try.prog 26 n_1 c169_4
              [(0, AV.sl 2 (Seq.map T.encS ((0 : Int), (0 : Int)) a) Tip.none), (1, AV.sl 2 (Seq.map T.encS ((0 : Int), (0 : Int)) b) Tip.none),
                (12, AV.int IntKind.i64 n), (13, AV.int IntKind.i64 (IntKind.wrap IntKind.i64 (i + (1 : Int))))]
              [] (q169_2 n_1 Post)))))
      (Post (AV.bool true) []) →
    AWP Try.prog 26 n_1 c169_4
      [(0, AV.sl 2 (Seq.map T.encS ((0 : Int), (0 : Int)) a) Tip.none), (1, AV.sl 2 (Seq.map T.encS ((0 : Int), (0 : Int)) b) Tip.none),
        (12, AV.int IntKind.i64 n), (13, AV.int IntKind.i64 i)]
      [] (q169_2 n_1 Post) := fun a b n i n Post h => Go.Ab.AWP.loop' g169 (Cfg.live g169) c169_4 (by kernel_rfl) (by kernel_rfl) (Go.Ab.kc (by kernel_rfl) h)

-- 50
noncomputable def l50 : Nat → List Nat
  | _ => []
noncomputable def u50 : Nat → Bool
  | _ => false
noncomputable def m50 : Nat → Bool
  | _ => false
noncomputable def g50 : Cfg := { N := 38, live := l50, cut := u50, mu := m50, ret := rets }
noncomputable def c50 : Go.Code := Go.Ab.bodyOf Go.Proofs.Try.f50
theorem s50 : ∀ (a b : T.Ev) (Post : AV → List AObj → Prop),
  condP (Prod.fst a == Prod.fst b)
      (condP (Prod.fst (Prod.snd (Prod.snd a)) == Prod.fst (Prod.snd (Prod.snd b)))
        (condP (Prod.fst (Prod.snd (Prod.snd (Prod.snd a))) == Prod.fst (Prod.snd (Prod.snd (Prod.snd b))))
          (ASpec Try.prog 114
            [AV.sl 1 (Seq.map encB (0 : UInt8) (Prod.snd (Prod.snd (Prod.snd (Prod.snd a))))) Tip.none,
              AV.sl 1 (Seq.map encB (0 : UInt8) (Prod.snd (Prod.snd (Prod.snd (Prod.snd b))))) Tip.none]
            [AObj.cells
                [AV.int IntKind.i64 (Prod.fst a), AV.sl 2 (Seq.map T.encN ([], []) (Prod.fst (Prod.snd a))) Tip.none, AV.int IntKind.i64 (Prod.fst (Prod.snd (Prod.snd a))),
                  AV.int IntKind.i64 (Prod.fst (Prod.snd (Prod.snd (Prod.snd a)))), AV.sl 1 (Seq.map encB (0 : UInt8) (Prod.snd (Prod.snd (Prod.snd (Prod.snd a))))) Tip.none],
              AObj.cells
                [AV.int IntKind.i64 (Prod.fst b), AV.sl 2 (Seq.map T.encN ([], []) (Prod.fst (Prod.snd b))) Tip.none, AV.int IntKind.i64 (Prod.fst (Prod.snd (Prod.snd b))),
                  AV.int IntKind.i64 (Prod.fst (Prod.snd (Prod.snd (Prod.snd b)))), AV.sl 1 (Seq.map encB (0 : UInt8) (Prod.snd (Prod.snd (Prod.snd (Prod.snd b))))) Tip.none]]
            fun (r : AV) (H' : List AObj) =>
            ∃ (x : Bool),
              r = AV.bool x ∧
                H' =
                    [AObj.cells
                        [AV.int IntKind.i64 (Prod.fst a), AV.sl 2 (Seq.map T.encN ([], []) (Prod.fst (Prod.snd a))) Tip.none, AV.int IntKind.i64 (Prod.fst (Prod.snd (Prod.snd a))),
                          AV.int IntKind.i64 (Prod.fst (Prod.snd (Prod.snd (Prod.snd a)))), AV.sl 1 (Seq.map encB (0 : UInt8) (Prod.snd (Prod.snd (Prod.snd (Prod.snd a))))) Tip.none],
                      AObj.cells
                        [AV.int IntKind.i64 (Prod.fst b), AV.sl 2 (Seq.map T.encN ([], []) (Prod.fst (Prod.snd b))) Tip.none, AV.int IntKind.i64 (Prod.fst (Prod.snd (Prod.snd b))),
                          AV.int IntKind.i64 (Prod.fst (Prod.snd (Prod.snd (Prod.snd b)))), AV.sl 1 (Seq.map encB (0 : UInt8) (Prod.snd (Prod.snd (Prod.snd (Prod.snd b))))) Tip.none]] ∧
                  condP x
                    (ASpec Try.prog 115 [AV.sl 2 (Seq.map T.encN ([], []) (Prod.fst (Prod.snd a))) Tip.none, AV.sl 2 (Seq.map T.encN ([], []) (Prod.fst (Prod.snd b))) Tip.none]
                      [AObj.cells
                          [AV.int IntKind.i64 (Prod.fst a), AV.sl 2 (Seq.map T.encN ([], []) (Prod.fst (Prod.snd a))) Tip.none, AV.int IntKind.i64 (Prod.fst (Prod.snd (Prod.snd a))),
                            AV.int IntKind.i64 (Prod.fst (Prod.snd (Prod.snd (Prod.snd a)))), AV.sl 1 (Seq.map encB (0 : UInt8) (Prod.snd (Prod.snd (Prod.snd (Prod.snd a))))) Tip.none],
                        AObj.cells
                          [AV.int IntKind.i64 (Prod.fst b), AV.sl 2 (Seq.map T.encN ([], []) (Prod.fst (Prod.snd b))) Tip.none, AV.int IntKind.i64 (Prod.fst (Prod.snd (Prod.snd b))),
                            AV.int IntKind.i64 (Prod.fst (Prod.snd (Prod.snd (Prod.snd b)))), AV.sl 1 (Seq.map encB (0 : UInt8) (Prod.snd (Prod.snd (Prod.snd (Prod.snd b))))) Tip.none]]
                      fun (r : AV) (H' : List AObj) =>
                      ∃ (x : Bool),
                        r = AV.bool x ∧
                          H' =
                              [AObj.cells
                                  [AV.int IntKind.i64 (Prod.fst a), AV.sl 2 (Seq.map T.encN ([], []) (Prod.fst (Prod.snd a))) Tip.none, AV.int IntKind.i64 (Prod.fst (Prod.snd (Prod.snd a))),
                                    AV.int IntKind.i64 (Prod.fst (Prod.snd (Prod.snd (Prod.snd a)))),
                                    AV.sl 1 (Seq.map encB (0 : UInt8) (Prod.snd (Prod.snd (Prod.snd (Prod.snd a))))) Tip.none],
                                AObj.cells
                                  [AV.int IntKind.i64 (Prod.fst b), AV.sl 2 (Seq.map T.encN ([], []) (Prod.fst (Prod.snd b))) Tip.none, AV.int IntKind.i64 (Prod.fst (Prod.snd (Prod.snd b))),
                                    AV.int IntKind.i64 (Prod.fst (Prod.snd (Prod.snd (Prod.snd b)))),
                                    AV.sl 1 (Seq.map encB (0 : UInt8) (Prod.snd (Prod.snd (Prod.snd (Prod.snd b))))) Tip.none]] ∧
                            Post (AV.bool x)
                              [AObj.cells
                                  [AV.int IntKind.i64 (Prod.fst a), AV.sl 2 (Seq.map T.encN ([], []) (Prod.fst (Prod.snd a))) Tip.none, AV.int IntKind.i64 (Prod.fst (Prod.snd (Prod.snd a))),
                                    AV.int IntKind.i64 (Prod.fst (Prod.snd (Prod.snd (Prod.snd a)))),
                                    AV.sl 1 (Seq.map encB (0 : UInt8) (Prod.snd (Prod.snd (Prod.snd (Prod.snd a))))) Tip.none],
                                AObj.cells
                                  [AV.int IntKind.i64 (Prod.fst b), AV.sl 2 (Seq.map T.encN ([], []) (Prod.fst (Prod.snd b))) Tip.none, AV.int IntKind.i64 (Prod.fst (Prod.snd (Prod.snd b))),
                                    AV.int IntKind.i64 (Prod.fst (Prod.snd (Prod.snd (Prod.snd b)))),
                                    AV.sl 1 (Seq.map encB (0 : UInt8) (Prod.snd (Prod.snd (Prod.snd (Prod.snd b))))) Tip.none]])
                    (Post (AV.bool false)
                      [AObj.cells
                          [AV.int IntKind.i64 (Prod.fst a), AV.sl 2 (Seq.map T.encN ([], []) (Prod.fst (Prod.snd a))) Tip.none, AV.int IntKind.i64 (Prod.fst (Prod.snd (Prod.snd a))),
                            AV.int IntKind.i64 (Prod.fst (Prod.snd (Prod.snd (Prod.snd a)))), AV.sl 1 (Seq.map encB (0 : UInt8) (Prod.snd (Prod.snd (Prod.snd (Prod.snd a))))) Tip.none],
                        AObj.cells
                          [AV.int IntKind.i64 (Prod.fst b), AV.sl 2 (Seq.map T.encN ([], []) (Prod.fst (Prod.snd b))) Tip.none, AV.int IntKind.i64 (Prod.fst (Prod.snd (Prod.snd b))),
                            AV.int IntKind.i64 (Prod.fst (Prod.snd (Prod.snd (Prod.snd b)))), AV.sl 1 (Seq.map encB (0 : UInt8) (Prod.snd (Prod.snd (Prod.snd (Prod.snd b))))) Tip.none]]))
          (Post (AV.bool false)
            [AObj.cells
                [AV.int IntKind.i64 (Prod.fst a), AV.sl 2 (Seq.map T.encN ([], []) (Prod.fst (Prod.snd a))) Tip.none, AV.int IntKind.i64 (Prod.fst (Prod.snd (Prod.snd a))),
                  AV.int IntKind.i64 (Prod.fst (Prod.snd (Prod.snd (Prod.snd a)))), AV.sl 1 (Seq.map encB (0 : UInt8) (Prod.snd (Prod.snd (Prod.snd (Prod.snd a))))) Tip.none],
              AObj.cells
                [AV.int IntKind.i64 (Prod.fst b), AV.sl 2 (Seq.map T.encN ([], []) (Prod.fst (Prod.snd b))) Tip.none, AV.int IntKind.i64 (Prod.fst (Prod.snd (Prod.snd b))),
                  AV.int IntKind.i64 (Prod.fst (Prod.snd (Prod.snd (Prod.snd b)))), AV.sl 1 (Seq.map encB (0 : UInt8) (Prod.snd (Prod.snd (Prod.snd (Prod.snd b))))) Tip.none]]))
        (Post (AV.bool false)
          [AObj.cells
              [AV.int IntKind.i64 (Prod.fst a), AV.sl 2 (Seq.map T.encN ([], []) (Prod.fst (Prod.snd a))) Tip.none, AV.int IntKind.i64 (Prod.fst (Prod.snd (Prod.snd a))),
                AV.int IntKind.i64 (Prod.fst (Prod.snd (Prod.snd (Prod.snd a)))), AV.sl 1 (Seq.map encB (0 : UInt8) (Prod.snd (Prod.snd (Prod.snd (Prod.snd a))))) Tip.none],
            AObj.cells
              [AV.int IntKind.i64 (Prod.fst b), AV.sl 2 (Seq.map T.encN ([], []) (Prod.fst (Prod.snd b))) Tip.none, AV.int IntKind.i64 (Prod.fst (Prod.snd (Prod.snd b))),
                AV.int IntKind.i64 (Prod.fst (Prod.snd (Prod.snd (Prod.snd b)))), AV.sl 1 (Seq.map encB (0 : UInt8) (Prod.snd (Prod.snd (Prod.snd (Prod.snd b))))) Tip.none]]))
      (Post (AV.bool false)
        [AObj.cells
            [AV.int IntKind.i64 (Prod.fst a), AV.sl 2 (Seq.map T.encN ([], []) (Prod.fst (Prod.snd a))) Tip.none, AV.int IntKind.i64 (Prod.fst (Prod.snd (Prod.snd a))),
              AV.int IntKind.i64 (Prod.fst (Prod.snd (Prod.snd (Prod.snd a)))), AV.sl 1 (Seq.map encB (0 : UInt8) (Prod.snd (Prod.snd (Prod.snd (Prod.snd a))))) Tip.none],
          AObj.cells
            [AV.int IntKind.i64 (Prod.fst b), AV.sl 2 (Seq.map T.encN ([], []) (Prod.fst (Prod.snd b))) Tip.none, AV.int IntKind.i64 (Prod.fst (Prod.snd (Prod.snd b))),
              AV.int IntKind.i64 (Prod.fst (Prod.snd (Prod.snd (Prod.snd b)))), AV.sl 1 (Seq.map encB (0 : UInt8) (Prod.snd (Prod.snd (Prod.snd (Prod.snd b))))) Tip.none]]) →
    ASpec Try.prog 50 [AV.agg (T.encE a), AV.agg (T.encE b)] [] Post := fun a b Post h => Go.Ab.ASpec.of_vc g50 Go.Proofs.Try.func50 (by kernel_rfl) (by kernel_rfl) (by kernel_rfl) (Go.Ab.kc (by kernel_rfl) h)

-- 51
noncomputable def l51 : Nat → List Nat
  | _ => []
noncomputable def u51 : Nat → Bool
  | _ => false
noncomputable def m51 : Nat → Bool
  | _ => false
noncomputable def g51 : Cfg := { N := 40, live := l51, cut := u51, mu := m51, ret := rets }
noncomputable def c51 : Go.Code := Go.Ab.bodyOf Go.Proofs.Try.f51
theorem s51 : ∀ (a b : T.Ev) (Post : AV → List AObj → Prop),
  condP (Prod.fst a == Prod.fst b)
      (ASpec Try.prog 108 [AV.sl 2 (Seq.map T.encN ([], []) (Prod.fst (Prod.snd a))) Tip.none, AV.sl 2 (Seq.map T.encN ([], []) (Prod.fst (Prod.snd b))) Tip.none]
        [AObj.cells
            [AV.int IntKind.i64 (Prod.fst a), AV.sl 2 (Seq.map T.encN ([], []) (Prod.fst (Prod.snd a))) Tip.none, AV.int IntKind.i64 (Prod.fst (Prod.snd (Prod.snd a))),
              AV.int IntKind.i64 (Prod.fst (Prod.snd (Prod.snd (Prod.snd a)))), AV.sl 1 (Seq.map encB (0 : UInt8) (Prod.snd (Prod.snd (Prod.snd (Prod.snd a))))) Tip.none],
          AObj.cells
            [AV.int IntKind.i64 (Prod.fst b), AV.sl 2 (Seq.map T.encN ([], []) (Prod.fst (Prod.snd b))) Tip.none, AV.int IntKind.i64 (Prod.fst (Prod.snd (Prod.snd b))),
              AV.int IntKind.i64 (Prod.fst (Prod.snd (Prod.snd (Prod.snd b)))), AV.sl 1 (Seq.map encB (0 : UInt8) (Prod.snd (Prod.snd (Prod.snd (Prod.snd b))))) Tip.none]]
        fun (r : AV) (H' : List AObj) =>
        ∃ (x : Bool),
          r = AV.bool x ∧
            H' =
                [AObj.cells
                    [AV.int IntKind.i64 (Prod.fst a), AV.sl 2 (Seq.map T.encN ([], []) (Prod.fst (Prod.snd a))) Tip.none, AV.int IntKind.i64 (Prod.fst (Prod.snd (Prod.snd a))),
                      AV.int IntKind.i64 (Prod.fst (Prod.snd (Prod.snd (Prod.snd a)))), AV.sl 1 (Seq.map encB (0 : UInt8) (Prod.snd (Prod.snd (Prod.snd (Prod.snd a))))) Tip.none],
                  AObj.cells
                    [AV.int IntKind.i64 (Prod.fst b), AV.sl 2 (Seq.map T.encN ([], []) (Prod.fst (Prod.snd b))) Tip.none, AV.int IntKind.i64 (Prod.fst (Prod.snd (Prod.snd b))),
                      AV.int IntKind.i64 (Prod.fst (Prod.snd (Prod.snd (Prod.snd b)))), AV.sl 1 (Seq.map encB (0 : UInt8) (Prod.snd (Prod.snd (Prod.snd (Prod.snd b))))) Tip.none]] ∧
              condP x
                (condP (Prod.fst (Prod.snd (Prod.snd a)) == Prod.fst (Prod.snd (Prod.snd b)))
                  (condP (Prod.fst (Prod.snd (Prod.snd (Prod.snd a))) == Prod.fst (Prod.snd (Prod.snd (Prod.snd b))))
                    (needP (allBytes (Seq.map encB (0 : UInt8) (Prod.snd (Prod.snd (Prod.snd (Prod.snd a))))))
                      (needP (allBytes (Seq.map encB (0 : UInt8) (Prod.snd (Prod.snd (Prod.snd (Prod.snd b))))))
                        (Post
                          (AV.bool
                            (ByteArray.toList (bytesOf (Seq.map encB (0 : UInt8) (Prod.snd (Prod.snd (Prod.snd (Prod.snd a)))))) ==
                              ByteArray.toList (bytesOf (Seq.map encB (0 : UInt8) (Prod.snd (Prod.snd (Prod.snd (Prod.snd b))))))))
                          [AObj.cells
                              [AV.int IntKind.i64 (Prod.fst a), AV.sl 2 (Seq.map T.encN ([], []) (Prod.fst (Prod.snd a))) Tip.none, AV.int IntKind.i64 (Prod.fst (Prod.snd (Prod.snd a))),
                                AV.int IntKind.i64 (Prod.fst (Prod.snd (Prod.snd (Prod.snd a)))), AV.sl 1 (Seq.map encB (0 : UInt8) (Prod.snd (Prod.snd (Prod.snd (Prod.snd a))))) Tip.none],
                            AObj.cells
                              [AV.int IntKind.i64 (Prod.fst b), AV.sl 2 (Seq.map T.encN ([], []) (Prod.fst (Prod.snd b))) Tip.none, AV.int IntKind.i64 (Prod.fst (Prod.snd (Prod.snd b))),
                                AV.int IntKind.i64 (Prod.fst (Prod.snd (Prod.snd (Prod.snd b)))), AV.sl 1 (Seq.map encB (0 : UInt8) (Prod.snd (Prod.snd (Prod.snd (Prod.snd b))))) Tip.none]])))
                    (Post (AV.bool false)
                      [AObj.cells
                          [AV.int IntKind.i64 (Prod.fst a), AV.sl 2 (Seq.map T.encN ([], []) (Prod.fst (Prod.snd a))) Tip.none, AV.int IntKind.i64 (Prod.fst (Prod.snd (Prod.snd a))),
                            AV.int IntKind.i64 (Prod.fst (Prod.snd (Prod.snd (Prod.snd a)))), AV.sl 1 (Seq.map encB (0 : UInt8) (Prod.snd (Prod.snd (Prod.snd (Prod.snd a))))) Tip.none],
                        AObj.cells
                          [AV.int IntKind.i64 (Prod.fst b), AV.sl 2 (Seq.map T.encN ([], []) (Prod.fst (Prod.snd b))) Tip.none, AV.int IntKind.i64 (Prod.fst (Prod.snd (Prod.snd b))),
                            AV.int IntKind.i64 (Prod.fst (Prod.snd (Prod.snd (Prod.snd b)))), AV.sl 1 (Seq.map encB (0 : UInt8) (Prod.snd (Prod.snd (Prod.snd (Prod.snd b))))) Tip.none]]))
                  (Post (AV.bool false)
                    [AObj.cells
                        [AV.int IntKind.i64 (Prod.fst a), AV.sl 2 (Seq.map T.encN ([], []) (Prod.fst (Prod.snd a))) Tip.none, AV.int IntKind.i64 (Prod.fst (Prod.snd (Prod.snd a))),
                          AV.int IntKind.i64 (Prod.fst (Prod.snd (Prod.snd (Prod.snd a)))), AV.sl 1 (Seq.map encB (0 : UInt8) (Prod.snd (Prod.snd (Prod.snd (Prod.snd a))))) Tip.none],
                      AObj.cells
                        [AV.int IntKind.i64 (Prod.fst b), AV.sl 2 (Seq.map T.encN ([], []) (Prod.fst (Prod.snd b))) Tip.none, AV.int IntKind.i64 (Prod.fst (Prod.snd (Prod.snd b))),
                          AV.int IntKind.i64 (Prod.fst (Prod.snd (Prod.snd (Prod.snd b)))), AV.sl 1 (Seq.map encB (0 : UInt8) (Prod.snd (Prod.snd (Prod.snd (Prod.snd b))))) Tip.none]]))
                (Post (AV.bool false)
                  [AObj.cells
                      [AV.int IntKind.i64 (Prod.fst a), AV.sl 2 (Seq.map T.encN ([], []) (Prod.fst (Prod.snd a))) Tip.none, AV.int IntKind.i64 (Prod.fst (Prod.snd (Prod.snd a))),
                        AV.int IntKind.i64 (Prod.fst (Prod.snd (Prod.snd (Prod.snd a)))), AV.sl 1 (Seq.map encB (0 : UInt8) (Prod.snd (Prod.snd (Prod.snd (Prod.snd a))))) Tip.none],
                    AObj.cells
                      [AV.int IntKind.i64 (Prod.fst b), AV.sl 2 (Seq.map T.encN ([], []) (Prod.fst (Prod.snd b))) Tip.none, AV.int IntKind.i64 (Prod.fst (Prod.snd (Prod.snd b))),
                        AV.int IntKind.i64 (Prod.fst (Prod.snd (Prod.snd (Prod.snd b)))), AV.sl 1 (Seq.map encB (0 : UInt8) (Prod.snd (Prod.snd (Prod.snd (Prod.snd b))))) Tip.none]]))
      (Post (AV.bool false)
        [AObj.cells
            [AV.int IntKind.i64 (Prod.fst a), AV.sl 2 (Seq.map T.encN ([], []) (Prod.fst (Prod.snd a))) Tip.none, AV.int IntKind.i64 (Prod.fst (Prod.snd (Prod.snd a))),
              AV.int IntKind.i64 (Prod.fst (Prod.snd (Prod.snd (Prod.snd a)))), AV.sl 1 (Seq.map encB (0 : UInt8) (Prod.snd (Prod.snd (Prod.snd (Prod.snd a))))) Tip.none],
          AObj.cells
            [AV.int IntKind.i64 (Prod.fst b), AV.sl 2 (Seq.map T.encN ([], []) (Prod.fst (Prod.snd b))) Tip.none, AV.int IntKind.i64 (Prod.fst (Prod.snd (Prod.snd b))),
              AV.int IntKind.i64 (Prod.fst (Prod.snd (Prod.snd (Prod.snd b)))), AV.sl 1 (Seq.map encB (0 : UInt8) (Prod.snd (Prod.snd (Prod.snd (Prod.snd b))))) Tip.none]]) →
    ASpec Try.prog 51 [AV.agg (T.encE a), AV.agg (T.encE b)] [] Post := fun a b Post h => Go.Ab.ASpec.of_vc g51 Go.Proofs.Try.func51 (by kernel_rfl) (by kernel_rfl) (by kernel_rfl) (Go.Ab.kc (by kernel_rfl) h)

-- 148
noncomputable def l148 : Nat → List Nat
  | _ => []
noncomputable def u148 : Nat → Bool
  | _ => false
noncomputable def m148 : Nat → Bool
  | _ => false
noncomputable def g148 : Cfg := { N := 9, live := l148, cut := u148, mu := m148, ret := rets }
noncomputable def c148 : Go.Code := Go.Ab.bodyOf Go.Proofs.Try.f148
theorem s148 : ∀ (x : Int) (Post : AV → List AObj → Prop),
  condP (decide (x ≥ (1 : Int))) (Post (AV.bool (decide (x ≤ (1099511627776 : Int)))) []) (Post (AV.bool false) []) → ASpec Try.prog 148 [AV.int IntKind.i64 x] [] Post := fun x Post h => Go.Ab.ASpec.of_vc g148 Go.Proofs.Try.func148 (by kernel_rfl) (by kernel_rfl) (by kernel_rfl) (Go.Ab.kc (by kernel_rfl) h)

-- 112
noncomputable def l112 : Nat → List Nat
  | _ => []
noncomputable def u112 : Nat → Bool
  | _ => false
noncomputable def m112 : Nat → Bool
  | _ => false
noncomputable def g112 : Cfg := { N := 31, live := l112, cut := u112, mu := m112, ret := rets }
noncomputable def c112 : Go.Code := Go.Ab.bodyOf Go.Proofs.Try.f112
theorem s112 : ∀ (e : T.Ev) (Post : AV → List AObj → Prop),
  condP (Prod.fst e == (1 : Int))
      (Post (AV.iface 207 (AV.agg [AV.int IntKind.i64 (Prod.fst (Prod.snd (Prod.snd e))), AV.sl 2 (Seq.map T.encN ([], []) (Prod.fst (Prod.snd e))) Tip.none]))
        [AObj.cells
            [AV.int IntKind.i64 (Prod.fst e), AV.sl 2 (Seq.map T.encN ([], []) (Prod.fst (Prod.snd e))) Tip.none, AV.int IntKind.i64 (Prod.fst (Prod.snd (Prod.snd e))),
              AV.int IntKind.i64 (Prod.fst (Prod.snd (Prod.snd (Prod.snd e)))), AV.sl 1 (Seq.map encB (0 : UInt8) (Prod.snd (Prod.snd (Prod.snd (Prod.snd e))))) Tip.none]])
      (condP (Prod.fst e == (2 : Int))
        (Post (AV.iface 161 (AV.agg []))
          [AObj.cells
              [AV.int IntKind.i64 (Prod.fst e), AV.sl 2 (Seq.map T.encN ([], []) (Prod.fst (Prod.snd e))) Tip.none, AV.int IntKind.i64 (Prod.fst (Prod.snd (Prod.snd e))),
                AV.int IntKind.i64 (Prod.fst (Prod.snd (Prod.snd (Prod.snd e)))), AV.sl 1 (Seq.map encB (0 : UInt8) (Prod.snd (Prod.snd (Prod.snd (Prod.snd e))))) Tip.none]])
        (condP (Prod.fst e == (3 : Int))
          (Post
            (AV.iface 209
              (AV.agg [AV.int IntKind.i64 (Prod.fst (Prod.snd (Prod.snd (Prod.snd e)))), AV.sl 1 (Seq.map encB (0 : UInt8) (Prod.snd (Prod.snd (Prod.snd (Prod.snd e))))) Tip.none]))
            [AObj.cells
                [AV.int IntKind.i64 (Prod.fst e), AV.sl 2 (Seq.map T.encN ([], []) (Prod.fst (Prod.snd e))) Tip.none, AV.int IntKind.i64 (Prod.fst (Prod.snd (Prod.snd e))),
                  AV.int IntKind.i64 (Prod.fst (Prod.snd (Prod.snd (Prod.snd e)))), AV.sl 1 (Seq.map encB (0 : UInt8) (Prod.snd (Prod.snd (Prod.snd (Prod.snd e))))) Tip.none]])
          (condP (Prod.fst e == (4 : Int))
            (Post (AV.iface 211 (AV.agg [AV.int IntKind.i64 (Prod.fst (Prod.snd (Prod.snd (Prod.snd e))))]))
              [AObj.cells
                  [AV.int IntKind.i64 (Prod.fst e), AV.sl 2 (Seq.map T.encN ([], []) (Prod.fst (Prod.snd e))) Tip.none, AV.int IntKind.i64 (Prod.fst (Prod.snd (Prod.snd e))),
                    AV.int IntKind.i64 (Prod.fst (Prod.snd (Prod.snd (Prod.snd e)))), AV.sl 1 (Seq.map encB (0 : UInt8) (Prod.snd (Prod.snd (Prod.snd (Prod.snd e))))) Tip.none]])
            (Post AV.nili
              [AObj.cells
                  [AV.int IntKind.i64 (Prod.fst e), AV.sl 2 (Seq.map T.encN ([], []) (Prod.fst (Prod.snd e))) Tip.none, AV.int IntKind.i64 (Prod.fst (Prod.snd (Prod.snd e))),
                    AV.int IntKind.i64 (Prod.fst (Prod.snd (Prod.snd (Prod.snd e)))), AV.sl 1 (Seq.map encB (0 : UInt8) (Prod.snd (Prod.snd (Prod.snd (Prod.snd e))))) Tip.none]])))) →
    ASpec Try.prog 112 [AV.agg (T.encE e)] [] Post := fun e Post h => Go.Ab.ASpec.of_vc g112 Go.Proofs.Try.func112 (by kernel_rfl) (by kernel_rfl) (by kernel_rfl) (Go.Ab.kc (by kernel_rfl) h)

-- 113
noncomputable def l113 : Nat → List Nat
  | _ => []
noncomputable def u113 : Nat → Bool
  | _ => false
noncomputable def m113 : Nat → Bool
  | _ => false
noncomputable def g113 : Cfg := { N := 64, live := l113, cut := u113, mu := m113, ret := rets }
noncomputable def c113 : Go.Code := Go.Ab.bodyOf Go.Proofs.Try.f113
theorem s113a : ∀ (t : Int) (l : List T.Need) (Post : AV → List AObj → Prop),
  (ASpec Try.prog 144 [AV.sl 2 (Seq.map T.encN ([], []) l) Tip.none]
      [AObj.cells [AV.int IntKind.i64 (0 : Int), AV.sl 0 (Seq.raw []) Tip.nil, AV.int IntKind.i64 (0 : Int), AV.int IntKind.i64 (0 : Int), AV.sl 0 (Seq.raw []) Tip.nil],
        AObj.cells [AV.int IntKind.i64 t, AV.sl 2 (Seq.map T.encN ([], []) l) Tip.none]]
      fun (r : AV) (H' : List AObj) =>
      ∃ (x : Bool),
        r = AV.bool x ∧
          H' =
              [AObj.cells [AV.int IntKind.i64 (0 : Int), AV.sl 0 (Seq.raw []) Tip.nil, AV.int IntKind.i64 (0 : Int), AV.int IntKind.i64 (0 : Int), AV.sl 0 (Seq.raw []) Tip.nil],
                AObj.cells [AV.int IntKind.i64 t, AV.sl 2 (Seq.map T.encN ([], []) l) Tip.none]] ∧
            (AV.sl 2 (Seq.map T.encN ([], []) l) Tip.none = AV.sl 2 (Seq.map T.encN ([], []) l) Tip.none ∧
                [AObj.cells [AV.int IntKind.i64 (0 : Int), AV.sl 0 (Seq.raw []) Tip.nil, AV.int IntKind.i64 (0 : Int), AV.int IntKind.i64 (0 : Int), AV.sl 0 (Seq.raw []) Tip.nil],
                    AObj.cells [AV.int IntKind.i64 t, AV.sl 2 (Seq.map T.encN ([], []) l) Tip.none]] =
                  [AObj.cells [AV.int IntKind.i64 (0 : Int), AV.sl 0 (Seq.raw []) Tip.nil, AV.int IntKind.i64 (0 : Int), AV.int IntKind.i64 (0 : Int), AV.sl 0 (Seq.raw []) Tip.nil],
                    AObj.cells [AV.int IntKind.i64 t, AV.sl 2 (Seq.map T.encN ([], []) l) Tip.none]]) ∧
              (AV.int IntKind.i64 t = AV.int IntKind.i64 t ∧
                  [AObj.cells [AV.int IntKind.i64 (0 : Int), AV.sl 0 (Seq.raw []) Tip.nil, AV.int IntKind.i64 (0 : Int), AV.int IntKind.i64 (0 : Int), AV.sl 0 (Seq.raw []) Tip.nil],
                      AObj.cells [AV.int IntKind.i64 t, AV.sl 2 (Seq.map T.encN ([], []) l) Tip.none]] =
                    [AObj.cells [AV.int IntKind.i64 (0 : Int), AV.sl 0 (Seq.raw []) Tip.nil, AV.int IntKind.i64 (0 : Int), AV.int IntKind.i64 (0 : Int), AV.sl 0 (Seq.raw []) Tip.nil],
                      AObj.cells [AV.int IntKind.i64 t, AV.sl 2 (Seq.map T.encN ([], []) l) Tip.none]]) ∧
                condP x
                  (condP (decide (t ≥ (0 : Int)))
                    ((AV.int IntKind.i64 t = AV.int IntKind.i64 t ∧
                        [AObj.cells
                              [AV.int IntKind.i64 (1 : Int), AV.sl 2 (Seq.map T.encN ([], []) l) Tip.none, AV.int IntKind.i64 t, AV.int IntKind.i64 (0 : Int),
                                AV.sl 0 (Seq.raw []) Tip.nil],
                            AObj.cells [AV.int IntKind.i64 t, AV.sl 2 (Seq.map T.encN ([], []) l) Tip.none]] =
                          [AObj.cells
                              [AV.int IntKind.i64 (1 : Int), AV.sl 2 (Seq.map T.encN ([], []) l) Tip.none, AV.int IntKind.i64 t, AV.int IntKind.i64 (0 : Int),
                                AV.sl 0 (Seq.raw []) Tip.nil],
                            AObj.cells [AV.int IntKind.i64 t, AV.sl 2 (Seq.map T.encN ([], []) l) Tip.none]]) ∧
                      Post
                        (AV.tup
                          [AV.agg
                              [AV.int IntKind.i64 (1 : Int), AV.sl 2 (Seq.map T.encN ([], []) l) Tip.none, AV.int IntKind.i64 t, AV.int IntKind.i64 (0 : Int),
                                AV.sl 0 (Seq.raw []) Tip.nil],
                            AV.bool (decide (t ≤ (1099511627776 : Int)))])
                        [AObj.cells
                            [AV.int IntKind.i64 (1 : Int), AV.sl 2 (Seq.map T.encN ([], []) l) Tip.none, AV.int IntKind.i64 t, AV.int IntKind.i64 (0 : Int),
                              AV.sl 0 (Seq.raw []) Tip.nil],
                          AObj.cells [AV.int IntKind.i64 t, AV.sl 2 (Seq.map T.encN ([], []) l) Tip.none]])
                    (AV.tup [] = AV.tup [] ∧
                      Post
                        (AV.tup
                          [AV.agg
                              [AV.int IntKind.i64 (1 : Int), AV.sl 2 (Seq.map T.encN ([], []) l) Tip.none, AV.int IntKind.i64 t, AV.int IntKind.i64 (0 : Int),
                                AV.sl 0 (Seq.raw []) Tip.nil],
                            AV.bool false])
                        [AObj.cells
                            [AV.int IntKind.i64 (1 : Int), AV.sl 2 (Seq.map T.encN ([], []) l) Tip.none, AV.int IntKind.i64 t, AV.int IntKind.i64 (0 : Int),
                              AV.sl 0 (Seq.raw []) Tip.nil],
                          AObj.cells [AV.int IntKind.i64 t, AV.sl 2 (Seq.map T.encN ([], []) l) Tip.none]]))
                  (AV.tup [] = AV.tup [] ∧
                    Post
                      (AV.tup
                        [AV.agg
                            [AV.int IntKind.i64 (1 : Int), AV.sl 2 (Seq.map T.encN ([], []) l) Tip.none, AV.int IntKind.i64 t, AV.int IntKind.i64 (0 : Int),
                              AV.sl 0 (Seq.raw []) Tip.nil],
                          AV.bool false])
                      [AObj.cells
                          [AV.int IntKind.i64 (1 : Int), AV.sl 2 (Seq.map T.encN ([], []) l) Tip.none, AV.int IntKind.i64 t, AV.int IntKind.i64 (0 : Int),
                            AV.sl 0 (Seq.raw []) Tip.nil],
                        AObj.cells [AV.int IntKind.i64 t, AV.sl 2 (Seq.map T.encN ([], []) l) Tip.none]])) →
    ASpec Try.prog 113 [AV.iface (207 : TypeId) (AV.agg [AV.int IntKind.i64 t, AV.sl 2 (Seq.map T.encN ([], []) l) Tip.none])] [] Post := fun t l Post h => Go.Ab.ASpec.of_vc g113 Go.Proofs.Try.func113 (by kernel_rfl) (by kernel_rfl) (by kernel_rfl) (Go.Ab.kc (by kernel_rfl) h)
theorem s113p : ∀ (Post : AV → List AObj → Prop),
  Post
      (AV.tup
        [AV.agg [AV.int IntKind.i64 (2 : Int), AV.sl 0 (Seq.raw []) Tip.nil, AV.int IntKind.i64 (0 : Int), AV.int IntKind.i64 (0 : Int), AV.sl 0 (Seq.raw []) Tip.nil], AV.bool true])
      [AObj.cells [AV.int IntKind.i64 (2 : Int), AV.sl 0 (Seq.raw []) Tip.nil, AV.int IntKind.i64 (0 : Int), AV.int IntKind.i64 (0 : Int), AV.sl 0 (Seq.raw []) Tip.nil],
        AObj.cells []] →
    ASpec Try.prog 113 [AV.iface (161 : TypeId) (AV.agg [])] [] Post := fun Post h => Go.Ab.ASpec.of_vc g113 Go.Proofs.Try.func113 (by kernel_rfl) (by kernel_rfl) (by kernel_rfl) (Go.Ab.kc (by kernel_rfl) h)
theorem s113r : ∀ (t : Int) (b : List UInt8) (Post : AV → List AObj → Prop),
  (ASpec Try.prog 148 [AV.int IntKind.i64 t]
      [AObj.cells [AV.int IntKind.i64 (0 : Int), AV.sl 0 (Seq.raw []) Tip.nil, AV.int IntKind.i64 (0 : Int), AV.int IntKind.i64 (0 : Int), AV.sl 0 (Seq.raw []) Tip.nil],
        AObj.cells [AV.int IntKind.i64 t, AV.sl 1 (Seq.map encB (0 : UInt8) b) Tip.none]]
      fun (r : AV) (H' : List AObj) =>
      ∃ (x : Bool),
        r = AV.bool x ∧
          H' =
              [AObj.cells [AV.int IntKind.i64 (0 : Int), AV.sl 0 (Seq.raw []) Tip.nil, AV.int IntKind.i64 (0 : Int), AV.int IntKind.i64 (0 : Int), AV.sl 0 (Seq.raw []) Tip.nil],
                AObj.cells [AV.int IntKind.i64 t, AV.sl 1 (Seq.map encB (0 : UInt8) b) Tip.none]] ∧
            (AV.sl 1 (Seq.map encB (0 : UInt8) b) Tip.none = AV.sl 1 (Seq.map encB (0 : UInt8) b) Tip.none ∧
                [AObj.cells [AV.int IntKind.i64 (0 : Int), AV.sl 0 (Seq.raw []) Tip.nil, AV.int IntKind.i64 (0 : Int), AV.int IntKind.i64 (0 : Int), AV.sl 0 (Seq.raw []) Tip.nil],
                    AObj.cells [AV.int IntKind.i64 t, AV.sl 1 (Seq.map encB (0 : UInt8) b) Tip.none]] =
                  [AObj.cells [AV.int IntKind.i64 (0 : Int), AV.sl 0 (Seq.raw []) Tip.nil, AV.int IntKind.i64 (0 : Int), AV.int IntKind.i64 (0 : Int), AV.sl 0 (Seq.raw []) Tip.nil],
                    AObj.cells [AV.int IntKind.i64 t, AV.sl 1 (Seq.map encB (0 : UInt8) b) Tip.none]]) ∧
              (AV.int IntKind.i64 t = AV.int IntKind.i64 t ∧
                  [AObj.cells [AV.int IntKind.i64 (0 : Int), AV.sl 0 (Seq.raw []) Tip.nil, AV.int IntKind.i64 (0 : Int), AV.int IntKind.i64 (0 : Int), AV.sl 0 (Seq.raw []) Tip.nil],
                      AObj.cells [AV.int IntKind.i64 t, AV.sl 1 (Seq.map encB (0 : UInt8) b) Tip.none]] =
                    [AObj.cells [AV.int IntKind.i64 (0 : Int), AV.sl 0 (Seq.raw []) Tip.nil, AV.int IntKind.i64 (0 : Int), AV.int IntKind.i64 (0 : Int), AV.sl 0 (Seq.raw []) Tip.nil],
                      AObj.cells [AV.int IntKind.i64 t, AV.sl 1 (Seq.map encB (0 : UInt8) b) Tip.none]]) ∧
                condP x
                  ((AV.int IntKind.i64 (↑(List.length b) : Int) = AV.int IntKind.i64 (↑(List.length b) : Int) ∧
                      [AObj.cells
                            [AV.int IntKind.i64 (3 : Int), AV.sl 0 (Seq.raw []) Tip.nil, AV.int IntKind.i64 (0 : Int), AV.int IntKind.i64 t,
                              AV.sl 1 (Seq.map encB (0 : UInt8) b) Tip.none],
                          AObj.cells [AV.int IntKind.i64 t, AV.sl 1 (Seq.map encB (0 : UInt8) b) Tip.none]] =
                        [AObj.cells
                            [AV.int IntKind.i64 (3 : Int), AV.sl 0 (Seq.raw []) Tip.nil, AV.int IntKind.i64 (0 : Int), AV.int IntKind.i64 t,
                              AV.sl 1 (Seq.map encB (0 : UInt8) b) Tip.none],
                          AObj.cells [AV.int IntKind.i64 t, AV.sl 1 (Seq.map encB (0 : UInt8) b) Tip.none]]) ∧
                    (AV.sl 1 (Seq.map encB (0 : UInt8) b) Tip.none = AV.sl 1 (Seq.map encB (0 : UInt8) b) Tip.none ∧
                        [AObj.cells
                              [AV.int IntKind.i64 (3 : Int), AV.sl 0 (Seq.raw []) Tip.nil, AV.int IntKind.i64 (0 : Int), AV.int IntKind.i64 t,
                                AV.sl 1 (Seq.map encB (0 : UInt8) b) Tip.none],
                            AObj.cells [AV.int IntKind.i64 t, AV.sl 1 (Seq.map encB (0 : UInt8) b) Tip.none]] =
                          [AObj.cells
                              [AV.int IntKind.i64 (3 : Int), AV.sl 0 (Seq.raw []) Tip.nil, AV.int IntKind.i64 (0 : Int), AV.int IntKind.i64 t,
                                AV.sl 1 (Seq.map encB (0 : UInt8) b) Tip.none],
                            AObj.cells [AV.int IntKind.i64 t, AV.sl 1 (Seq.map encB (0 : UInt8) b) Tip.none]]) ∧
                      Post
                        (AV.tup
                          [AV.agg
                              [AV.int IntKind.i64 (3 : Int), AV.sl 0 (Seq.raw []) Tip.nil, AV.int IntKind.i64 (0 : Int), AV.int IntKind.i64 t,
                                AV.sl 1 (Seq.map encB (0 : UInt8) b) Tip.none],
                            AV.bool (decide ((↑(List.length b) : Int) ≤ (9000 : Int)))])
                        [AObj.cells
                            [AV.int IntKind.i64 (3 : Int), AV.sl 0 (Seq.raw []) Tip.nil, AV.int IntKind.i64 (0 : Int), AV.int IntKind.i64 t,
                              AV.sl 1 (Seq.map encB (0 : UInt8) b) Tip.none],
                          AObj.cells [AV.int IntKind.i64 t, AV.sl 1 (Seq.map encB (0 : UInt8) b) Tip.none]])
                  (AV.tup [] = AV.tup [] ∧
                    AV.tup [] = AV.tup [] ∧
                      Post
                        (AV.tup
                          [AV.agg
                              [AV.int IntKind.i64 (3 : Int), AV.sl 0 (Seq.raw []) Tip.nil, AV.int IntKind.i64 (0 : Int), AV.int IntKind.i64 t,
                                AV.sl 1 (Seq.map encB (0 : UInt8) b) Tip.none],
                            AV.bool false])
                        [AObj.cells
                            [AV.int IntKind.i64 (3 : Int), AV.sl 0 (Seq.raw []) Tip.nil, AV.int IntKind.i64 (0 : Int), AV.int IntKind.i64 t,
                              AV.sl 1 (Seq.map encB (0 : UInt8) b) Tip.none],
                          AObj.cells [AV.int IntKind.i64 t, AV.sl 1 (Seq.map encB (0 : UInt8) b) Tip.none]])) →
    ASpec Try.prog 113 [AV.iface (209 : TypeId) (AV.agg [AV.int IntKind.i64 t, AV.sl 1 (Seq.map encB (0 : UInt8) b) Tip.none])] [] Post := fun t b Post h => Go.Ab.ASpec.of_vc g113 Go.Proofs.Try.func113 (by kernel_rfl) (by kernel_rfl) (by kernel_rfl) (Go.Ab.kc (by kernel_rfl) h)
theorem s113f : ∀ (t : Int) (Post : AV → List AObj → Prop),
  (ASpec Try.prog 148 [AV.int IntKind.i64 t]
      [AObj.cells [AV.int IntKind.i64 (0 : Int), AV.sl 0 (Seq.raw []) Tip.nil, AV.int IntKind.i64 (0 : Int), AV.int IntKind.i64 (0 : Int), AV.sl 0 (Seq.raw []) Tip.nil],
        AObj.cells [AV.int IntKind.i64 t]]
      fun (r : AV) (H' : List AObj) =>
      ∃ (x : Bool),
        r = AV.bool x ∧
          H' =
              [AObj.cells [AV.int IntKind.i64 (0 : Int), AV.sl 0 (Seq.raw []) Tip.nil, AV.int IntKind.i64 (0 : Int), AV.int IntKind.i64 (0 : Int), AV.sl 0 (Seq.raw []) Tip.nil],
                AObj.cells [AV.int IntKind.i64 t]] ∧
            (AV.int IntKind.i64 t = AV.int IntKind.i64 t ∧
                [AObj.cells [AV.int IntKind.i64 (0 : Int), AV.sl 0 (Seq.raw []) Tip.nil, AV.int IntKind.i64 (0 : Int), AV.int IntKind.i64 (0 : Int), AV.sl 0 (Seq.raw []) Tip.nil],
                    AObj.cells [AV.int IntKind.i64 t]] =
                  [AObj.cells [AV.int IntKind.i64 (0 : Int), AV.sl 0 (Seq.raw []) Tip.nil, AV.int IntKind.i64 (0 : Int), AV.int IntKind.i64 (0 : Int), AV.sl 0 (Seq.raw []) Tip.nil],
                    AObj.cells [AV.int IntKind.i64 t]]) ∧
              Post
                (AV.tup
                  [AV.agg [AV.int IntKind.i64 (4 : Int), AV.sl 0 (Seq.raw []) Tip.nil, AV.int IntKind.i64 (0 : Int), AV.int IntKind.i64 t, AV.sl 0 (Seq.raw []) Tip.nil], AV.bool x])
                [AObj.cells [AV.int IntKind.i64 (4 : Int), AV.sl 0 (Seq.raw []) Tip.nil, AV.int IntKind.i64 (0 : Int), AV.int IntKind.i64 t, AV.sl 0 (Seq.raw []) Tip.nil],
                  AObj.cells [AV.int IntKind.i64 t]]) →
    ASpec Try.prog 113 [AV.iface (211 : TypeId) (AV.agg [AV.int IntKind.i64 t])] [] Post := fun t Post h => Go.Ab.ASpec.of_vc g113 Go.Proofs.Try.func113 (by kernel_rfl) (by kernel_rfl) (by kernel_rfl) (Go.Ab.kc (by kernel_rfl) h)
theorem s113n : ∀ (Post : AV → List AObj → Prop),
  Post
      (AV.tup
        [AV.agg [AV.int IntKind.i64 (0 : Int), AV.sl 0 (Seq.raw []) Tip.nil, AV.int IntKind.i64 (0 : Int), AV.int IntKind.i64 (0 : Int), AV.sl 0 (Seq.raw []) Tip.nil], AV.bool false])
      [AObj.cells [AV.int IntKind.i64 (0 : Int), AV.sl 0 (Seq.raw []) Tip.nil, AV.int IntKind.i64 (0 : Int), AV.int IntKind.i64 (0 : Int), AV.sl 0 (Seq.raw []) Tip.nil]] →
    ASpec Try.prog 113 [AV.nili] [] Post := fun Post h => Go.Ab.ASpec.of_vc g113 Go.Proofs.Try.func113 (by kernel_rfl) (by kernel_rfl) (by kernel_rfl) (Go.Ab.kc (by kernel_rfl) h)

-- 48
noncomputable def l48 : Nat → List Nat
  | _ => []
noncomputable def u48 : Nat → Bool
  | _ => false
noncomputable def m48 : Nat → Bool
  | _ => false
noncomputable def g48 : Cfg := { N := 33, live := l48, cut := u48, mu := m48, ret := rets }
noncomputable def c48 : Go.Code := Go.Ab.bodyOf Go.Proofs.Try.f48
theorem s48 : ∀ (e : T.Ev) (Post : AV → List AObj → Prop),
  (ASpec Try.prog 112
      [AV.agg
          [AV.int IntKind.i64 (Prod.fst e), AV.sl 2 (Seq.map T.encN ([], []) (Prod.fst (Prod.snd e))) Tip.none, AV.int IntKind.i64 (Prod.fst (Prod.snd (Prod.snd e))),
            AV.int IntKind.i64 (Prod.fst (Prod.snd (Prod.snd (Prod.snd e)))), AV.sl 1 (Seq.map encB (0 : UInt8) (Prod.snd (Prod.snd (Prod.snd (Prod.snd e))))) Tip.none]]
      [AObj.cells
          [AV.int IntKind.i64 (Prod.fst e), AV.sl 2 (Seq.map T.encN ([], []) (Prod.fst (Prod.snd e))) Tip.none, AV.int IntKind.i64 (Prod.fst (Prod.snd (Prod.snd e))),
            AV.int IntKind.i64 (Prod.fst (Prod.snd (Prod.snd (Prod.snd e)))), AV.sl 1 (Seq.map encB (0 : UInt8) (Prod.snd (Prod.snd (Prod.snd (Prod.snd e))))) Tip.none]]
      fun (r : AV) (H' : List AObj) =>
      (∃ (x : Int × List T.Need),
          r = AV.iface (207 : TypeId) (AV.agg [AV.int IntKind.i64 (Prod.fst x), AV.sl 2 (Seq.map T.encN ([], []) (Prod.snd x)) Tip.none]) ∧
            H' =
                [AObj.cells
                    [AV.int IntKind.i64 (Prod.fst e), AV.sl 2 (Seq.map T.encN ([], []) (Prod.fst (Prod.snd e))) Tip.none, AV.int IntKind.i64 (Prod.fst (Prod.snd (Prod.snd e))),
                      AV.int IntKind.i64 (Prod.fst (Prod.snd (Prod.snd (Prod.snd e)))), AV.sl 1 (Seq.map encB (0 : UInt8) (Prod.snd (Prod.snd (Prod.snd (Prod.snd e))))) Tip.none]] ∧
              ASpec Try.prog 113 [AV.iface (207 : TypeId) (AV.agg [AV.int IntKind.i64 (Prod.fst x), AV.sl 2 (Seq.map T.encN ([], []) (Prod.snd x)) Tip.none])]
                [AObj.cells
                    [AV.int IntKind.i64 (Prod.fst e), AV.sl 2 (Seq.map T.encN ([], []) (Prod.fst (Prod.snd e))) Tip.none, AV.int IntKind.i64 (Prod.fst (Prod.snd (Prod.snd e))),
                      AV.int IntKind.i64 (Prod.fst (Prod.snd (Prod.snd (Prod.snd e)))), AV.sl 1 (Seq.map encB (0 : UInt8) (Prod.snd (Prod.snd (Prod.snd (Prod.snd e))))) Tip.none],
                  AObj.cells []]
                fun (r : AV) (H' : List AObj) =>
                ∃ (x : T.Ev × Bool),
                  r =
                      AV.tup
                        [AV.agg
                            [AV.int IntKind.i64 (Prod.fst (Prod.fst x)), AV.sl 2 (Seq.map T.encN ([], []) (Prod.fst (Prod.snd (Prod.fst x)))) Tip.none,
                              AV.int IntKind.i64 (Prod.fst (Prod.snd (Prod.snd (Prod.fst x)))), AV.int IntKind.i64 (Prod.fst (Prod.snd (Prod.snd (Prod.snd (Prod.fst x))))),
                              AV.sl 1 (Seq.map encB (0 : UInt8) (Prod.snd (Prod.snd (Prod.snd (Prod.snd (Prod.fst x)))))) Tip.none],
                          AV.bool (Prod.snd x)] ∧
                    H' =
                        [AObj.cells
                            [AV.int IntKind.i64 (Prod.fst e), AV.sl 2 (Seq.map T.encN ([], []) (Prod.fst (Prod.snd e))) Tip.none, AV.int IntKind.i64 (Prod.fst (Prod.snd (Prod.snd e))),
                              AV.int IntKind.i64 (Prod.fst (Prod.snd (Prod.snd (Prod.snd e)))), AV.sl 1 (Seq.map encB (0 : UInt8) (Prod.snd (Prod.snd (Prod.snd (Prod.snd e))))) Tip.none],
                          AObj.cells []] ∧
                      condP (Prod.snd x)
                        (ASpec Try.prog 50
                          [AV.agg
                              [AV.int IntKind.i64 (Prod.fst (Prod.fst x)), AV.sl 2 (Seq.map T.encN ([], []) (Prod.fst (Prod.snd (Prod.fst x)))) Tip.none,
                                AV.int IntKind.i64 (Prod.fst (Prod.snd (Prod.snd (Prod.fst x)))), AV.int IntKind.i64 (Prod.fst (Prod.snd (Prod.snd (Prod.snd (Prod.fst x))))),
                                AV.sl 1 (Seq.map encB (0 : UInt8) (Prod.snd (Prod.snd (Prod.snd (Prod.snd (Prod.fst x)))))) Tip.none],
                            AV.agg
                              [AV.int IntKind.i64 (Prod.fst e), AV.sl 2 (Seq.map T.encN ([], []) (Prod.fst (Prod.snd e))) Tip.none, AV.int IntKind.i64 (Prod.fst (Prod.snd (Prod.snd e))),
                                AV.int IntKind.i64 (Prod.fst (Prod.snd (Prod.snd (Prod.snd e)))), AV.sl 1 (Seq.map encB (0 : UInt8) (Prod.snd (Prod.snd (Prod.snd (Prod.snd e))))) Tip.none]]
                          [AObj.cells
                              [AV.int IntKind.i64 (Prod.fst e), AV.sl 2 (Seq.map T.encN ([], []) (Prod.fst (Prod.snd e))) Tip.none, AV.int IntKind.i64 (Prod.fst (Prod.snd (Prod.snd e))),
                                AV.int IntKind.i64 (Prod.fst (Prod.snd (Prod.snd (Prod.snd e)))), AV.sl 1 (Seq.map encB (0 : UInt8) (Prod.snd (Prod.snd (Prod.snd (Prod.snd e))))) Tip.none],
                            AObj.cells [],
                            AObj.cells
                              [AV.int IntKind.i64 (Prod.fst (Prod.fst x)), AV.sl 2 (Seq.map T.encN ([], []) (Prod.fst (Prod.snd (Prod.fst x)))) Tip.none,
                                AV.int IntKind.i64 (Prod.fst (Prod.snd (Prod.snd (Prod.fst x)))), AV.int IntKind.i64 (Prod.fst (Prod.snd (Prod.snd (Prod.snd (Prod.fst x))))),
                                AV.sl 1 (Seq.map encB (0 : UInt8) (Prod.snd (Prod.snd (Prod.snd (Prod.snd (Prod.fst x)))))) Tip.none]]
                          fun (r : AV) (H' : List AObj) =>
                          ∃ (x_1 : Bool),
                            r = AV.bool x_1 ∧
                              H' =
                                  [AObj.cells
                                      [AV.int IntKind.i64 (Prod.fst e), AV.sl 2 (Seq.map T.encN ([], []) (Prod.fst (Prod.snd e))) Tip.none,
                                        AV.int IntKind.i64 (Prod.fst (Prod.snd (Prod.snd e))), AV.int IntKind.i64 (Prod.fst (Prod.snd (Prod.snd (Prod.snd e)))),
                                        AV.sl 1 (Seq.map encB (0 : UInt8) (Prod.snd (Prod.snd (Prod.snd (Prod.snd e))))) Tip.none],
                                    AObj.cells [],
                                    AObj.cells
                                      [AV.int IntKind.i64 (Prod.fst (Prod.fst x)), AV.sl 2 (Seq.map T.encN ([], []) (Prod.fst (Prod.snd (Prod.fst x)))) Tip.none,
                                        AV.int IntKind.i64 (Prod.fst (Prod.snd (Prod.snd (Prod.fst x)))), AV.int IntKind.i64 (Prod.fst (Prod.snd (Prod.snd (Prod.snd (Prod.fst x))))),
                                        AV.sl 1 (Seq.map encB (0 : UInt8) (Prod.snd (Prod.snd (Prod.snd (Prod.snd (Prod.fst x)))))) Tip.none]] ∧
                                Post (AV.bool x_1)
                                  [AObj.cells
                                      [AV.int IntKind.i64 (Prod.fst e), AV.sl 2 (Seq.map T.encN ([], []) (Prod.fst (Prod.snd e))) Tip.none,
                                        AV.int IntKind.i64 (Prod.fst (Prod.snd (Prod.snd e))), AV.int IntKind.i64 (Prod.fst (Prod.snd (Prod.snd (Prod.snd e)))),
                                        AV.sl 1 (Seq.map encB (0 : UInt8) (Prod.snd (Prod.snd (Prod.snd (Prod.snd e))))) Tip.none],
                                    AObj.cells [],
                                    AObj.cells
                                      [AV.int IntKind.i64 (Prod.fst (Prod.fst x)), AV.sl 2 (Seq.map T.encN ([], []) (Prod.fst (Prod.snd (Prod.fst x)))) Tip.none,
                                        AV.int IntKind.i64 (Prod.fst (Prod.snd (Prod.snd (Prod.fst x)))), AV.int IntKind.i64 (Prod.fst (Prod.snd (Prod.snd (Prod.snd (Prod.fst x))))),
                                        AV.sl 1 (Seq.map encB (0 : UInt8) (Prod.snd (Prod.snd (Prod.snd (Prod.snd (Prod.fst x)))))) Tip.none]])
                        (Post (AV.bool false)
                          [AObj.cells
                              [AV.int IntKind.i64 (Prod.fst e), AV.sl 2 (Seq.map T.encN ([], []) (Prod.fst (Prod.snd e))) Tip.none, AV.int IntKind.i64 (Prod.fst (Prod.snd (Prod.snd e))),
                                AV.int IntKind.i64 (Prod.fst (Prod.snd (Prod.snd (Prod.snd e)))), AV.sl 1 (Seq.map encB (0 : UInt8) (Prod.snd (Prod.snd (Prod.snd (Prod.snd e))))) Tip.none],
                            AObj.cells [],
                            AObj.cells
                              [AV.int IntKind.i64 (Prod.fst (Prod.fst x)), AV.sl 2 (Seq.map T.encN ([], []) (Prod.fst (Prod.snd (Prod.fst x)))) Tip.none,
                                AV.int IntKind.i64 (Prod.fst (Prod.snd (Prod.snd (Prod.fst x)))), AV.int IntKind.i64 (Prod.fst (Prod.snd (Prod.snd (Prod.snd (Prod.fst x))))),
                                AV.sl 1 (Seq.map encB (0 : UInt8) (Prod.snd (Prod.snd (Prod.snd (Prod.snd (Prod.fst x)))))) Tip.none]])) ∨
        (∃ (x : Unit),
            r = AV.iface (161 : TypeId) (AV.agg []) ∧
              H' =
                  [AObj.cells
                      [AV.int IntKind.i64 (Prod.fst e), AV.sl 2 (Seq.map T.encN ([], []) (Prod.fst (Prod.snd e))) Tip.none, AV.int IntKind.i64 (Prod.fst (Prod.snd (Prod.snd e))),
                        AV.int IntKind.i64 (Prod.fst (Prod.snd (Prod.snd (Prod.snd e)))), AV.sl 1 (Seq.map encB (0 : UInt8) (Prod.snd (Prod.snd (Prod.snd (Prod.snd e))))) Tip.none]] ∧
                ASpec Try.prog 50
                  [AV.agg
                      [AV.int IntKind.i64 (Prod.fst e), AV.sl 2 (Seq.map T.encN ([], []) (Prod.fst (Prod.snd e))) Tip.none, AV.int IntKind.i64 (Prod.fst (Prod.snd (Prod.snd e))),
                        AV.int IntKind.i64 (Prod.fst (Prod.snd (Prod.snd (Prod.snd e)))), AV.sl 1 (Seq.map encB (0 : UInt8) (Prod.snd (Prod.snd (Prod.snd (Prod.snd e))))) Tip.none],
                    AV.agg [AV.int IntKind.i64 (2 : Int), AV.sl 0 (Seq.raw []) Tip.nil, AV.int IntKind.i64 (0 : Int), AV.int IntKind.i64 (0 : Int), AV.sl 0 (Seq.raw []) Tip.nil]]
                  [AObj.cells
                      [AV.int IntKind.i64 (Prod.fst e), AV.sl 2 (Seq.map T.encN ([], []) (Prod.fst (Prod.snd e))) Tip.none, AV.int IntKind.i64 (Prod.fst (Prod.snd (Prod.snd e))),
                        AV.int IntKind.i64 (Prod.fst (Prod.snd (Prod.snd (Prod.snd e)))), AV.sl 1 (Seq.map encB (0 : UInt8) (Prod.snd (Prod.snd (Prod.snd (Prod.snd e))))) Tip.none],
                    AObj.cells []]
                  fun (r : AV) (H' : List AObj) =>
                  ∃ (x : Bool),
                    r = AV.bool x ∧
                      H' =
                          [AObj.cells
                              [AV.int IntKind.i64 (Prod.fst e), AV.sl 2 (Seq.map T.encN ([], []) (Prod.fst (Prod.snd e))) Tip.none, AV.int IntKind.i64 (Prod.fst (Prod.snd (Prod.snd e))),
                                AV.int IntKind.i64 (Prod.fst (Prod.snd (Prod.snd (Prod.snd e)))), AV.sl 1 (Seq.map encB (0 : UInt8) (Prod.snd (Prod.snd (Prod.snd (Prod.snd e))))) Tip.none],
                            AObj.cells []] ∧
                        condP (!x)
                          (Post (AV.bool false)
                            [AObj.cells
                                [AV.int IntKind.i64 (Prod.fst e), AV.sl 2 (Seq.map T.encN ([], []) (Prod.fst (Prod.snd e))) Tip.none, AV.int IntKind.i64 (Prod.fst (Prod.snd (Prod.snd e))),
                                  AV.int IntKind.i64 (Prod.fst (Prod.snd (Prod.snd (Prod.snd e)))), AV.sl 1 (Seq.map encB (0 : UInt8) (Prod.snd (Prod.snd (Prod.snd (Prod.snd e))))) Tip.none],
                              AObj.cells []])
                          (ASpec Try.prog 113 [AV.iface (161 : TypeId) (AV.agg [])]
                            [AObj.cells
                                [AV.int IntKind.i64 (Prod.fst e), AV.sl 2 (Seq.map T.encN ([], []) (Prod.fst (Prod.snd e))) Tip.none, AV.int IntKind.i64 (Prod.fst (Prod.snd (Prod.snd e))),
                                  AV.int IntKind.i64 (Prod.fst (Prod.snd (Prod.snd (Prod.snd e)))), AV.sl 1 (Seq.map encB (0 : UInt8) (Prod.snd (Prod.snd (Prod.snd (Prod.snd e))))) Tip.none],
                              AObj.cells []]
                            fun (r : AV) (H' : List AObj) =>
                            ∃ (x : T.Ev × Bool),
                              r =
                                  AV.tup
                                    [AV.agg
                                        [AV.int IntKind.i64 (Prod.fst (Prod.fst x)), AV.sl 2 (Seq.map T.encN ([], []) (Prod.fst (Prod.snd (Prod.fst x)))) Tip.none,
                                          AV.int IntKind.i64 (Prod.fst (Prod.snd (Prod.snd (Prod.fst x)))), AV.int IntKind.i64 (Prod.fst (Prod.snd (Prod.snd (Prod.snd (Prod.fst x))))),
                                          AV.sl 1 (Seq.map encB (0 : UInt8) (Prod.snd (Prod.snd (Prod.snd (Prod.snd (Prod.fst x)))))) Tip.none],
                                      AV.bool (Prod.snd x)] ∧
                                H' =
                                    [AObj.cells
                                        [AV.int IntKind.i64 (Prod.fst e), AV.sl 2 (Seq.map T.encN ([], []) (Prod.fst (Prod.snd e))) Tip.none,
                                          AV.int IntKind.i64 (Prod.fst (Prod.snd (Prod.snd e))), AV.int IntKind.i64 (Prod.fst (Prod.snd (Prod.snd (Prod.snd e)))),
                                          AV.sl 1 (Seq.map encB (0 : UInt8) (Prod.snd (Prod.snd (Prod.snd (Prod.snd e))))) Tip.none],
                                      AObj.cells []] ∧
                                  condP (Prod.snd x)
                                    (ASpec Try.prog 50
                                      [AV.agg
                                          [AV.int IntKind.i64 (Prod.fst (Prod.fst x)), AV.sl 2 (Seq.map T.encN ([], []) (Prod.fst (Prod.snd (Prod.fst x)))) Tip.none,
                                            AV.int IntKind.i64 (Prod.fst (Prod.snd (Prod.snd (Prod.fst x)))), AV.int IntKind.i64 (Prod.fst (Prod.snd (Prod.snd (Prod.snd (Prod.fst x))))),
                                            AV.sl 1 (Seq.map encB (0 : UInt8) (Prod.snd (Prod.snd (Prod.snd (Prod.snd (Prod.fst x)))))) Tip.none],
                                        AV.agg
                                          [AV.int IntKind.i64 (Prod.fst e), AV.sl 2 (Seq.map T.encN ([], []) (Prod.fst (Prod.snd e))) Tip.none,
                                            AV.int IntKind.i64 (Prod.fst (Prod.snd (Prod.snd e))), AV.int IntKind.i64 (Prod.fst (Prod.snd (Prod.snd (Prod.snd e)))),
                                            AV.sl 1 (Seq.map encB (0 : UInt8) (Prod.snd (Prod.snd (Prod.snd (Prod.snd e))))) Tip.none]]
                                      [AObj.cells
                                          [AV.int IntKind.i64 (Prod.fst e), AV.sl 2 (Seq.map T.encN ([], []) (Prod.fst (Prod.snd e))) Tip.none,
                                            AV.int IntKind.i64 (Prod.fst (Prod.snd (Prod.snd e))), AV.int IntKind.i64 (Prod.fst (Prod.snd (Prod.snd (Prod.snd e)))),
                                            AV.sl 1 (Seq.map encB (0 : UInt8) (Prod.snd (Prod.snd (Prod.snd (Prod.snd e))))) Tip.none],
                                        AObj.cells [],
                                        AObj.cells
                                          [AV.int IntKind.i64 (Prod.fst (Prod.fst x)), AV.sl 2 (Seq.map T.encN ([], []) (Prod.fst (Prod.snd (Prod.fst x)))) Tip.none,
                                            AV.int IntKind.i64 (Prod.fst (Prod.snd (Prod.snd (Prod.fst x)))), AV.int IntKind.i64 (Prod.fst (Prod.snd (Prod.snd (Prod.snd (Prod.fst x))))),
                                            AV.sl 1 (Seq.map encB (0 : UInt8) (Prod.snd (Prod.snd (Prod.snd (Prod.snd (Prod.fst x)))))) Tip.none]]
                                      fun (r : AV) (H' : List AObj) =>
                                      ∃ (x_1 : Bool),
                                        r = AV.bool x_1 ∧
                                          H' =
                                              [AObj.cells
                                                  [AV.int IntKind.i64 (Prod.fst e), AV.sl 2 (Seq.map T.encN ([], []) (Prod.fst (Prod.snd e))) Tip.none,
                                                    AV.int IntKind.i64 (Prod.fst (Prod.snd (Prod.snd e))), AV.int IntKind.i64 (Prod.fst (Prod.snd (Prod.snd (Prod.snd e)))),
                                                    AV.sl 1 (Seq.map encB (0 : UInt8) (Prod.snd (Prod.snd (Prod.snd (Prod.snd e))))) Tip.none],
                                                AObj.cells [],
                                                AObj.cells
                                                  [AV.int IntKind.i64 (Prod.fst (Prod.fst x)), AV.sl 2 (Seq.map T.encN ([], []) (Prod.fst (Prod.snd (Prod.fst x)))) Tip.none,
                                                    AV.int IntKind.i64 (Prod.fst (Prod.snd (Prod.snd (Prod.fst x)))), AV.int IntKind.i64 (Prod.fst (Prod.snd (Prod.snd (Prod.snd (Prod.fst x))))),
                                                    AV.sl 1 (Seq.map encB (0 : UInt8) (Prod.snd (Prod.snd (Prod.snd (Prod.snd (Prod.fst x)))))) Tip.none]] ∧
                                            Post (AV.bool x_1)
                                              [AObj.cells
                                                  [AV.int IntKind.i64 (Prod.fst e), AV.sl 2 (Seq.map T.encN ([], []) (Prod.fst (Prod.snd e))) Tip.none,
                                                    AV.int IntKind.i64 (Prod.fst (Prod.snd (Prod.snd e))), AV.int IntKind.i64 (Prod.fst (Prod.snd (Prod.snd (Prod.snd e)))),
                                                    AV.sl 1 (Seq.map encB (0 : UInt8) (Prod.snd (Prod.snd (Prod.snd (Prod.snd e))))) Tip.none],
                                                AObj.cells [],
                                                AObj.cells
                                                  [AV.int IntKind.i64 (Prod.fst (Prod.fst x)), AV.sl 2 (Seq.map T.encN ([], []) (Prod.fst (Prod.snd (Prod.fst x)))) Tip.none,
                                                    AV.int IntKind.i64 (Prod.fst (Prod.snd (Prod.snd (Prod.fst x)))), AV.int IntKind.i64 (Prod.fst (Prod.snd (Prod.snd (Prod.snd (Prod.fst x))))),
                                                    AV.sl 1 (Seq.map encB (0 : UInt8) (Prod.snd (Prod.snd (Prod.snd (Prod.snd (Prod.fst x)))))) Tip.none]])
                                    (Post (AV.bool false)
                                      [AObj.cells
                                          [AV.int IntKind.i64 (Prod.fst e), AV.sl 2 (Seq.map T.encN ([], []) (Prod.fst (Prod.snd e))) Tip.none,
                                            AV.int IntKind.i64 (Prod.fst (Prod.snd (Prod.snd e))), AV.int IntKind.i64 (Prod.fst (Prod.snd (Prod.snd (Prod.snd e)))),
                                            AV.sl 1 (Seq.map encB (0 : UInt8) (Prod.snd (Prod.snd (Prod.snd (Prod.snd e))))) Tip.none],
                                        AObj.cells [],
                                        AObj.cells
                                          [AV.int IntKind.i64 (Prod.fst (Prod.fst x)), AV.sl 2 (Seq.map T.encN ([], []) (Prod.fst (Prod.snd (Prod.fst x)))) Tip.none,
                                            AV.int IntKind.i64 (Prod.fst (Prod.snd (Prod.snd (Prod.fst x)))), AV.int IntKind.i64 (Prod.fst (Prod.snd (Prod.snd (Prod.snd (Prod.fst x))))),
                                            AV.sl 1 (Seq.map encB (0 : UInt8) (Prod.snd (Prod.snd (Prod.snd (Prod.snd (Prod.fst x)))))) Tip.none]]))) ∨
          (∃ (x : Int × List UInt8),
              r = AV.iface (209 : TypeId) (AV.agg [AV.int IntKind.i64 (Prod.fst x), AV.sl 1 (Seq.map encB (0 : UInt8) (Prod.snd x)) Tip.none]) ∧
                H' =
                    [AObj.cells
                        [AV.int IntKind.i64 (Prod.fst e), AV.sl 2 (Seq.map T.encN ([], []) (Prod.fst (Prod.snd e))) Tip.none, AV.int IntKind.i64 (Prod.fst (Prod.snd (Prod.snd e))),
                          AV.int IntKind.i64 (Prod.fst (Prod.snd (Prod.snd (Prod.snd e)))), AV.sl 1 (Seq.map encB (0 : UInt8) (Prod.snd (Prod.snd (Prod.snd (Prod.snd e))))) Tip.none]] ∧
                  ASpec Try.prog 113 [AV.iface (209 : TypeId) (AV.agg [AV.int IntKind.i64 (Prod.fst x), AV.sl 1 (Seq.map encB (0 : UInt8) (Prod.snd x)) Tip.none])]
                    [AObj.cells
                        [AV.int IntKind.i64 (Prod.fst e), AV.sl 2 (Seq.map T.encN ([], []) (Prod.fst (Prod.snd e))) Tip.none, AV.int IntKind.i64 (Prod.fst (Prod.snd (Prod.snd e))),
                          AV.int IntKind.i64 (Prod.fst (Prod.snd (Prod.snd (Prod.snd e)))), AV.sl 1 (Seq.map encB (0 : UInt8) (Prod.snd (Prod.snd (Prod.snd (Prod.snd e))))) Tip.none],
                      AObj.cells []]
                    fun (r : AV) (H' : List AObj) =>
                    ∃ (x : T.Ev × Bool),
                      r =
                          AV.tup
                            [AV.agg
                                [AV.int IntKind.i64 (Prod.fst (Prod.fst x)), AV.sl 2 (Seq.map T.encN ([], []) (Prod.fst (Prod.snd (Prod.fst x)))) Tip.none,
                                  AV.int IntKind.i64 (Prod.fst (Prod.snd (Prod.snd (Prod.fst x)))), AV.int IntKind.i64 (Prod.fst (Prod.snd (Prod.snd (Prod.snd (Prod.fst x))))),
                                  AV.sl 1 (Seq.map encB (0 : UInt8) (Prod.snd (Prod.snd (Prod.snd (Prod.snd (Prod.fst x)))))) Tip.none],
                              AV.bool (Prod.snd x)] ∧
                        H' =
                            [AObj.cells
                                [AV.int IntKind.i64 (Prod.fst e), AV.sl 2 (Seq.map T.encN ([], []) (Prod.fst (Prod.snd e))) Tip.none, AV.int IntKind.i64 (Prod.fst (Prod.snd (Prod.snd e))),
                                  AV.int IntKind.i64 (Prod.fst (Prod.snd (Prod.snd (Prod.snd e)))), AV.sl 1 (Seq.map encB (0 : UInt8) (Prod.snd (Prod.snd (Prod.snd (Prod.snd e))))) Tip.none],
                              AObj.cells []] ∧
                          condP (Prod.snd x)
                            (ASpec Try.prog 50
                              [AV.agg
                                  [AV.int IntKind.i64 (Prod.fst (Prod.fst x)), AV.sl 2 (Seq.map T.encN ([], []) (Prod.fst (Prod.snd (Prod.fst x)))) Tip.none,
                                    AV.int IntKind.i64 (Prod.fst (Prod.snd (Prod.snd (Prod.fst x)))), AV.int IntKind.i64 (Prod.fst (Prod.snd (Prod.snd (Prod.snd (Prod.fst x))))),
                                    AV.sl 1 (Seq.map encB (0 : UInt8) (Prod.snd (Prod.snd (Prod.snd (Prod.snd (Prod.fst x)))))) Tip.none],
                                AV.agg
                                  [AV.int IntKind.i64 (Prod.fst e), AV.sl 2 (Seq.map T.encN ([], []) (Prod.fst (Prod.snd e))) Tip.none, AV.int IntKind.i64 (Prod.fst (Prod.snd (Prod.snd e))),
                                    AV.int IntKind.i64 (Prod.fst (Prod.snd (Prod.snd (Prod.snd e)))),
                                    AV.sl 1 (Seq.map encB (0 : UInt8) (Prod.snd (Prod.snd (Prod.snd (Prod.snd e))))) Tip.none]]
                              [AObj.cells
                                  [AV.int IntKind.i64 (Prod.fst e), AV.sl 2 (Seq.map T.encN ([], []) (Prod.fst (Prod.snd e))) Tip.none, AV.int IntKind.i64 (Prod.fst (Prod.snd (Prod.snd e))),
                                    AV.int IntKind.i64 (Prod.fst (Prod.snd (Prod.snd (Prod.snd e)))),
                                    AV.sl 1 (Seq.map encB (0 : UInt8) (Prod.snd (Prod.snd (Prod.snd (Prod.snd e))))) Tip.none],
                                AObj.cells [],
                                AObj.cells
                                  [AV.int IntKind.i64 (Prod.fst (Prod.fst x)), AV.sl 2 (Seq.map T.encN ([], []) (Prod.fst (Prod.snd (Prod.fst x)))) Tip.none,
                                    AV.int IntKind.i64 (Prod.fst (Prod.snd (Prod.snd (Prod.fst x)))), AV.int IntKind.i64 (Prod.fst (Prod.snd (Prod.snd (Prod.snd (Prod.fst x))))),
                                    AV.sl 1 (Seq.map encB (0 : UInt8) (Prod.snd (Prod.snd (Prod.snd (Prod.snd (Prod.fst x)))))) Tip.none]]
                              fun (r : AV) (H' : List AObj) =>
                              ∃ (x_1 : Bool),
                                r = AV.bool x_1 ∧
                                  H' =
                                      [AObj.cells
                                          [AV.int IntKind.i64 (Prod.fst e), AV.sl 2 (Seq.map T.encN ([], []) (Prod.fst (Prod.snd e))) Tip.none,
                                            AV.int IntKind.i64 (Prod.fst (Prod.snd (Prod.snd e))), AV.int IntKind.i64 (Prod.fst (Prod.snd (Prod.snd (Prod.snd e)))),
                                            AV.sl 1 (Seq.map encB (0 : UInt8) (Prod.snd (Prod.snd (Prod.snd (Prod.snd e))))) Tip.none],
                                        AObj.cells [],
                                        AObj.cells
                                          [AV.int IntKind.i64 (Prod.fst (Prod.fst x)), AV.sl 2 (Seq.map T.encN ([], []) (Prod.fst (Prod.snd (Prod.fst x)))) Tip.none,
                                            AV.int IntKind.i64 (Prod.fst (Prod.snd (Prod.snd (Prod.fst x)))), AV.int IntKind.i64 (Prod.fst (Prod.snd (Prod.snd (Prod.snd (Prod.fst x))))),
                                            AV.sl 1 (Seq.map encB (0 : UInt8) (Prod.snd (Prod.snd (Prod.snd (Prod.snd (Prod.fst x)))))) Tip.none]] ∧
                                    Post (AV.bool x_1)
                                      [AObj.cells
                                          [AV.int IntKind.i64 (Prod.fst e), AV.sl 2 (Seq.map T.encN ([], []) (Prod.fst (Prod.snd e))) Tip.none,
                                            AV.int IntKind.i64 (Prod.fst (Prod.snd (Prod.snd e))), AV.int IntKind.i64 (Prod.fst (Prod.snd (Prod.snd (Prod.snd e)))),
                                            AV.sl 1 (Seq.map encB (0 : UInt8) (Prod.snd (Prod.snd (Prod.snd (Prod.snd e))))) Tip.none],
                                        AObj.cells [],
                                        AObj.cells
                                          [AV.int IntKind.i64 (Prod.fst (Prod.fst x)), AV.sl 2 (Seq.map T.encN ([], []) (Prod.fst (Prod.snd (Prod.fst x)))) Tip.none,
                                            AV.int IntKind.i64 (Prod.fst (Prod.snd (Prod.snd (Prod.fst x)))), AV.int IntKind.i64 (Prod.fst (Prod.snd (Prod.snd (Prod.snd (Prod.fst x))))),
                                            AV.sl 1 (Seq.map encB (0 : UInt8) (Prod.snd (Prod.snd (Prod.snd (Prod.snd (Prod.fst x)))))) Tip.none]])
                            (Post (AV.bool false)
                              [AObj.cells
                                  [AV.int IntKind.i64 (Prod.fst e), AV.sl 2 (Seq.map T.encN ([], []) (Prod.fst (Prod.snd e))) Tip.none, AV.int IntKind.i64 (Prod.fst (Prod.snd (Prod.snd e))),
                                    AV.int IntKind.i64 (Prod.fst (Prod.snd (Prod.snd (Prod.snd e)))),
                                    AV.sl 1 (Seq.map encB (0 : UInt8) (Prod.snd (Prod.snd (Prod.snd (Prod.snd e))))) Tip.none],
                                AObj.cells [],
                                AObj.cells
                                  [AV.int IntKind.i64 (Prod.fst (Prod.fst x)), AV.sl 2 (Seq.map T.encN ([], []) (Prod.fst (Prod.snd (Prod.fst x)))) Tip.none,
                                    AV.int IntKind.i64 (Prod.fst (Prod.snd (Prod.snd (Prod.fst x)))), AV.int IntKind.i64 (Prod.fst (Prod.snd (Prod.snd (Prod.snd (Prod.fst x))))),
                                    AV.sl 1 (Seq.map encB (0 : UInt8) (Prod.snd (Prod.snd (Prod.snd (Prod.snd (Prod.fst x)))))) Tip.none]])) ∨
            (∃ (x : Int),
                r = AV.iface (211 : TypeId) (AV.agg [AV.int IntKind.i64 x]) ∧
                  H' =
                      [AObj.cells
                          [AV.int IntKind.i64 (Prod.fst e), AV.sl 2 (Seq.map T.encN ([], []) (Prod.fst (Prod.snd e))) Tip.none, AV.int IntKind.i64 (Prod.fst (Prod.snd (Prod.snd e))),
                            AV.int IntKind.i64 (Prod.fst (Prod.snd (Prod.snd (Prod.snd e)))), AV.sl 1 (Seq.map encB (0 : UInt8) (Prod.snd (Prod.snd (Prod.snd (Prod.snd e))))) Tip.none]] ∧
                    ASpec Try.prog 113 [AV.iface (211 : TypeId) (AV.agg [AV.int IntKind.i64 x])]
                      [AObj.cells
                          [AV.int IntKind.i64 (Prod.fst e), AV.sl 2 (Seq.map T.encN ([], []) (Prod.fst (Prod.snd e))) Tip.none, AV.int IntKind.i64 (Prod.fst (Prod.snd (Prod.snd e))),
                            AV.int IntKind.i64 (Prod.fst (Prod.snd (Prod.snd (Prod.snd e)))), AV.sl 1 (Seq.map encB (0 : UInt8) (Prod.snd (Prod.snd (Prod.snd (Prod.snd e))))) Tip.none],
                        AObj.cells []]
                      fun (r : AV) (H' : List AObj) =>
                      ∃ (x : T.Ev × Bool),
                        r =
                            AV.tup
                              [AV.agg
                                  [AV.int IntKind.i64 (Prod.fst (Prod.fst x)), AV.sl 2 (Seq.map T.encN ([], []) (Prod.fst (Prod.snd (Prod.fst x)))) Tip.none,
                                    AV.int IntKind.i64 (Prod.fst (Prod.snd (Prod.snd (Prod.fst x)))), AV.int IntKind.i64 (Prod.fst (Prod.snd (Prod.snd (Prod.snd (Prod.fst x))))),
                                    AV.sl 1 (Seq.map encB (0 : UInt8) (Prod.snd (Prod.snd (Prod.snd (Prod.snd (Prod.fst x)))))) Tip.none],
                                AV.bool (Prod.snd x)] ∧
                          H' =
                              [AObj.cells
                                  [AV.int IntKind.i64 (Prod.fst e), AV.sl 2 (Seq.map T.encN ([], []) (Prod.fst (Prod.snd e))) Tip.none, AV.int IntKind.i64 (Prod.fst (Prod.snd (Prod.snd e))),
                                    AV.int IntKind.i64 (Prod.fst (Prod.snd (Prod.snd (Prod.snd e)))),
                                    AV.sl 1 (Seq.map encB (0 : UInt8) (Prod.snd (Prod.snd (Prod.snd (Prod.snd e))))) Tip.none],
                                AObj.cells []] ∧
                            condP (Prod.snd x)
                              (ASpec Try.prog 50
                                [AV.agg
                                    [AV.int IntKind.i64 (Prod.fst (Prod.fst x)), AV.sl 2 (Seq.map T.encN ([], []) (Prod.fst (Prod.snd (Prod.fst x)))) Tip.none,
                                      AV.int IntKind.i64 (Prod.fst (Prod.snd (Prod.snd (Prod.fst x)))), AV.int IntKind.i64 (Prod.fst (Prod.snd (Prod.snd (Prod.snd (Prod.fst x))))),
                                      AV.sl 1 (Seq.map encB (0 : UInt8) (Prod.snd (Prod.snd (Prod.snd (Prod.snd (Prod.fst x)))))) Tip.none],
                                  AV.agg
                                    [AV.int IntKind.i64 (Prod.fst e), AV.sl 2 (Seq.map T.encN ([], []) (Prod.fst (Prod.snd e))) Tip.none, AV.int IntKind.i64 (Prod.fst (Prod.snd (Prod.snd e))),
                                      AV.int IntKind.i64 (Prod.fst (Prod.snd (Prod.snd (Prod.snd e)))),
                                      AV.sl 1 (Seq.map encB (0 : UInt8) (Prod.snd (Prod.snd (Prod.snd (Prod.snd e))))) Tip.none]]
                                [AObj.cells
                                    [AV.int IntKind.i64 (Prod.fst e), AV.sl 2 (Seq.map T.encN ([], []) (Prod.fst (Prod.snd e))) Tip.none, AV.int IntKind.i64 (Prod.fst (Prod.snd (Prod.snd e))),
                                      AV.int IntKind.i64 (Prod.fst (Prod.snd (Prod.snd (Prod.snd e)))),
                                      AV.sl 1 (Seq.map encB (0 : UInt8) (Prod.snd (Prod.snd (Prod.snd (Prod.snd e))))) Tip.none],
                                  AObj.cells [],
                                  AObj.cells
                                    [AV.int IntKind.i64 (Prod.fst (Prod.fst x)), AV.sl 2 (Seq.map T.encN ([], []) (Prod.fst (Prod.snd (Prod.fst x)))) Tip.none,
                                      AV.int IntKind.i64 (Prod.fst (Prod.snd (Prod.snd (Prod.fst x)))), AV.int IntKind.i64 (Prod.fst (Prod.snd (Prod.snd (Prod.snd (Prod.fst x))))),
                                      AV.sl 1 (Seq.map encB (0 : UInt8) (Prod.snd (Prod.snd (Prod.snd (Prod.snd (Prod.fst x)))))) Tip.none]]
                                fun (r : AV) (H' : List AObj) =>
                                ∃ (x_1 : Bool),
                                  r = AV.bool x_1 ∧
                                    H' =
                                        [AObj.cells
                                            [AV.int IntKind.i64 (Prod.fst e), AV.sl 2 (Seq.map T.encN ([], []) (Prod.fst (Prod.snd e))) Tip.none,
                                              AV.int IntKind.i64 (Prod.fst (Prod.snd (Prod.snd e))), AV.int IntKind.i64 (Prod.fst (Prod.snd (Prod.snd (Prod.snd e)))),
                                              AV.sl 1 (Seq.map encB (0 : UInt8) (Prod.snd (Prod.snd (Prod.snd (Prod.snd e))))) Tip.none],
                                          AObj.cells [],
                                          AObj.cells
                                            [AV.int IntKind.i64 (Prod.fst (Prod.fst x)), AV.sl 2 (Seq.map T.encN ([], []) (Prod.fst (Prod.snd (Prod.fst x)))) Tip.none,
                                              AV.int IntKind.i64 (Prod.fst (Prod.snd (Prod.snd (Prod.fst x)))), AV.int IntKind.i64 (Prod.fst (Prod.snd (Prod.snd (Prod.snd (Prod.fst x))))),
                                              AV.sl 1 (Seq.map encB (0 : UInt8) (Prod.snd (Prod.snd (Prod.snd (Prod.snd (Prod.fst x)))))) Tip.none]] ∧
                                      Post (AV.bool x_1)
                                        [AObj.cells
                                            [AV.int IntKind.i64 (Prod.fst e), AV.sl 2 (Seq.map T.encN ([], []) (Prod.fst (Prod.snd e))) Tip.none,
                                              AV.int IntKind.i64 (Prod.fst (Prod.snd (Prod.snd e))), AV.int IntKind.i64 (Prod.fst (Prod.snd (Prod.snd (Prod.snd e)))),
                                              AV.sl 1 (Seq.map encB (0 : UInt8) (Prod.snd (Prod.snd (Prod.snd (Prod.snd e))))) Tip.none],
                                          AObj.cells [],
                                          AObj.cells
                                            [AV.int IntKind.i64 (Prod.fst (Prod.fst x)), AV.sl 2 (Seq.map T.encN ([], []) (Prod.fst (Prod.snd (Prod.fst x)))) Tip.none,
                                              AV.int IntKind.i64 (Prod.fst (Prod.snd (Prod.snd (Prod.fst x)))), AV.int IntKind.i64 (Prod.fst (Prod.snd (Prod.snd (Prod.snd (Prod.fst x))))),
                                              AV.sl 1 (Seq.map encB (0 : UInt8) (Prod.snd (Prod.snd (Prod.snd (Prod.snd (Prod.fst x)))))) Tip.none]])
                              (Post (AV.bool false)
                                [AObj.cells
                                    [AV.int IntKind.i64 (Prod.fst e), AV.sl 2 (Seq.map T.encN ([], []) (Prod.fst (Prod.snd e))) Tip.none, AV.int IntKind.i64 (Prod.fst (Prod.snd (Prod.snd e))),
                                      AV.int IntKind.i64 (Prod.fst (Prod.snd (Prod.snd (Prod.snd e)))),
                                      AV.sl 1 (Seq.map encB (0 : UInt8) (Prod.snd (Prod.snd (Prod.snd (Prod.snd e))))) Tip.none],
                                  AObj.cells [],
                                  AObj.cells
                                    [AV.int IntKind.i64 (Prod.fst (Prod.fst x)), AV.sl 2 (Seq.map T.encN ([], []) (Prod.fst (Prod.snd (Prod.fst x)))) Tip.none,
                                      AV.int IntKind.i64 (Prod.fst (Prod.snd (Prod.snd (Prod.fst x)))), AV.int IntKind.i64 (Prod.fst (Prod.snd (Prod.snd (Prod.snd (Prod.fst x))))),
                                      AV.sl 1 (Seq.map encB (0 : UInt8) (Prod.snd (Prod.snd (Prod.snd (Prod.snd (Prod.fst x)))))) Tip.none]])) ∨
              ∃ (x : Unit),
                r = AV.nili ∧
                  H' =
                      [AObj.cells
                          [AV.int IntKind.i64 (Prod.fst e), AV.sl 2 (Seq.map T.encN ([], []) (Prod.fst (Prod.snd e))) Tip.none, AV.int IntKind.i64 (Prod.fst (Prod.snd (Prod.snd e))),
                            AV.int IntKind.i64 (Prod.fst (Prod.snd (Prod.snd (Prod.snd e)))), AV.sl 1 (Seq.map encB (0 : UInt8) (Prod.snd (Prod.snd (Prod.snd (Prod.snd e))))) Tip.none]] ∧
                    ASpec Try.prog 113 [AV.nili]
                      [AObj.cells
                          [AV.int IntKind.i64 (Prod.fst e), AV.sl 2 (Seq.map T.encN ([], []) (Prod.fst (Prod.snd e))) Tip.none, AV.int IntKind.i64 (Prod.fst (Prod.snd (Prod.snd e))),
                            AV.int IntKind.i64 (Prod.fst (Prod.snd (Prod.snd (Prod.snd e)))), AV.sl 1 (Seq.map encB (0 : UInt8) (Prod.snd (Prod.snd (Prod.snd (Prod.snd e))))) Tip.none],
                        AObj.cells []]
                      fun (r : AV) (H' : List AObj) =>
                      ∃ (x : T.Ev × Bool),
                        r =
                            AV.tup
                              [AV.agg
                                  [AV.int IntKind.i64 (Prod.fst (Prod.fst x)), AV.sl 2 (Seq.map T.encN ([], []) (Prod.fst (Prod.snd (Prod.fst x)))) Tip.none,
                                    AV.int IntKind.i64 (Prod.fst (Prod.snd (Prod.snd (Prod.fst x)))), AV.int IntKind.i64 (Prod.fst (Prod.snd (Prod.snd (Prod.snd (Prod.fst x))))),
                                    AV.sl 1 (Seq.map encB (0 : UInt8) (Prod.snd (Prod.snd (Prod.snd (Prod.snd (Prod.fst x)))))) Tip.none],
                                AV.bool (Prod.snd x)] ∧
                          H' =
                              [AObj.cells
                                  [AV.int IntKind.i64 (Prod.fst e), AV.sl 2 (Seq.map T.encN ([], []) (Prod.fst (Prod.snd e))) Tip.none, AV.int IntKind.i64 (Prod.fst (Prod.snd (Prod.snd e))),
                                    AV.int IntKind.i64 (Prod.fst (Prod.snd (Prod.snd (Prod.snd e)))),
                                    AV.sl 1 (Seq.map encB (0 : UInt8) (Prod.snd (Prod.snd (Prod.snd (Prod.snd e))))) Tip.none],
                                AObj.cells []] ∧
                            condP (Prod.snd x)
                              (ASpec Try.prog 50
                                [AV.agg
                                    [AV.int IntKind.i64 (Prod.fst (Prod.fst x)), AV.sl 2 (Seq.map T.encN ([], []) (Prod.fst (Prod.snd (Prod.fst x)))) Tip.none,
                                      AV.int IntKind.i64 (Prod.fst (Prod.snd (Prod.snd (Prod.fst x)))), AV.int IntKind.i64 (Prod.fst (Prod.snd (Prod.snd (Prod.snd (Prod.fst x))))),
                                      AV.sl 1 (Seq.map encB (0 : UInt8) (Prod.snd (Prod.snd (Prod.snd (Prod.snd (Prod.fst x)))))) Tip.none],
                                  AV.agg
                                    [AV.int IntKind.i64 (Prod.fst e), AV.sl 2 (Seq.map T.encN ([], []) (Prod.fst (Prod.snd e))) Tip.none, AV.int IntKind.i64 (Prod.fst (Prod.snd (Prod.snd e))),
                                      AV.int IntKind.i64 (Prod.fst (Prod.snd (Prod.snd (Prod.snd e)))),
                                      AV.sl 1 (Seq.map encB (0 : UInt8) (Prod.snd (Prod.snd (Prod.snd (Prod.snd e))))) Tip.none]]
                                [AObj.cells
                                    [AV.int IntKind.i64 (Prod.fst e), AV.sl 2 (Seq.map T.encN ([], []) (Prod.fst (Prod.snd e))) Tip.none, AV.int IntKind.i64 (Prod.fst (Prod.snd (Prod.snd e))),
                                      AV.int IntKind.i64 (Prod.fst (Prod.snd (Prod.snd (Prod.snd e)))),
                                      AV.sl 1 (Seq.map encB (0 : UInt8) (Prod.snd (Prod.snd (Prod.snd (Prod.snd e))))) Tip.none],
                                  AObj.cells [],
                                  AObj.cells
                                    [AV.int IntKind.i64 (Prod.fst (Prod.fst x)), AV.sl 2 (Seq.map T.encN ([], []) (Prod.fst (Prod.snd (Prod.fst x)))) Tip.none,
                                      AV.int IntKind.i64 (Prod.fst (Prod.snd (Prod.snd (Prod.fst x)))), AV.int IntKind.i64 (Prod.fst (Prod.snd (Prod.snd (Prod.snd (Prod.fst x))))),
                                      AV.sl 1 (Seq.map encB (0 : UInt8) (Prod.snd (Prod.snd (Prod.snd (Prod.snd (Prod.fst x)))))) Tip.none]]
                                fun (r : AV) (H' : List AObj) =>
                                ∃ (x_1 : Bool),
                                  r = AV.bool x_1 ∧
                                    H' =
                                        [AObj.cells
                                            [AV.int IntKind.i64 (Prod.fst e), AV.sl 2 (Seq.map T.encN ([], []) (Prod.fst (Prod.snd e))) Tip.none,
                                              AV.int IntKind.i64 (Prod.fst (Prod.snd (Prod.snd e))), AV.int IntKind.i64 (Prod.fst (Prod.snd (Prod.snd (Prod.snd e)))),
                                              AV.sl 1 (Seq.map encB (0 : UInt8) (Prod.snd (Prod.snd (Prod.snd (Prod.snd e))))) Tip.none],
                                          AObj.cells [],
                                          AObj.cells
                                            [AV.int IntKind.i64 (Prod.fst (Prod.fst x)), AV.sl 2 (Seq.map T.encN ([], []) (Prod.fst (Prod.snd (Prod.fst x)))) Tip.none,
                                              AV.int IntKind.i64 (Prod.fst (Prod.snd (Prod.snd (Prod.fst x)))), AV.int IntKind.i64 (Prod.fst (Prod.snd (Prod.snd (Prod.snd (Prod.fst x))))),
                                              AV.sl 1 (Seq.map encB (0 : UInt8) (Prod.snd (Prod.snd (Prod.snd (Prod.snd (Prod.fst x)))))) Tip.none]] ∧
                                      Post (AV.bool x_1)
                                        [AObj.cells
                                            [AV.int IntKind.i64 (Prod.fst e), AV.sl 2 (Seq.map T.encN ([], []) (Prod.fst (Prod.snd e))) Tip.none,
                                              AV.int IntKind.i64 (Prod.fst (Prod.snd (Prod.snd e))), AV.int IntKind.i64 (Prod.fst (Prod.snd (Prod.snd (Prod.snd e)))),
                                              AV.sl 1 (Seq.map encB (0 : UInt8) (Prod.snd (Prod.snd (Prod.snd (Prod.snd e))))) Tip.none],
                                          AObj.cells [],
                                          AObj.cells
                                            [AV.int IntKind.i64 (Prod.fst (Prod.fst x)), AV.sl 2 (Seq.map T.encN ([], []) (Prod.fst (Prod.snd (Prod.fst x)))) Tip.none,
                                              AV.int IntKind.i64 (Prod.fst (Prod.snd (Prod.snd (Prod.fst x)))), AV.int IntKind.i64 (Prod.fst (Prod.snd (Prod.snd (Prod.snd (Prod.fst x))))),
                                              AV.sl 1 (Seq.map encB (0 : UInt8) (Prod.snd (Prod.snd (Prod.snd (Prod.snd (Prod.fst x)))))) Tip.none]])
                              (Post (AV.bool false)
                                [AObj.cells
                                    [AV.int IntKind.i64 (Prod.fst e), AV.sl 2 (Seq.map T.encN ([], []) (Prod.fst (Prod.snd e))) Tip.none, AV.int IntKind.i64 (Prod.fst (Prod.snd (Prod.snd e))),
                                      AV.int IntKind.i64 (Prod.fst (Prod.snd (Prod.snd (Prod.snd e)))),
                                      AV.sl 1 (Seq.map encB (0 : UInt8) (Prod.snd (Prod.snd (Prod.snd (Prod.snd e))))) Tip.none],
                                  AObj.cells [],
                                  AObj.cells
                                    [AV.int IntKind.i64 (Prod.fst (Prod.fst x)), AV.sl 2 (Seq.map T.encN ([], []) (Prod.fst (Prod.snd (Prod.fst x)))) Tip.none,
                                      AV.int IntKind.i64 (Prod.fst (Prod.snd (Prod.snd (Prod.fst x)))), AV.int IntKind.i64 (Prod.fst (Prod.snd (Prod.snd (Prod.snd (Prod.fst x))))),
                                      AV.sl 1 (Seq.map encB (0 : UInt8) (Prod.snd (Prod.snd (Prod.snd (Prod.snd (Prod.fst x)))))) Tip.none]])) →
    ASpec Try.prog 48 [AV.agg (T.encE e)] [] Post := fun e Post h => Go.Ab.ASpec.of_vc g48 Go.Proofs.Try.func48 (by kernel_rfl) (by kernel_rfl) (by kernel_rfl) (Go.Ab.kc (by kernel_rfl) h)

-- 49
noncomputable def l49 : Nat → List Nat
  | _ => []
noncomputable def u49 : Nat → Bool
  | _ => false
noncomputable def m49 : Nat → Bool
  | _ => false
noncomputable def g49 : Cfg := { N := 86, live := l49, cut := u49, mu := m49, ret := rets }
noncomputable def c49 : Go.Code := Go.Ab.bodyOf Go.Proofs.Try.f49
theorem s49 : ∀ (e : T.Ev) (Post : AV → List AObj → Prop),
  (ASpec Try.prog 110 [AV.sl 2 (Seq.map T.encN ([], []) (Prod.fst (Prod.snd e))) Tip.none]
      [AObj.cells
          [AV.int IntKind.i64 (Prod.fst e), AV.sl 2 (Seq.map T.encN ([], []) (Prod.fst (Prod.snd e))) Tip.none, AV.int IntKind.i64 (Prod.fst (Prod.snd (Prod.snd e))),
            AV.int IntKind.i64 (Prod.fst (Prod.snd (Prod.snd (Prod.snd e)))), AV.sl 1 (Seq.map encB (0 : UInt8) (Prod.snd (Prod.snd (Prod.snd (Prod.snd e))))) Tip.none]]
      fun (r : AV) (H' : List AObj) =>
      ∃ (x : Bool),
        r = AV.bool x ∧
          H' =
              [AObj.cells
                  [AV.int IntKind.i64 (Prod.fst e), AV.sl 2 (Seq.map T.encN ([], []) (Prod.fst (Prod.snd e))) Tip.none, AV.int IntKind.i64 (Prod.fst (Prod.snd (Prod.snd e))),
                    AV.int IntKind.i64 (Prod.fst (Prod.snd (Prod.snd (Prod.snd e)))), AV.sl 1 (Seq.map encB (0 : UInt8) (Prod.snd (Prod.snd (Prod.snd (Prod.snd e))))) Tip.none]] ∧
            condP (!x)
              (Post (AV.bool false)
                [AObj.cells
                    [AV.int IntKind.i64 (Prod.fst e), AV.sl 2 (Seq.map T.encN ([], []) (Prod.fst (Prod.snd e))) Tip.none, AV.int IntKind.i64 (Prod.fst (Prod.snd (Prod.snd e))),
                      AV.int IntKind.i64 (Prod.fst (Prod.snd (Prod.snd (Prod.snd e)))), AV.sl 1 (Seq.map encB (0 : UInt8) (Prod.snd (Prod.snd (Prod.snd (Prod.snd e))))) Tip.none]])
              (condP (decide (Prod.fst (Prod.snd (Prod.snd e)) < (0 : Int)))
                (Post (AV.bool false)
                  [AObj.cells
                      [AV.int IntKind.i64 (Prod.fst e), AV.sl 2 (Seq.map T.encN ([], []) (Prod.fst (Prod.snd e))) Tip.none, AV.int IntKind.i64 (Prod.fst (Prod.snd (Prod.snd e))),
                        AV.int IntKind.i64 (Prod.fst (Prod.snd (Prod.snd (Prod.snd e)))), AV.sl 1 (Seq.map encB (0 : UInt8) (Prod.snd (Prod.snd (Prod.snd (Prod.snd e))))) Tip.none]])
                (condP (decide (Prod.fst (Prod.snd (Prod.snd e)) > (1099511627776 : Int)))
                  (Post (AV.bool false)
                    [AObj.cells
                        [AV.int IntKind.i64 (Prod.fst e), AV.sl 2 (Seq.map T.encN ([], []) (Prod.fst (Prod.snd e))) Tip.none, AV.int IntKind.i64 (Prod.fst (Prod.snd (Prod.snd e))),
                          AV.int IntKind.i64 (Prod.fst (Prod.snd (Prod.snd (Prod.snd e)))), AV.sl 1 (Seq.map encB (0 : UInt8) (Prod.snd (Prod.snd (Prod.snd (Prod.snd e))))) Tip.none]])
                  (condP (!Prod.fst e == (1 : Int))
                    (condP (decide ((↑(List.length (Prod.fst (Prod.snd e))) : Int) > (0 : Int)))
                      (Post (AV.bool false)
                        [AObj.cells
                            [AV.int IntKind.i64 (Prod.fst e), AV.sl 2 (Seq.map T.encN ([], []) (Prod.fst (Prod.snd e))) Tip.none, AV.int IntKind.i64 (Prod.fst (Prod.snd (Prod.snd e))),
                              AV.int IntKind.i64 (Prod.fst (Prod.snd (Prod.snd (Prod.snd e)))), AV.sl 1 (Seq.map encB (0 : UInt8) (Prod.snd (Prod.snd (Prod.snd (Prod.snd e))))) Tip.none]])
                      (condP (Prod.fst (Prod.snd (Prod.snd e)) != (0 : Int))
                        (Post (AV.bool false)
                          [AObj.cells
                              [AV.int IntKind.i64 (Prod.fst e), AV.sl 2 (Seq.map T.encN ([], []) (Prod.fst (Prod.snd e))) Tip.none, AV.int IntKind.i64 (Prod.fst (Prod.snd (Prod.snd e))),
                                AV.int IntKind.i64 (Prod.fst (Prod.snd (Prod.snd (Prod.snd e)))), AV.sl 1 (Seq.map encB (0 : UInt8) (Prod.snd (Prod.snd (Prod.snd (Prod.snd e))))) Tip.none]])
                        (condP (Prod.fst e == (3 : Int))
                          (condP (decide (Prod.fst (Prod.snd (Prod.snd (Prod.snd e))) ≥ (1 : Int)))
                            (condP (decide (Prod.fst (Prod.snd (Prod.snd (Prod.snd e))) ≤ (1099511627776 : Int)))
                              (condP (decide ((↑(List.length (Prod.snd (Prod.snd (Prod.snd (Prod.snd e))))) : Int) ≤ (9000 : Int)))
                                (condP (Prod.fst e == (3 : Int))
                                  (Post (AV.bool true)
                                    [AObj.cells
                                        [AV.int IntKind.i64 (Prod.fst e), AV.sl 2 (Seq.map T.encN ([], []) (Prod.fst (Prod.snd e))) Tip.none,
                                          AV.int IntKind.i64 (Prod.fst (Prod.snd (Prod.snd e))), AV.int IntKind.i64 (Prod.fst (Prod.snd (Prod.snd (Prod.snd e)))),
                                          AV.sl 1 (Seq.map encB (0 : UInt8) (Prod.snd (Prod.snd (Prod.snd (Prod.snd e))))) Tip.none]])
                                  (Post (AV.bool ((↑(List.length (Prod.snd (Prod.snd (Prod.snd (Prod.snd e))))) : Int) == (0 : Int)))
                                    [AObj.cells
                                        [AV.int IntKind.i64 (Prod.fst e), AV.sl 2 (Seq.map T.encN ([], []) (Prod.fst (Prod.snd e))) Tip.none,
                                          AV.int IntKind.i64 (Prod.fst (Prod.snd (Prod.snd e))), AV.int IntKind.i64 (Prod.fst (Prod.snd (Prod.snd (Prod.snd e)))),
                                          AV.sl 1 (Seq.map encB (0 : UInt8) (Prod.snd (Prod.snd (Prod.snd (Prod.snd e))))) Tip.none]]))
                                (Post (AV.bool false)
                                  [AObj.cells
                                      [AV.int IntKind.i64 (Prod.fst e), AV.sl 2 (Seq.map T.encN ([], []) (Prod.fst (Prod.snd e))) Tip.none,
                                        AV.int IntKind.i64 (Prod.fst (Prod.snd (Prod.snd e))), AV.int IntKind.i64 (Prod.fst (Prod.snd (Prod.snd (Prod.snd e)))),
                                        AV.sl 1 (Seq.map encB (0 : UInt8) (Prod.snd (Prod.snd (Prod.snd (Prod.snd e))))) Tip.none]]))
                              (Post (AV.bool false)
                                [AObj.cells
                                    [AV.int IntKind.i64 (Prod.fst e), AV.sl 2 (Seq.map T.encN ([], []) (Prod.fst (Prod.snd e))) Tip.none, AV.int IntKind.i64 (Prod.fst (Prod.snd (Prod.snd e))),
                                      AV.int IntKind.i64 (Prod.fst (Prod.snd (Prod.snd (Prod.snd e)))),
                                      AV.sl 1 (Seq.map encB (0 : UInt8) (Prod.snd (Prod.snd (Prod.snd (Prod.snd e))))) Tip.none]]))
                            (Post (AV.bool false)
                              [AObj.cells
                                  [AV.int IntKind.i64 (Prod.fst e), AV.sl 2 (Seq.map T.encN ([], []) (Prod.fst (Prod.snd e))) Tip.none, AV.int IntKind.i64 (Prod.fst (Prod.snd (Prod.snd e))),
                                    AV.int IntKind.i64 (Prod.fst (Prod.snd (Prod.snd (Prod.snd e)))),
                                    AV.sl 1 (Seq.map encB (0 : UInt8) (Prod.snd (Prod.snd (Prod.snd (Prod.snd e))))) Tip.none]]))
                          (condP (Prod.fst e == (4 : Int))
                            (condP (decide (Prod.fst (Prod.snd (Prod.snd (Prod.snd e))) ≥ (1 : Int)))
                              (condP (decide (Prod.fst (Prod.snd (Prod.snd (Prod.snd e))) ≤ (1099511627776 : Int)))
                                (condP (decide ((↑(List.length (Prod.snd (Prod.snd (Prod.snd (Prod.snd e))))) : Int) ≤ (9000 : Int)))
                                  (condP (Prod.fst e == (3 : Int))
                                    (Post (AV.bool true)
                                      [AObj.cells
                                          [AV.int IntKind.i64 (Prod.fst e), AV.sl 2 (Seq.map T.encN ([], []) (Prod.fst (Prod.snd e))) Tip.none,
                                            AV.int IntKind.i64 (Prod.fst (Prod.snd (Prod.snd e))), AV.int IntKind.i64 (Prod.fst (Prod.snd (Prod.snd (Prod.snd e)))),
                                            AV.sl 1 (Seq.map encB (0 : UInt8) (Prod.snd (Prod.snd (Prod.snd (Prod.snd e))))) Tip.none]])
                                    (Post (AV.bool ((↑(List.length (Prod.snd (Prod.snd (Prod.snd (Prod.snd e))))) : Int) == (0 : Int)))
                                      [AObj.cells
                                          [AV.int IntKind.i64 (Prod.fst e), AV.sl 2 (Seq.map T.encN ([], []) (Prod.fst (Prod.snd e))) Tip.none,
                                            AV.int IntKind.i64 (Prod.fst (Prod.snd (Prod.snd e))), AV.int IntKind.i64 (Prod.fst (Prod.snd (Prod.snd (Prod.snd e)))),
                                            AV.sl 1 (Seq.map encB (0 : UInt8) (Prod.snd (Prod.snd (Prod.snd (Prod.snd e))))) Tip.none]]))
                                  (Post (AV.bool false)
                                    [AObj.cells
                                        [AV.int IntKind.i64 (Prod.fst e), AV.sl 2 (Seq.map T.encN ([], []) (Prod.fst (Prod.snd e))) Tip.none,
                                          AV.int IntKind.i64 (Prod.fst (Prod.snd (Prod.snd e))), AV.int IntKind.i64 (Prod.fst (Prod.snd (Prod.snd (Prod.snd e)))),
                                          AV.sl 1 (Seq.map encB (0 : UInt8) (Prod.snd (Prod.snd (Prod.snd (Prod.snd e))))) Tip.none]]))
                                (Post (AV.bool false)
                                  [AObj.cells
                                      [AV.int IntKind.i64 (Prod.fst e), AV.sl 2 (Seq.map T.encN ([], []) (Prod.fst (Prod.snd e))) Tip.none,
                                        AV.int IntKind.i64 (Prod.fst (Prod.snd (Prod.snd e))), AV.int IntKind.i64 (Prod.fst (Prod.snd (Prod.snd (Prod.snd e)))),
                                        AV.sl 1 (Seq.map encB (0 : UInt8) (Prod.snd (Prod.snd (Prod.snd (Prod.snd e))))) Tip.none]]))
                              (Post (AV.bool false)
                                [AObj.cells
                                    [AV.int IntKind.i64 (Prod.fst e), AV.sl 2 (Seq.map T.encN ([], []) (Prod.fst (Prod.snd e))) Tip.none, AV.int IntKind.i64 (Prod.fst (Prod.snd (Prod.snd e))),
                                      AV.int IntKind.i64 (Prod.fst (Prod.snd (Prod.snd (Prod.snd e)))),
                                      AV.sl 1 (Seq.map encB (0 : UInt8) (Prod.snd (Prod.snd (Prod.snd (Prod.snd e))))) Tip.none]]))
                            (condP (Prod.fst (Prod.snd (Prod.snd (Prod.snd e))) == (0 : Int))
                              (condP ((↑(List.length (Prod.snd (Prod.snd (Prod.snd (Prod.snd e))))) : Int) == (0 : Int))
                                (condP (Prod.fst e == (1 : Int))
                                  (Post (AV.bool true)
                                    [AObj.cells
                                        [AV.int IntKind.i64 (Prod.fst e), AV.sl 2 (Seq.map T.encN ([], []) (Prod.fst (Prod.snd e))) Tip.none,
                                          AV.int IntKind.i64 (Prod.fst (Prod.snd (Prod.snd e))), AV.int IntKind.i64 (Prod.fst (Prod.snd (Prod.snd (Prod.snd e)))),
                                          AV.sl 1 (Seq.map encB (0 : UInt8) (Prod.snd (Prod.snd (Prod.snd (Prod.snd e))))) Tip.none]])
                                  (Post (AV.bool (Prod.fst e == (2 : Int)))
                                    [AObj.cells
                                        [AV.int IntKind.i64 (Prod.fst e), AV.sl 2 (Seq.map T.encN ([], []) (Prod.fst (Prod.snd e))) Tip.none,
                                          AV.int IntKind.i64 (Prod.fst (Prod.snd (Prod.snd e))), AV.int IntKind.i64 (Prod.fst (Prod.snd (Prod.snd (Prod.snd e)))),
                                          AV.sl 1 (Seq.map encB (0 : UInt8) (Prod.snd (Prod.snd (Prod.snd (Prod.snd e))))) Tip.none]]))
                                (Post (AV.bool false)
                                  [AObj.cells
                                      [AV.int IntKind.i64 (Prod.fst e), AV.sl 2 (Seq.map T.encN ([], []) (Prod.fst (Prod.snd e))) Tip.none,
                                        AV.int IntKind.i64 (Prod.fst (Prod.snd (Prod.snd e))), AV.int IntKind.i64 (Prod.fst (Prod.snd (Prod.snd (Prod.snd e)))),
                                        AV.sl 1 (Seq.map encB (0 : UInt8) (Prod.snd (Prod.snd (Prod.snd (Prod.snd e))))) Tip.none]]))
                              (Post (AV.bool false)
                                [AObj.cells
                                    [AV.int IntKind.i64 (Prod.fst e), AV.sl 2 (Seq.map T.encN ([], []) (Prod.fst (Prod.snd e))) Tip.none, AV.int IntKind.i64 (Prod.fst (Prod.snd (Prod.snd e))),
                                      AV.int IntKind.i64 (Prod.fst (Prod.snd (Prod.snd (Prod.snd e)))),
                                      AV.sl 1 (Seq.map encB (0 : UInt8) (Prod.snd (Prod.snd (Prod.snd (Prod.snd e))))) Tip.none]]))))))
                    (condP (Prod.fst e == (3 : Int))
                      (condP (decide (Prod.fst (Prod.snd (Prod.snd (Prod.snd e))) ≥ (1 : Int)))
                        (condP (decide (Prod.fst (Prod.snd (Prod.snd (Prod.snd e))) ≤ (1099511627776 : Int)))
                          (condP (decide ((↑(List.length (Prod.snd (Prod.snd (Prod.snd (Prod.snd e))))) : Int) ≤ (9000 : Int)))
                            (condP (Prod.fst e == (3 : Int))
                              (Post (AV.bool true)
                                [AObj.cells
                                    [AV.int IntKind.i64 (Prod.fst e), AV.sl 2 (Seq.map T.encN ([], []) (Prod.fst (Prod.snd e))) Tip.none, AV.int IntKind.i64 (Prod.fst (Prod.snd (Prod.snd e))),
                                      AV.int IntKind.i64 (Prod.fst (Prod.snd (Prod.snd (Prod.snd e)))),
                                      AV.sl 1 (Seq.map encB (0 : UInt8) (Prod.snd (Prod.snd (Prod.snd (Prod.snd e))))) Tip.none]])
                              (Post (AV.bool ((↑(List.length (Prod.snd (Prod.snd (Prod.snd (Prod.snd e))))) : Int) == (0 : Int)))
                                [AObj.cells
                                    [AV.int IntKind.i64 (Prod.fst e), AV.sl 2 (Seq.map T.encN ([], []) (Prod.fst (Prod.snd e))) Tip.none, AV.int IntKind.i64 (Prod.fst (Prod.snd (Prod.snd e))),
                                      AV.int IntKind.i64 (Prod.fst (Prod.snd (Prod.snd (Prod.snd e)))),
                                      AV.sl 1 (Seq.map encB (0 : UInt8) (Prod.snd (Prod.snd (Prod.snd (Prod.snd e))))) Tip.none]]))
                            (Post (AV.bool false)
                              [AObj.cells
                                  [AV.int IntKind.i64 (Prod.fst e), AV.sl 2 (Seq.map T.encN ([], []) (Prod.fst (Prod.snd e))) Tip.none, AV.int IntKind.i64 (Prod.fst (Prod.snd (Prod.snd e))),
                                    AV.int IntKind.i64 (Prod.fst (Prod.snd (Prod.snd (Prod.snd e)))),
                                    AV.sl 1 (Seq.map encB (0 : UInt8) (Prod.snd (Prod.snd (Prod.snd (Prod.snd e))))) Tip.none]]))
                          (Post (AV.bool false)
                            [AObj.cells
                                [AV.int IntKind.i64 (Prod.fst e), AV.sl 2 (Seq.map T.encN ([], []) (Prod.fst (Prod.snd e))) Tip.none, AV.int IntKind.i64 (Prod.fst (Prod.snd (Prod.snd e))),
                                  AV.int IntKind.i64 (Prod.fst (Prod.snd (Prod.snd (Prod.snd e)))),
                                  AV.sl 1 (Seq.map encB (0 : UInt8) (Prod.snd (Prod.snd (Prod.snd (Prod.snd e))))) Tip.none]]))
                        (Post (AV.bool false)
                          [AObj.cells
                              [AV.int IntKind.i64 (Prod.fst e), AV.sl 2 (Seq.map T.encN ([], []) (Prod.fst (Prod.snd e))) Tip.none, AV.int IntKind.i64 (Prod.fst (Prod.snd (Prod.snd e))),
                                AV.int IntKind.i64 (Prod.fst (Prod.snd (Prod.snd (Prod.snd e)))), AV.sl 1 (Seq.map encB (0 : UInt8) (Prod.snd (Prod.snd (Prod.snd (Prod.snd e))))) Tip.none]]))
                      (condP (Prod.fst e == (4 : Int))
                        (condP (decide (Prod.fst (Prod.snd (Prod.snd (Prod.snd e))) ≥ (1 : Int)))
                          (condP (decide (Prod.fst (Prod.snd (Prod.snd (Prod.snd e))) ≤ (1099511627776 : Int)))
                            (condP (decide ((↑(List.length (Prod.snd (Prod.snd (Prod.snd (Prod.snd e))))) : Int) ≤ (9000 : Int)))
                              (condP (Prod.fst e == (3 : Int))
                                (Post (AV.bool true)
                                  [AObj.cells
                                      [AV.int IntKind.i64 (Prod.fst e), AV.sl 2 (Seq.map T.encN ([], []) (Prod.fst (Prod.snd e))) Tip.none,
                                        AV.int IntKind.i64 (Prod.fst (Prod.snd (Prod.snd e))), AV.int IntKind.i64 (Prod.fst (Prod.snd (Prod.snd (Prod.snd e)))),
                                        AV.sl 1 (Seq.map encB (0 : UInt8) (Prod.snd (Prod.snd (Prod.snd (Prod.snd e))))) Tip.none]])
                                (Post (AV.bool ((↑(List.length (Prod.snd (Prod.snd (Prod.snd (Prod.snd e))))) : Int) == (0 : Int)))
                                  [AObj.cells
                                      [AV.int IntKind.i64 (Prod.fst e), AV.sl 2 (Seq.map T.encN ([], []) (Prod.fst (Prod.snd e))) Tip.none,
                                        AV.int IntKind.i64 (Prod.fst (Prod.snd (Prod.snd e))), AV.int IntKind.i64 (Prod.fst (Prod.snd (Prod.snd (Prod.snd e)))),
                                        AV.sl 1 (Seq.map encB (0 : UInt8) (Prod.snd (Prod.snd (Prod.snd (Prod.snd e))))) Tip.none]]))
                              (Post (AV.bool false)
                                [AObj.cells
                                    [AV.int IntKind.i64 (Prod.fst e), AV.sl 2 (Seq.map T.encN ([], []) (Prod.fst (Prod.snd e))) Tip.none, AV.int IntKind.i64 (Prod.fst (Prod.snd (Prod.snd e))),
                                      AV.int IntKind.i64 (Prod.fst (Prod.snd (Prod.snd (Prod.snd e)))),
                                      AV.sl 1 (Seq.map encB (0 : UInt8) (Prod.snd (Prod.snd (Prod.snd (Prod.snd e))))) Tip.none]]))
                            (Post (AV.bool false)
                              [AObj.cells
                                  [AV.int IntKind.i64 (Prod.fst e), AV.sl 2 (Seq.map T.encN ([], []) (Prod.fst (Prod.snd e))) Tip.none, AV.int IntKind.i64 (Prod.fst (Prod.snd (Prod.snd e))),
                                    AV.int IntKind.i64 (Prod.fst (Prod.snd (Prod.snd (Prod.snd e)))),
                                    AV.sl 1 (Seq.map encB (0 : UInt8) (Prod.snd (Prod.snd (Prod.snd (Prod.snd e))))) Tip.none]]))
                          (Post (AV.bool false)
                            [AObj.cells
                                [AV.int IntKind.i64 (Prod.fst e), AV.sl 2 (Seq.map T.encN ([], []) (Prod.fst (Prod.snd e))) Tip.none, AV.int IntKind.i64 (Prod.fst (Prod.snd (Prod.snd e))),
                                  AV.int IntKind.i64 (Prod.fst (Prod.snd (Prod.snd (Prod.snd e)))),
                                  AV.sl 1 (Seq.map encB (0 : UInt8) (Prod.snd (Prod.snd (Prod.snd (Prod.snd e))))) Tip.none]]))
                        (condP (Prod.fst (Prod.snd (Prod.snd (Prod.snd e))) == (0 : Int))
                          (condP ((↑(List.length (Prod.snd (Prod.snd (Prod.snd (Prod.snd e))))) : Int) == (0 : Int))
                            (condP (Prod.fst e == (1 : Int))
                              (Post (AV.bool true)
                                [AObj.cells
                                    [AV.int IntKind.i64 (Prod.fst e), AV.sl 2 (Seq.map T.encN ([], []) (Prod.fst (Prod.snd e))) Tip.none, AV.int IntKind.i64 (Prod.fst (Prod.snd (Prod.snd e))),
                                      AV.int IntKind.i64 (Prod.fst (Prod.snd (Prod.snd (Prod.snd e)))),
                                      AV.sl 1 (Seq.map encB (0 : UInt8) (Prod.snd (Prod.snd (Prod.snd (Prod.snd e))))) Tip.none]])
                              (Post (AV.bool (Prod.fst e == (2 : Int)))
                                [AObj.cells
                                    [AV.int IntKind.i64 (Prod.fst e), AV.sl 2 (Seq.map T.encN ([], []) (Prod.fst (Prod.snd e))) Tip.none, AV.int IntKind.i64 (Prod.fst (Prod.snd (Prod.snd e))),
                                      AV.int IntKind.i64 (Prod.fst (Prod.snd (Prod.snd (Prod.snd e)))),
                                      AV.sl 1 (Seq.map encB (0 : UInt8) (Prod.snd (Prod.snd (Prod.snd (Prod.snd e))))) Tip.none]]))
                            (Post (AV.bool false)
                              [AObj.cells
                                  [AV.int IntKind.i64 (Prod.fst e), AV.sl 2 (Seq.map T.encN ([], []) (Prod.fst (Prod.snd e))) Tip.none, AV.int IntKind.i64 (Prod.fst (Prod.snd (Prod.snd e))),
                                    AV.int IntKind.i64 (Prod.fst (Prod.snd (Prod.snd (Prod.snd e)))),
                                    AV.sl 1 (Seq.map encB (0 : UInt8) (Prod.snd (Prod.snd (Prod.snd (Prod.snd e))))) Tip.none]]))
                          (Post (AV.bool false)
                            [AObj.cells
                                [AV.int IntKind.i64 (Prod.fst e), AV.sl 2 (Seq.map T.encN ([], []) (Prod.fst (Prod.snd e))) Tip.none, AV.int IntKind.i64 (Prod.fst (Prod.snd (Prod.snd e))),
                                  AV.int IntKind.i64 (Prod.fst (Prod.snd (Prod.snd (Prod.snd e)))),
                                  AV.sl 1 (Seq.map encB (0 : UInt8) (Prod.snd (Prod.snd (Prod.snd (Prod.snd e))))) Tip.none]])))))))) →
    ASpec Try.prog 49 [AV.agg (T.encE e)] [] Post := fun e Post h => Go.Ab.ASpec.of_vc g49 Go.Proofs.Try.func49 (by kernel_rfl) (by kernel_rfl) (by kernel_rfl) (Go.Ab.kc (by kernel_rfl) h)

-- 46
noncomputable def l46 : Nat → List Nat
  | 5 => [0, 3, 4]
  | _ => []
noncomputable def u46 : Nat → Bool
  | _ => false
noncomputable def m46 : Nat → Bool
  | _ => false
noncomputable def g46 : Cfg := { N := 36, live := l46, cut := u46, mu := m46, ret := rets }
noncomputable def c46 : Go.Code := Go.Ab.bodyOf Go.Proofs.Try.f46
noncomputable def q46_0 : Nat → (AV → List AObj → Prop) → AQ := fun (n : Nat) (Post : AV → List AObj → Prop) => endQ Try.prog (resultsOf Try.f46) Post
noncomputable def q46_1 : Nat → (AV → List AObj → Prop) → AQ := fun (n : Nat) (Post : AV → List AObj → Prop) => seqQ (fun (s' : Slots) (H' : List AObj) => awp Try.prog g46 n (codeSnd (codeSnd (codeSnd (codeSnd c46)))) s' H' (q46_0 n Post)) (q46_0 n Post)
noncomputable def q46_2 : Nat → (AV → List AObj → Prop) → AQ := fun (n : Nat) (Post : AV → List AObj → Prop) => blockQ 0 (q46_1 n Post)
noncomputable def c46_5 : Go.Code := codeFst (codeSnd (codeFst (codeSnd (codeSnd (codeSnd c46)))))
theorem s46 : ∀ (l : List T.Ev) (Post : AV → List AObj → Prop),
  condP (decide ((↑(List.length l) : Int) > (403 : Int))) (Post (AV.bool true) [])
      (AWP Try.prog 36 0 c46_5 [(0, AV.sl 5 (Seq.map T.encE T.noEv l) Tip.none), (3, AV.int IntKind.i64 (0 : Int)), (4, AV.int IntKind.i64 (0 : Int))]
        [] (q46_2 0 Post)) →
    ASpec Try.prog 46 [AV.sl 5 (Seq.map T.encE T.noEv l) Tip.none] [] Post := fun l Post h => Go.Ab.ASpec.of_vc g46 Go.Proofs.Try.func46 (by kernel_rfl) (by kernel_rfl) (by kernel_rfl) (Go.Ab.kc (by kernel_rfl) h)
theorem v46_5 : ∀ (l : List T.Ev) (n i : Int) (n_1 : Nat) (Post : AV → List AObj → Prop),
  condP (decide (i < (↑(List.length l) : Int)))
      (needP ((0 : Int) ≤ i ∧ i < (↑(List.length l) : Int))
        (needP ((0 : Int) ≤ i ∧ i < (↑(List.length l) : Int))
          (ASpec Try.prog 97 [AV.sl 2 (Seq.map T.encN ([], []) (Prod.fst (Prod.snd (List.getD l (Int.toNat i) T.noEv)))) Tip.none] [] fun (r : AV) (H' : List AObj) =>
            ∃ (x : Bool),
              r = AV.bool x ∧
                H' = [] ∧
                  condP x (Post (AV.bool true) [])
                    (condP (decide (IntKind.wrap IntKind.i64 (n + (↑(List.length (Prod.snd (Prod.snd (Prod.snd (Prod.snd (List.getD l (Int.toNat i) T.noEv)))))) : Int)) > (12000 : Int)))
                      (Post (AV.bool true) [])
                      (condP (decide (IntKind.wrap IntKind.i64 (n + (↑(List.length (Prod.snd (Prod.snd (Prod.snd (Prod.snd (List.getD l (Int.toNat i) T.noEv)))))) : Int)) < (0 : Int)))
                        (Post (AV.bool true) [])
                        (AWP Try.prog 36 n_1 c46_5
                          [(0, AV.sl 5 (Seq.map T.encE T.noEv l) Tip.none),
                            (3, AV.int IntKind.i64 (IntKind.wrap IntKind.i64 (n + (↑(List.length (Prod.snd (Prod.snd (Prod.snd (Prod.snd (List.getD l (Int.toNat i) T.noEv)))))) : Int)))),
                            (4, AV.int IntKind.i64 (IntKind.wrap IntKind.i64 (i + (1 : Int))))]
                          [] (q46_2 n_1 Post)))))))
      (Post (AV.bool false) []) →
    AWP Try.prog 36 n_1 c46_5 [(0, AV.sl 5 (Seq.map T.encE T.noEv l) Tip.none), (3, AV.int IntKind.i64 n), (4, AV.int IntKind.i64 i)] [] (q46_2 n_1 Post) := fun l n i n Post h => Go.Ab.AWP.loop' g46 (Cfg.live g46) c46_5 (by kernel_rfl) (by kernel_rfl) (Go.Ab.kc (by kernel_rfl) h)

-- 147
noncomputable def l147 : Nat → List Nat
  | _ => []
noncomputable def u147 : Nat → Bool
  | _ => false
noncomputable def m147 : Nat → Bool
  | _ => false
noncomputable def g147 : Cfg := { N := 6, live := l147, cut := u147, mu := m147, ret := rets }
noncomputable def c147 : Go.Code := Go.Ab.bodyOf Go.Proofs.Try.f147
theorem s147 : ∀ (e : T.Ev) (Post : AV → List AObj → Prop),
  (ASpec Try.prog 48
      [AV.agg
          [AV.int IntKind.i64 (Prod.fst e), AV.sl 2 (Seq.map T.encN ([], []) (Prod.fst (Prod.snd e))) Tip.none, AV.int IntKind.i64 (Prod.fst (Prod.snd (Prod.snd e))),
            AV.int IntKind.i64 (Prod.fst (Prod.snd (Prod.snd (Prod.snd e)))), AV.sl 1 (Seq.map encB (0 : UInt8) (Prod.snd (Prod.snd (Prod.snd (Prod.snd e))))) Tip.none]]
      [AObj.cells
          [AV.int IntKind.i64 (Prod.fst e), AV.sl 2 (Seq.map T.encN ([], []) (Prod.fst (Prod.snd e))) Tip.none, AV.int IntKind.i64 (Prod.fst (Prod.snd (Prod.snd e))),
            AV.int IntKind.i64 (Prod.fst (Prod.snd (Prod.snd (Prod.snd e)))), AV.sl 1 (Seq.map encB (0 : UInt8) (Prod.snd (Prod.snd (Prod.snd (Prod.snd e))))) Tip.none]]
      fun (r : AV) (H' : List AObj) =>
      ∃ (x : Bool),
        r = AV.bool x ∧
          H' =
              [AObj.cells
                  [AV.int IntKind.i64 (Prod.fst e), AV.sl 2 (Seq.map T.encN ([], []) (Prod.fst (Prod.snd e))) Tip.none, AV.int IntKind.i64 (Prod.fst (Prod.snd (Prod.snd e))),
                    AV.int IntKind.i64 (Prod.fst (Prod.snd (Prod.snd (Prod.snd e)))), AV.sl 1 (Seq.map encB (0 : UInt8) (Prod.snd (Prod.snd (Prod.snd (Prod.snd e))))) Tip.none]] ∧
            Post (AV.bool !x)
              [AObj.cells
                  [AV.int IntKind.i64 (Prod.fst e), AV.sl 2 (Seq.map T.encN ([], []) (Prod.fst (Prod.snd e))) Tip.none, AV.int IntKind.i64 (Prod.fst (Prod.snd (Prod.snd e))),
                    AV.int IntKind.i64 (Prod.fst (Prod.snd (Prod.snd (Prod.snd e)))), AV.sl 1 (Seq.map encB (0 : UInt8) (Prod.snd (Prod.snd (Prod.snd (Prod.snd e))))) Tip.none]]) →
    ASpec Try.prog 147 [AV.agg (T.encE e)] [] Post := fun e Post h => Go.Ab.ASpec.of_vc g147 Go.Proofs.Try.func147 (by kernel_rfl) (by kernel_rfl) (by kernel_rfl) (Go.Ab.kc (by kernel_rfl) h)

-- 146
noncomputable def l146 : Nat → List Nat
  | _ => []
noncomputable def u146 : Nat → Bool
  | _ => false
noncomputable def m146 : Nat → Bool
  | _ => false
noncomputable def g146 : Cfg := { N := 9, live := l146, cut := u146, mu := m146, ret := rets }
noncomputable def c146 : Go.Code := Go.Ab.bodyOf Go.Proofs.Try.f146
theorem s146 : ∀ (l : List T.Ev) (Post : AV → List AObj → Prop),
  (ASpec Try.prog 168 [AV.sl 5 (Seq.map T.encE T.noEv l) Tip.none, AV.fn (147 : FuncId) []] [] fun (r : AV) (H' : List AObj) =>
      ∃ (x : Int), r = AV.int IntKind.i64 x ∧ H' = [] ∧ Post (AV.bool (decide (x ≥ (0 : Int)))) []) →
    ASpec Try.prog 146 [AV.sl 5 (Seq.map T.encE T.noEv l) Tip.none, AV.fn (147 : FuncId) []] [] Post := fun l Post h => Go.Ab.ASpec.of_vc g146 Go.Proofs.Try.func146 (by kernel_rfl) (by kernel_rfl) (by kernel_rfl) (Go.Ab.kc (by kernel_rfl) h)

-- 168
noncomputable def l168 : Nat → List Nat
  | 2 => [0, 1, 7, 8]
  | _ => []
noncomputable def u168 : Nat → Bool
  | _ => false
noncomputable def m168 : Nat → Bool
  | _ => false
noncomputable def g168 : Cfg := { N := 19, live := l168, cut := u168, mu := m168, ret := rets }
noncomputable def c168 : Go.Code := Go.Ab.bodyOf Go.Proofs.Try.f168
noncomputable def q168_0 : Nat → (AV → List AObj → Prop) → AQ := fun (n : Nat) (Post : AV → List AObj → Prop) => endQ Try.prog (resultsOf Try.f168) Post
noncomputable def q168_1 : Nat → (AV → List AObj → Prop) → AQ := fun (n : Nat) (Post : AV → List AObj → Prop) => seqQ (fun (s' : Slots) (H' : List AObj) => awp Try.prog g168 n (codeSnd (codeSnd c168)) s' H' (q168_0 n Post)) (q168_0 n Post)
noncomputable def q168_2 : Nat → (AV → List AObj → Prop) → AQ := fun (n : Nat) (Post : AV → List AObj → Prop) => blockQ 0 (q168_1 n Post)
noncomputable def c168_2 : Go.Code := codeFst (codeSnd (codeFst (codeSnd c168)))
theorem s168 : ∀ (l : List T.Ev) (Post : AV → List AObj → Prop),
  AWP Try.prog 19 0 c168_2
      [(0, AV.sl 5 (Seq.map T.encE T.noEv l) Tip.none), (1, AV.fn (147 : FuncId) []), (7, AV.int IntKind.i64 (↑(List.length l) : Int)),
        (8, AV.int IntKind.i64 (0 : Int))]
      [] (q168_2 0 Post) →
    ASpec Try.prog 168 [AV.sl 5 (Seq.map T.encE T.noEv l) Tip.none, AV.fn (147 : FuncId) []] [] Post := fun l Post h => Go.Ab.ASpec.of_vc g168 Go.Proofs.Try.func168 (by kernel_rfl) (by kernel_rfl) (by kernel_rfl) (Go.Ab.kc (by kernel_rfl) h)
theorem v168_2 : ∀ (l : List T.Ev) (n i : Int) (n_1 : Nat) (Post : AV → List AObj → Prop),
  condP (decide (i < n))
      (needP ((0 : Int) ≤ i ∧ i < (↑(List.length l) : Int))
        (ASpec Try.prog 147
          [AV.agg
              [AV.int IntKind.i64 (Prod.fst (List.getD l (Int.toNat i) T.noEv)), AV.sl 2 (Seq.map T.encN ([], []) (Prod.fst (Prod.snd (List.getD l (Int.toNat i) T.noEv)))) Tip.none,
                AV.int IntKind.i64 (Prod.fst (Prod.snd (Prod.snd (List.getD l (Int.toNat i) T.noEv)))),
                AV.int IntKind.i64 (Prod.fst (Prod.snd (Prod.snd (Prod.snd (List.getD l (Int.toNat i) T.noEv))))),
                AV.sl 1 (Seq.map encB (0 : UInt8) (Prod.snd (Prod.snd (Prod.snd (Prod.snd (List.getD l (Int.toNat i) T.noEv)))))) Tip.none]]
          [] fun (r : AV) (H' : List AObj) =>
          ∃ (x : Bool),
            r = AV.bool x ∧
              H' = [] ∧
                condP x (Post (AV.int IntKind.i64 i) [])
                  (AWP Try.prog 19 n_1 c168_2
                    [(0, AV.sl 5 (Seq.map T.encE T.noEv l) Tip.none), (1, AV.fn (147 : FuncId) []), (7, AV.int IntKind.i64 n),
                      (8, AV.int IntKind.i64 (IntKind.wrap IntKind.i64 (i + (1 : Int))))]
                    [] (q168_2 n_1 Post))))
      (Post (AV.int IntKind.i64 (-1 : Int)) []) →
    AWP Try.prog 19 n_1 c168_2
      [(0, AV.sl 5 (Seq.map T.encE T.noEv l) Tip.none), (1, AV.fn (147 : FuncId) []), (7, AV.int IntKind.i64 n), (8, AV.int IntKind.i64 i)] [] (q168_2 n_1 Post) := fun l n i n Post h => Go.Ab.AWP.loop' g168 (Cfg.live g168) c168_2 (by kernel_rfl) (by kernel_rfl) (Go.Ab.kc (by kernel_rfl) h)

-- 207
noncomputable def l207 : Nat → List Nat
  | _ => []
noncomputable def u207 : Nat → Bool
  | _ => false
noncomputable def m207 : Nat → Bool
  | _ => false
noncomputable def g207 : Cfg := { N := 6, live := l207, cut := u207, mu := m207, ret := rets }
noncomputable def c207 : Go.Code := Go.Ab.bodyOf Go.Proofs.Try.f207
theorem s207 : ∀ (b : List UInt8) (Post : AV → List AObj → Prop),
  Post (AV.sl 1 (Seq.map encB (0 : UInt8) b) Tip.none) [AObj.cells []] → ASpec Try.prog 207 [AV.agg [], AV.sl 1 (Seq.map encB (0 : UInt8) b) Tip.none] [] Post := fun b Post h => Go.Ab.ASpec.of_vc g207 Go.Proofs.Try.func207 (by kernel_rfl) (by kernel_rfl) (by kernel_rfl) (Go.Ab.kc (by kernel_rfl) h)

-- 111
noncomputable def l111 : Nat → List Nat
  | 5 => [3, 17, 18, 19]
  | _ => []
noncomputable def u111 : Nat → Bool
  | _ => false
noncomputable def m111 : Nat → Bool
  | _ => false
noncomputable def g111 : Cfg := { N := 36, live := l111, cut := u111, mu := m111, ret := rets }
noncomputable def c111 : Go.Code := Go.Ab.bodyOf Go.Proofs.Try.f111
noncomputable def q111_0 : Nat → (AV → List AObj → Prop) → AQ := fun (n : Nat) (Post : AV → List AObj → Prop) => endQ Try.prog (resultsOf Try.f111) Post
noncomputable def q111_1 : Nat → (AV → List AObj → Prop) → AQ := fun (n : Nat) (Post : AV → List AObj → Prop) => seqQ (fun (s' : Slots) (H' : List AObj) => awp Try.prog g111 n (codeSnd (codeSnd (codeSnd (codeSnd c111)))) s' H' (q111_0 n Post)) (q111_0 n Post)
noncomputable def q111_2 : Nat → (AV → List AObj → Prop) → AQ := fun (n : Nat) (Post : AV → List AObj → Prop) => blockQ 0 (q111_1 n Post)
noncomputable def c111_5 : Go.Code := codeFst (codeSnd (codeFst (codeSnd (codeSnd (codeSnd c111)))))
theorem s111 : ∀ (l : List T.Ev) (Post : AV → List AObj → Prop),
  condP (decide ((↑(List.length l) : Int) > (400 : Int))) (Post (AV.sl 0 (Seq.raw []) Tip.nil) [])
      (ASpec Try.prog 146 [AV.sl 5 (Seq.map T.encE T.noEv l) Tip.none, AV.fn 147 []] [] fun (r : AV) (H' : List AObj) =>
        ∃ (x : Bool),
          r = AV.bool x ∧
            H' = [] ∧
              condP x (Post (AV.sl 0 (Seq.raw []) Tip.nil) [])
                (ASpec Try.prog 17 [AV.sl 0 (Seq.raw []) Tip.nil, AV.sl 1 (Seq.raw [[AV.int IntKind.i64 (↑(List.length l) : Int)]]) Tip.full] []
                  fun (r : AV) (H' : List AObj) =>
                  ∃ (x : List UInt8),
                    r = AV.sl 1 (Seq.map encB (0 : UInt8) x) (Tip.tok 0) ∧
                      H' = [AObj.tok] ∧
                        AWP Try.prog 36 0 c111_5
                          [(3, AV.sl 1 (Seq.map encB (0 : UInt8) x) (Tip.tok 0)), (17, AV.sl 5 (Seq.map T.encE T.noEv l) Tip.none),
                            (18, AV.int IntKind.i64 (↑(List.length l) : Int)), (19, AV.int IntKind.i64 (0 : Int))]
                          [AObj.tok] (q111_2 0 Post))) →
    ASpec Try.prog 111 [AV.sl 5 (Seq.map T.encE T.noEv l) Tip.none] [] Post := fun l Post h => Go.Ab.ASpec.of_vc g111 Go.Proofs.Try.func111 (by kernel_rfl) (by kernel_rfl) (by kernel_rfl) (Go.Ab.kc (by kernel_rfl) h)
theorem v111_5 : ∀ (b : List UInt8) (l : List T.Ev) (n i : Int) (n_1 : Nat) (Post : AV → List AObj → Prop),
  condP (decide (i < n))
      (needP ((0 : Int) ≤ i ∧ i < (↑(List.length l) : Int))
        (ASpec Try.prog 112
          [AV.agg
              [AV.int IntKind.i64 (Prod.fst (List.getD l (Int.toNat i) T.noEv)), AV.sl 2 (Seq.map T.encN ([], []) (Prod.fst (Prod.snd (List.getD l (Int.toNat i) T.noEv)))) Tip.none,
                AV.int IntKind.i64 (Prod.fst (Prod.snd (Prod.snd (List.getD l (Int.toNat i) T.noEv)))),
                AV.int IntKind.i64 (Prod.fst (Prod.snd (Prod.snd (Prod.snd (List.getD l (Int.toNat i) T.noEv))))),
                AV.sl 1 (Seq.map encB (0 : UInt8) (Prod.snd (Prod.snd (Prod.snd (Prod.snd (List.getD l (Int.toNat i) T.noEv)))))) Tip.none]]
          [AObj.cells
              [AV.int IntKind.i64 (Prod.fst (List.getD l (Int.toNat i) T.noEv)), AV.sl 2 (Seq.map T.encN ([], []) (Prod.fst (Prod.snd (List.getD l (Int.toNat i) T.noEv)))) Tip.none,
                AV.int IntKind.i64 (Prod.fst (Prod.snd (Prod.snd (List.getD l (Int.toNat i) T.noEv)))),
                AV.int IntKind.i64 (Prod.fst (Prod.snd (Prod.snd (Prod.snd (List.getD l (Int.toNat i) T.noEv))))),
                AV.sl 1 (Seq.map encB (0 : UInt8) (Prod.snd (Prod.snd (Prod.snd (Prod.snd (List.getD l (Int.toNat i) T.noEv)))))) Tip.none]]
          fun (r : AV) (H' : List AObj) =>
          (∃ (x : Int × List T.Need),
              r = AV.iface (207 : TypeId) (AV.agg [AV.int IntKind.i64 (Prod.fst x), AV.sl 2 (Seq.map T.encN ([], []) (Prod.snd x)) Tip.none]) ∧
                H' =
                    [AObj.cells
                        [AV.int IntKind.i64 (Prod.fst (List.getD l (Int.toNat i) T.noEv)), AV.sl 2 (Seq.map T.encN ([], []) (Prod.fst (Prod.snd (List.getD l (Int.toNat i) T.noEv)))) Tip.none,
                          AV.int IntKind.i64 (Prod.fst (Prod.snd (Prod.snd (List.getD l (Int.toNat i) T.noEv)))),
                          AV.int IntKind.i64 (Prod.fst (Prod.snd (Prod.snd (Prod.snd (List.getD l (Int.toNat i) T.noEv))))),
                          AV.sl 1 (Seq.map encB (0 : UInt8) (Prod.snd (Prod.snd (Prod.snd (Prod.snd (List.getD l (Int.toNat i) T.noEv)))))) Tip.none]] ∧
                  (AV.int IntKind.i64 (Prod.fst (List.getD l (Int.toNat i) T.noEv)) = AV.int IntKind.i64 (Prod.fst (List.getD l (Int.toNat i) T.noEv)) ∧
                      [AObj.cells
                            [AV.int IntKind.i64 (Prod.fst (List.getD l (Int.toNat i) T.noEv)),
                              AV.sl 2 (Seq.map T.encN ([], []) (Prod.fst (Prod.snd (List.getD l (Int.toNat i) T.noEv)))) Tip.none,
                              AV.int IntKind.i64 (Prod.fst (Prod.snd (Prod.snd (List.getD l (Int.toNat i) T.noEv)))),
                              AV.int IntKind.i64 (Prod.fst (Prod.snd (Prod.snd (Prod.snd (List.getD l (Int.toNat i) T.noEv))))),
                              AV.sl 1 (Seq.map encB (0 : UInt8) (Prod.snd (Prod.snd (Prod.snd (Prod.snd (List.getD l (Int.toNat i) T.noEv)))))) Tip.none]] =
                        [AObj.cells
                            [AV.int IntKind.i64 (Prod.fst (List.getD l (Int.toNat i) T.noEv)),
                              AV.sl 2 (Seq.map T.encN ([], []) (Prod.fst (Prod.snd (List.getD l (Int.toNat i) T.noEv)))) Tip.none,
                              AV.int IntKind.i64 (Prod.fst (Prod.snd (Prod.snd (List.getD l (Int.toNat i) T.noEv)))),
                              AV.int IntKind.i64 (Prod.fst (Prod.snd (Prod.snd (Prod.snd (List.getD l (Int.toNat i) T.noEv))))),
                              AV.sl 1 (Seq.map encB (0 : UInt8) (Prod.snd (Prod.snd (Prod.snd (Prod.snd (List.getD l (Int.toNat i) T.noEv)))))) Tip.none]]) ∧
                    ASpec Try.prog 17
                      [AV.sl 1 (Seq.map encB (0 : UInt8) b) Tip.none, AV.sl 1 (Seq.raw [[AV.int IntKind.i64 (Prod.fst (List.getD l (Int.toNat i) T.noEv))]]) Tip.full]
                      [AObj.cells
                          [AV.int IntKind.i64 (Prod.fst (List.getD l (Int.toNat i) T.noEv)),
                            AV.sl 2 (Seq.map T.encN ([], []) (Prod.fst (Prod.snd (List.getD l (Int.toNat i) T.noEv)))) Tip.none,
                            AV.int IntKind.i64 (Prod.fst (Prod.snd (Prod.snd (List.getD l (Int.toNat i) T.noEv)))),
                            AV.int IntKind.i64 (Prod.fst (Prod.snd (Prod.snd (Prod.snd (List.getD l (Int.toNat i) T.noEv))))),
                            AV.sl 1 (Seq.map encB (0 : UInt8) (Prod.snd (Prod.snd (Prod.snd (Prod.snd (List.getD l (Int.toNat i) T.noEv)))))) Tip.none]]
                      fun (r : AV) (H' : List AObj) =>
                      ∃ (x_1 : List UInt8),
                        r = AV.sl 1 (Seq.map encB (0 : UInt8) x_1) (Tip.tok 1) ∧
                          H' =
                              [AObj.cells
                                  [AV.int IntKind.i64 (Prod.fst (List.getD l (Int.toNat i) T.noEv)),
                                    AV.sl 2 (Seq.map T.encN ([], []) (Prod.fst (Prod.snd (List.getD l (Int.toNat i) T.noEv)))) Tip.none,
                                    AV.int IntKind.i64 (Prod.fst (Prod.snd (Prod.snd (List.getD l (Int.toNat i) T.noEv)))),
                                    AV.int IntKind.i64 (Prod.fst (Prod.snd (Prod.snd (Prod.snd (List.getD l (Int.toNat i) T.noEv))))),
                                    AV.sl 1 (Seq.map encB (0 : UInt8) (Prod.snd (Prod.snd (Prod.snd (Prod.snd (List.getD l (Int.toNat i) T.noEv)))))) Tip.none],
                                AObj.tok] ∧
                            ASpec Try.prog 209
                              [AV.agg [AV.int IntKind.i64 (Prod.fst x), AV.sl 2 (Seq.map T.encN ([], []) (Prod.snd x)) Tip.none],
                                AV.sl 1 (Seq.map encB (0 : UInt8) x_1) (Tip.tok 1)]
                              [AObj.cells
                                  [AV.int IntKind.i64 (Prod.fst (List.getD l (Int.toNat i) T.noEv)),
                                    AV.sl 2 (Seq.map T.encN ([], []) (Prod.fst (Prod.snd (List.getD l (Int.toNat i) T.noEv)))) Tip.none,
                                    AV.int IntKind.i64 (Prod.fst (Prod.snd (Prod.snd (List.getD l (Int.toNat i) T.noEv)))),
                                    AV.int IntKind.i64 (Prod.fst (Prod.snd (Prod.snd (Prod.snd (List.getD l (Int.toNat i) T.noEv))))),
                                    AV.sl 1 (Seq.map encB (0 : UInt8) (Prod.snd (Prod.snd (Prod.snd (Prod.snd (List.getD l (Int.toNat i) T.noEv)))))) Tip.none],
                                AObj.tok]
                              fun (r : AV) (H' : List AObj) =>
                              ∃ (x : List UInt8),
                                r = AV.sl 1 (Seq.map encB (0 : UInt8) x) Tip.none ∧
                                  H' =
                                      [AObj.cells
                                          [AV.int IntKind.i64 (Prod.fst (List.getD l (Int.toNat i) T.noEv)),
                                            AV.sl 2 (Seq.map T.encN ([], []) (Prod.fst (Prod.snd (List.getD l (Int.toNat i) T.noEv)))) Tip.none,
                                            AV.int IntKind.i64 (Prod.fst (Prod.snd (Prod.snd (List.getD l (Int.toNat i) T.noEv)))),
                                            AV.int IntKind.i64 (Prod.fst (Prod.snd (Prod.snd (Prod.snd (List.getD l (Int.toNat i) T.noEv))))),
                                            AV.sl 1 (Seq.map encB (0 : UInt8) (Prod.snd (Prod.snd (Prod.snd (Prod.snd (List.getD l (Int.toNat i) T.noEv)))))) Tip.none],
                                        AObj.tok] ∧
                                    AWP Try.prog 36 n_1 c111_5
                                      [(3, AV.sl 1 (Seq.map encB (0 : UInt8) x) Tip.none), (17, AV.sl 5 (Seq.map T.encE T.noEv l) Tip.none),
                                        (18, AV.int IntKind.i64 n), (19, AV.int IntKind.i64 (IntKind.wrap IntKind.i64 (i + (1 : Int))))]
                                      [AObj.cells
                                          [AV.int IntKind.i64 (Prod.fst (List.getD l (Int.toNat i) T.noEv)),
                                            AV.sl 2 (Seq.map T.encN ([], []) (Prod.fst (Prod.snd (List.getD l (Int.toNat i) T.noEv)))) Tip.none,
                                            AV.int IntKind.i64 (Prod.fst (Prod.snd (Prod.snd (List.getD l (Int.toNat i) T.noEv)))),
                                            AV.int IntKind.i64 (Prod.fst (Prod.snd (Prod.snd (Prod.snd (List.getD l (Int.toNat i) T.noEv))))),
                                            AV.sl 1 (Seq.map encB (0 : UInt8) (Prod.snd (Prod.snd (Prod.snd (Prod.snd (List.getD l (Int.toNat i) T.noEv)))))) Tip.none],
                                        AObj.tok]
                                      (q111_2 n_1 Post)) ∨
            (∃ (x : Unit),
                r = AV.iface (161 : TypeId) (AV.agg []) ∧
                  H' =
                      [AObj.cells
                          [AV.int IntKind.i64 (Prod.fst (List.getD l (Int.toNat i) T.noEv)),
                            AV.sl 2 (Seq.map T.encN ([], []) (Prod.fst (Prod.snd (List.getD l (Int.toNat i) T.noEv)))) Tip.none,
                            AV.int IntKind.i64 (Prod.fst (Prod.snd (Prod.snd (List.getD l (Int.toNat i) T.noEv)))),
                            AV.int IntKind.i64 (Prod.fst (Prod.snd (Prod.snd (Prod.snd (List.getD l (Int.toNat i) T.noEv))))),
                            AV.sl 1 (Seq.map encB (0 : UInt8) (Prod.snd (Prod.snd (Prod.snd (Prod.snd (List.getD l (Int.toNat i) T.noEv)))))) Tip.none]] ∧
                    (AV.int IntKind.i64 (Prod.fst (List.getD l (Int.toNat i) T.noEv)) = AV.int IntKind.i64 (Prod.fst (List.getD l (Int.toNat i) T.noEv)) ∧
                        [AObj.cells
                              [AV.int IntKind.i64 (Prod.fst (List.getD l (Int.toNat i) T.noEv)),
                                AV.sl 2 (Seq.map T.encN ([], []) (Prod.fst (Prod.snd (List.getD l (Int.toNat i) T.noEv)))) Tip.none,
                                AV.int IntKind.i64 (Prod.fst (Prod.snd (Prod.snd (List.getD l (Int.toNat i) T.noEv)))),
                                AV.int IntKind.i64 (Prod.fst (Prod.snd (Prod.snd (Prod.snd (List.getD l (Int.toNat i) T.noEv))))),
                                AV.sl 1 (Seq.map encB (0 : UInt8) (Prod.snd (Prod.snd (Prod.snd (Prod.snd (List.getD l (Int.toNat i) T.noEv)))))) Tip.none]] =
                          [AObj.cells
                              [AV.int IntKind.i64 (Prod.fst (List.getD l (Int.toNat i) T.noEv)),
                                AV.sl 2 (Seq.map T.encN ([], []) (Prod.fst (Prod.snd (List.getD l (Int.toNat i) T.noEv)))) Tip.none,
                                AV.int IntKind.i64 (Prod.fst (Prod.snd (Prod.snd (List.getD l (Int.toNat i) T.noEv)))),
                                AV.int IntKind.i64 (Prod.fst (Prod.snd (Prod.snd (Prod.snd (List.getD l (Int.toNat i) T.noEv))))),
                                AV.sl 1 (Seq.map encB (0 : UInt8) (Prod.snd (Prod.snd (Prod.snd (Prod.snd (List.getD l (Int.toNat i) T.noEv)))))) Tip.none]]) ∧
                      ASpec Try.prog 17
                        [AV.sl 1 (Seq.map encB (0 : UInt8) b) Tip.none, AV.sl 1 (Seq.raw [[AV.int IntKind.i64 (Prod.fst (List.getD l (Int.toNat i) T.noEv))]]) Tip.full]
                        [AObj.cells
                            [AV.int IntKind.i64 (Prod.fst (List.getD l (Int.toNat i) T.noEv)),
                              AV.sl 2 (Seq.map T.encN ([], []) (Prod.fst (Prod.snd (List.getD l (Int.toNat i) T.noEv)))) Tip.none,
                              AV.int IntKind.i64 (Prod.fst (Prod.snd (Prod.snd (List.getD l (Int.toNat i) T.noEv)))),
                              AV.int IntKind.i64 (Prod.fst (Prod.snd (Prod.snd (Prod.snd (List.getD l (Int.toNat i) T.noEv))))),
                              AV.sl 1 (Seq.map encB (0 : UInt8) (Prod.snd (Prod.snd (Prod.snd (Prod.snd (List.getD l (Int.toNat i) T.noEv)))))) Tip.none]]
                        fun (r : AV) (H' : List AObj) =>
                        ∃ (x : List UInt8),
                          r = AV.sl 1 (Seq.map encB (0 : UInt8) x) (Tip.tok 1) ∧
                            H' =
                                [AObj.cells
                                    [AV.int IntKind.i64 (Prod.fst (List.getD l (Int.toNat i) T.noEv)),
                                      AV.sl 2 (Seq.map T.encN ([], []) (Prod.fst (Prod.snd (List.getD l (Int.toNat i) T.noEv)))) Tip.none,
                                      AV.int IntKind.i64 (Prod.fst (Prod.snd (Prod.snd (List.getD l (Int.toNat i) T.noEv)))),
                                      AV.int IntKind.i64 (Prod.fst (Prod.snd (Prod.snd (Prod.snd (List.getD l (Int.toNat i) T.noEv))))),
                                      AV.sl 1 (Seq.map encB (0 : UInt8) (Prod.snd (Prod.snd (Prod.snd (Prod.snd (List.getD l (Int.toNat i) T.noEv)))))) Tip.none],
                                  AObj.tok] ∧
                              ASpec Try.prog 207 [AV.agg [], AV.sl 1 (Seq.map encB (0 : UInt8) x) (Tip.tok 1)]
                                [AObj.cells
                                    [AV.int IntKind.i64 (Prod.fst (List.getD l (Int.toNat i) T.noEv)),
                                      AV.sl 2 (Seq.map T.encN ([], []) (Prod.fst (Prod.snd (List.getD l (Int.toNat i) T.noEv)))) Tip.none,
                                      AV.int IntKind.i64 (Prod.fst (Prod.snd (Prod.snd (List.getD l (Int.toNat i) T.noEv)))),
                                      AV.int IntKind.i64 (Prod.fst (Prod.snd (Prod.snd (Prod.snd (List.getD l (Int.toNat i) T.noEv))))),
                                      AV.sl 1 (Seq.map encB (0 : UInt8) (Prod.snd (Prod.snd (Prod.snd (Prod.snd (List.getD l (Int.toNat i) T.noEv)))))) Tip.none],
                                  AObj.tok]
                                fun (r : AV) (H' : List AObj) =>
                                ∃ (x : List UInt8),
                                  r = AV.sl 1 (Seq.map encB (0 : UInt8) x) Tip.none ∧
                                    H' =
                                        [AObj.cells
                                            [AV.int IntKind.i64 (Prod.fst (List.getD l (Int.toNat i) T.noEv)),
                                              AV.sl 2 (Seq.map T.encN ([], []) (Prod.fst (Prod.snd (List.getD l (Int.toNat i) T.noEv)))) Tip.none,
                                              AV.int IntKind.i64 (Prod.fst (Prod.snd (Prod.snd (List.getD l (Int.toNat i) T.noEv)))),
                                              AV.int IntKind.i64 (Prod.fst (Prod.snd (Prod.snd (Prod.snd (List.getD l (Int.toNat i) T.noEv))))),
                                              AV.sl 1 (Seq.map encB (0 : UInt8) (Prod.snd (Prod.snd (Prod.snd (Prod.snd (List.getD l (Int.toNat i) T.noEv)))))) Tip.none],
                                          AObj.tok] ∧
                                      AWP Try.prog 36 n_1 c111_5
                                        [(3, AV.sl 1 (Seq.map encB (0 : UInt8) x) Tip.none), (17, AV.sl 5 (Seq.map T.encE T.noEv l) Tip.none),
                                          (18, AV.int IntKind.i64 n), (19, AV.int IntKind.i64 (IntKind.wrap IntKind.i64 (i + (1 : Int))))]
                                        [AObj.cells
                                            [AV.int IntKind.i64 (Prod.fst (List.getD l (Int.toNat i) T.noEv)),
                                              AV.sl 2 (Seq.map T.encN ([], []) (Prod.fst (Prod.snd (List.getD l (Int.toNat i) T.noEv)))) Tip.none,
                                              AV.int IntKind.i64 (Prod.fst (Prod.snd (Prod.snd (List.getD l (Int.toNat i) T.noEv)))),
                                              AV.int IntKind.i64 (Prod.fst (Prod.snd (Prod.snd (Prod.snd (List.getD l (Int.toNat i) T.noEv))))),
                                              AV.sl 1 (Seq.map encB (0 : UInt8) (Prod.snd (Prod.snd (Prod.snd (Prod.snd (List.getD l (Int.toNat i) T.noEv)))))) Tip.none],
                                          AObj.tok]
                                        (q111_2 n_1 Post)) ∨
              (∃ (x : Int × List UInt8),
                  r = AV.iface (209 : TypeId) (AV.agg [AV.int IntKind.i64 (Prod.fst x), AV.sl 1 (Seq.map encB (0 : UInt8) (Prod.snd x)) Tip.none]) ∧
                    H' =
                        [AObj.cells
                            [AV.int IntKind.i64 (Prod.fst (List.getD l (Int.toNat i) T.noEv)),
                              AV.sl 2 (Seq.map T.encN ([], []) (Prod.fst (Prod.snd (List.getD l (Int.toNat i) T.noEv)))) Tip.none,
                              AV.int IntKind.i64 (Prod.fst (Prod.snd (Prod.snd (List.getD l (Int.toNat i) T.noEv)))),
                              AV.int IntKind.i64 (Prod.fst (Prod.snd (Prod.snd (Prod.snd (List.getD l (Int.toNat i) T.noEv))))),
                              AV.sl 1 (Seq.map encB (0 : UInt8) (Prod.snd (Prod.snd (Prod.snd (Prod.snd (List.getD l (Int.toNat i) T.noEv)))))) Tip.none]] ∧
                      (AV.int IntKind.i64 (Prod.fst (List.getD l (Int.toNat i) T.noEv)) = AV.int IntKind.i64 (Prod.fst (List.getD l (Int.toNat i) T.noEv)) ∧
                          [AObj.cells
                                [AV.int IntKind.i64 (Prod.fst (List.getD l (Int.toNat i) T.noEv)),
                                  AV.sl 2 (Seq.map T.encN ([], []) (Prod.fst (Prod.snd (List.getD l (Int.toNat i) T.noEv)))) Tip.none,
                                  AV.int IntKind.i64 (Prod.fst (Prod.snd (Prod.snd (List.getD l (Int.toNat i) T.noEv)))),
                                  AV.int IntKind.i64 (Prod.fst (Prod.snd (Prod.snd (Prod.snd (List.getD l (Int.toNat i) T.noEv))))),
                                  AV.sl 1 (Seq.map encB (0 : UInt8) (Prod.snd (Prod.snd (Prod.snd (Prod.snd (List.getD l (Int.toNat i) T.noEv)))))) Tip.none]] =
                            [AObj.cells
                                [AV.int IntKind.i64 (Prod.fst (List.getD l (Int.toNat i) T.noEv)),
                                  AV.sl 2 (Seq.map T.encN ([], []) (Prod.fst (Prod.snd (List.getD l (Int.toNat i) T.noEv)))) Tip.none,
                                  AV.int IntKind.i64 (Prod.fst (Prod.snd (Prod.snd (List.getD l (Int.toNat i) T.noEv)))),
                                  AV.int IntKind.i64 (Prod.fst (Prod.snd (Prod.snd (Prod.snd (List.getD l (Int.toNat i) T.noEv))))),
                                  AV.sl 1 (Seq.map encB (0 : UInt8) (Prod.snd (Prod.snd (Prod.snd (Prod.snd (List.getD l (Int.toNat i) T.noEv)))))) Tip.none]]) ∧
                        ASpec Try.prog 17
                          [AV.sl 1 (Seq.map encB (0 : UInt8) b) Tip.none, AV.sl 1 (Seq.raw [[AV.int IntKind.i64 (Prod.fst (List.getD l (Int.toNat i) T.noEv))]]) Tip.full]
                          [AObj.cells
                              [AV.int IntKind.i64 (Prod.fst (List.getD l (Int.toNat i) T.noEv)),
                                AV.sl 2 (Seq.map T.encN ([], []) (Prod.fst (Prod.snd (List.getD l (Int.toNat i) T.noEv)))) Tip.none,
                                AV.int IntKind.i64 (Prod.fst (Prod.snd (Prod.snd (List.getD l (Int.toNat i) T.noEv)))),
                                AV.int IntKind.i64 (Prod.fst (Prod.snd (Prod.snd (Prod.snd (List.getD l (Int.toNat i) T.noEv))))),
                                AV.sl 1 (Seq.map encB (0 : UInt8) (Prod.snd (Prod.snd (Prod.snd (Prod.snd (List.getD l (Int.toNat i) T.noEv)))))) Tip.none]]
                          fun (r : AV) (H' : List AObj) =>
                          ∃ (x_1 : List UInt8),
                            r = AV.sl 1 (Seq.map encB (0 : UInt8) x_1) (Tip.tok 1) ∧
                              H' =
                                  [AObj.cells
                                      [AV.int IntKind.i64 (Prod.fst (List.getD l (Int.toNat i) T.noEv)),
                                        AV.sl 2 (Seq.map T.encN ([], []) (Prod.fst (Prod.snd (List.getD l (Int.toNat i) T.noEv)))) Tip.none,
                                        AV.int IntKind.i64 (Prod.fst (Prod.snd (Prod.snd (List.getD l (Int.toNat i) T.noEv)))),
                                        AV.int IntKind.i64 (Prod.fst (Prod.snd (Prod.snd (Prod.snd (List.getD l (Int.toNat i) T.noEv))))),
                                        AV.sl 1 (Seq.map encB (0 : UInt8) (Prod.snd (Prod.snd (Prod.snd (Prod.snd (List.getD l (Int.toNat i) T.noEv)))))) Tip.none],
                                    AObj.tok] ∧
                                ASpec Try.prog 210
                                  [AV.agg [AV.int IntKind.i64 (Prod.fst x), AV.sl 1 (Seq.map encB (0 : UInt8) (Prod.snd x)) Tip.none],
                                    AV.sl 1 (Seq.map encB (0 : UInt8) x_1) (Tip.tok 1)]
                                  [AObj.cells
                                      [AV.int IntKind.i64 (Prod.fst (List.getD l (Int.toNat i) T.noEv)),
                                        AV.sl 2 (Seq.map T.encN ([], []) (Prod.fst (Prod.snd (List.getD l (Int.toNat i) T.noEv)))) Tip.none,
                                        AV.int IntKind.i64 (Prod.fst (Prod.snd (Prod.snd (List.getD l (Int.toNat i) T.noEv)))),
                                        AV.int IntKind.i64 (Prod.fst (Prod.snd (Prod.snd (Prod.snd (List.getD l (Int.toNat i) T.noEv))))),
                                        AV.sl 1 (Seq.map encB (0 : UInt8) (Prod.snd (Prod.snd (Prod.snd (Prod.snd (List.getD l (Int.toNat i) T.noEv)))))) Tip.none],
                                    AObj.tok]
                                  fun (r : AV) (H' : List AObj) =>
                                  ∃ (x : List UInt8),
                                    r = AV.sl 1 (Seq.map encB (0 : UInt8) x) Tip.none ∧
                                      H' =
                                          [AObj.cells
                                              [AV.int IntKind.i64 (Prod.fst (List.getD l (Int.toNat i) T.noEv)),
                                                AV.sl 2 (Seq.map T.encN ([], []) (Prod.fst (Prod.snd (List.getD l (Int.toNat i) T.noEv)))) Tip.none,
                                                AV.int IntKind.i64 (Prod.fst (Prod.snd (Prod.snd (List.getD l (Int.toNat i) T.noEv)))),
                                                AV.int IntKind.i64 (Prod.fst (Prod.snd (Prod.snd (Prod.snd (List.getD l (Int.toNat i) T.noEv))))),
                                                AV.sl 1 (Seq.map encB (0 : UInt8) (Prod.snd (Prod.snd (Prod.snd (Prod.snd (List.getD l (Int.toNat i) T.noEv)))))) Tip.none],
                                            AObj.tok] ∧
                                        AWP Try.prog 36 n_1 c111_5
                                          [(3, AV.sl 1 (Seq.map encB (0 : UInt8) x) Tip.none), (17, AV.sl 5 (Seq.map T.encE T.noEv l) Tip.none),
                                            (18, AV.int IntKind.i64 n), (19, AV.int IntKind.i64 (IntKind.wrap IntKind.i64 (i + (1 : Int))))]
                                          [AObj.cells
                                              [AV.int IntKind.i64 (Prod.fst (List.getD l (Int.toNat i) T.noEv)),
                                                AV.sl 2 (Seq.map T.encN ([], []) (Prod.fst (Prod.snd (List.getD l (Int.toNat i) T.noEv)))) Tip.none,
                                                AV.int IntKind.i64 (Prod.fst (Prod.snd (Prod.snd (List.getD l (Int.toNat i) T.noEv)))),
                                                AV.int IntKind.i64 (Prod.fst (Prod.snd (Prod.snd (Prod.snd (List.getD l (Int.toNat i) T.noEv))))),
                                                AV.sl 1 (Seq.map encB (0 : UInt8) (Prod.snd (Prod.snd (Prod.snd (Prod.snd (List.getD l (Int.toNat i) T.noEv)))))) Tip.none],
                                            AObj.tok]
                                          (q111_2 n_1 Post)) ∨
                (∃ (x : Int),
                    r = AV.iface (211 : TypeId) (AV.agg [AV.int IntKind.i64 x]) ∧
                      H' =
                          [AObj.cells
                              [AV.int IntKind.i64 (Prod.fst (List.getD l (Int.toNat i) T.noEv)),
                                AV.sl 2 (Seq.map T.encN ([], []) (Prod.fst (Prod.snd (List.getD l (Int.toNat i) T.noEv)))) Tip.none,
                                AV.int IntKind.i64 (Prod.fst (Prod.snd (Prod.snd (List.getD l (Int.toNat i) T.noEv)))),
                                AV.int IntKind.i64 (Prod.fst (Prod.snd (Prod.snd (Prod.snd (List.getD l (Int.toNat i) T.noEv))))),
                                AV.sl 1 (Seq.map encB (0 : UInt8) (Prod.snd (Prod.snd (Prod.snd (Prod.snd (List.getD l (Int.toNat i) T.noEv)))))) Tip.none]] ∧
                        (AV.int IntKind.i64 (Prod.fst (List.getD l (Int.toNat i) T.noEv)) = AV.int IntKind.i64 (Prod.fst (List.getD l (Int.toNat i) T.noEv)) ∧
                            [AObj.cells
                                  [AV.int IntKind.i64 (Prod.fst (List.getD l (Int.toNat i) T.noEv)),
                                    AV.sl 2 (Seq.map T.encN ([], []) (Prod.fst (Prod.snd (List.getD l (Int.toNat i) T.noEv)))) Tip.none,
                                    AV.int IntKind.i64 (Prod.fst (Prod.snd (Prod.snd (List.getD l (Int.toNat i) T.noEv)))),
                                    AV.int IntKind.i64 (Prod.fst (Prod.snd (Prod.snd (Prod.snd (List.getD l (Int.toNat i) T.noEv))))),
                                    AV.sl 1 (Seq.map encB (0 : UInt8) (Prod.snd (Prod.snd (Prod.snd (Prod.snd (List.getD l (Int.toNat i) T.noEv)))))) Tip.none]] =
                              [AObj.cells
                                  [AV.int IntKind.i64 (Prod.fst (List.getD l (Int.toNat i) T.noEv)),
                                    AV.sl 2 (Seq.map T.encN ([], []) (Prod.fst (Prod.snd (List.getD l (Int.toNat i) T.noEv)))) Tip.none,
                                    AV.int IntKind.i64 (Prod.fst (Prod.snd (Prod.snd (List.getD l (Int.toNat i) T.noEv)))),
                                    AV.int IntKind.i64 (Prod.fst (Prod.snd (Prod.snd (Prod.snd (List.getD l (Int.toNat i) T.noEv))))),
                                    AV.sl 1 (Seq.map encB (0 : UInt8) (Prod.snd (Prod.snd (Prod.snd (Prod.snd (List.getD l (Int.toNat i) T.noEv)))))) Tip.none]]) ∧
                          ASpec Try.prog 17
                            [AV.sl 1 (Seq.map encB (0 : UInt8) b) Tip.none, AV.sl 1 (Seq.raw [[AV.int IntKind.i64 (Prod.fst (List.getD l (Int.toNat i) T.noEv))]]) Tip.full]
                            [AObj.cells
                                [AV.int IntKind.i64 (Prod.fst (List.getD l (Int.toNat i) T.noEv)),
                                  AV.sl 2 (Seq.map T.encN ([], []) (Prod.fst (Prod.snd (List.getD l (Int.toNat i) T.noEv)))) Tip.none,
                                  AV.int IntKind.i64 (Prod.fst (Prod.snd (Prod.snd (List.getD l (Int.toNat i) T.noEv)))),
                                  AV.int IntKind.i64 (Prod.fst (Prod.snd (Prod.snd (Prod.snd (List.getD l (Int.toNat i) T.noEv))))),
                                  AV.sl 1 (Seq.map encB (0 : UInt8) (Prod.snd (Prod.snd (Prod.snd (Prod.snd (List.getD l (Int.toNat i) T.noEv)))))) Tip.none]]
                            fun (r : AV) (H' : List AObj) =>
                            ∃ (x_1 : List UInt8),
                              r = AV.sl 1 (Seq.map encB (0 : UInt8) x_1) (Tip.tok 1) ∧
                                H' =
                                    [AObj.cells
                                        [AV.int IntKind.i64 (Prod.fst (List.getD l (Int.toNat i) T.noEv)),
                                          AV.sl 2 (Seq.map T.encN ([], []) (Prod.fst (Prod.snd (List.getD l (Int.toNat i) T.noEv)))) Tip.none,
                                          AV.int IntKind.i64 (Prod.fst (Prod.snd (Prod.snd (List.getD l (Int.toNat i) T.noEv)))),
                                          AV.int IntKind.i64 (Prod.fst (Prod.snd (Prod.snd (Prod.snd (List.getD l (Int.toNat i) T.noEv))))),
                                          AV.sl 1 (Seq.map encB (0 : UInt8) (Prod.snd (Prod.snd (Prod.snd (Prod.snd (List.getD l (Int.toNat i) T.noEv)))))) Tip.none],
                                      AObj.tok] ∧
                                  ASpec Try.prog 211 [AV.agg [AV.int IntKind.i64 x], AV.sl 1 (Seq.map encB (0 : UInt8) x_1) (Tip.tok 1)]
                                    [AObj.cells
                                        [AV.int IntKind.i64 (Prod.fst (List.getD l (Int.toNat i) T.noEv)),
                                          AV.sl 2 (Seq.map T.encN ([], []) (Prod.fst (Prod.snd (List.getD l (Int.toNat i) T.noEv)))) Tip.none,
                                          AV.int IntKind.i64 (Prod.fst (Prod.snd (Prod.snd (List.getD l (Int.toNat i) T.noEv)))),
                                          AV.int IntKind.i64 (Prod.fst (Prod.snd (Prod.snd (Prod.snd (List.getD l (Int.toNat i) T.noEv))))),
                                          AV.sl 1 (Seq.map encB (0 : UInt8) (Prod.snd (Prod.snd (Prod.snd (Prod.snd (List.getD l (Int.toNat i) T.noEv)))))) Tip.none],
                                      AObj.tok]
                                    fun (r : AV) (H' : List AObj) =>
                                    ∃ (x : List UInt8),
                                      r = AV.sl 1 (Seq.map encB (0 : UInt8) x) Tip.none ∧
                                        H' =
                                            [AObj.cells
                                                [AV.int IntKind.i64 (Prod.fst (List.getD l (Int.toNat i) T.noEv)),
                                                  AV.sl 2 (Seq.map T.encN ([], []) (Prod.fst (Prod.snd (List.getD l (Int.toNat i) T.noEv)))) Tip.none,
                                                  AV.int IntKind.i64 (Prod.fst (Prod.snd (Prod.snd (List.getD l (Int.toNat i) T.noEv)))),
                                                  AV.int IntKind.i64 (Prod.fst (Prod.snd (Prod.snd (Prod.snd (List.getD l (Int.toNat i) T.noEv))))),
                                                  AV.sl 1 (Seq.map encB (0 : UInt8) (Prod.snd (Prod.snd (Prod.snd (Prod.snd (List.getD l (Int.toNat i) T.noEv)))))) Tip.none],
                                              AObj.tok] ∧
                                          AWP Try.prog 36 n_1 c111_5
                                            [(3, AV.sl 1 (Seq.map encB (0 : UInt8) x) Tip.none), (17, AV.sl 5 (Seq.map T.encE T.noEv l) Tip.none),
                                              (18, AV.int IntKind.i64 n), (19, AV.int IntKind.i64 (IntKind.wrap IntKind.i64 (i + (1 : Int))))]
                                            [AObj.cells
                                                [AV.int IntKind.i64 (Prod.fst (List.getD l (Int.toNat i) T.noEv)),
                                                  AV.sl 2 (Seq.map T.encN ([], []) (Prod.fst (Prod.snd (List.getD l (Int.toNat i) T.noEv)))) Tip.none,
                                                  AV.int IntKind.i64 (Prod.fst (Prod.snd (Prod.snd (List.getD l (Int.toNat i) T.noEv)))),
                                                  AV.int IntKind.i64 (Prod.fst (Prod.snd (Prod.snd (Prod.snd (List.getD l (Int.toNat i) T.noEv))))),
                                                  AV.sl 1 (Seq.map encB (0 : UInt8) (Prod.snd (Prod.snd (Prod.snd (Prod.snd (List.getD l (Int.toNat i) T.noEv)))))) Tip.none],
                                              AObj.tok]
                                            (q111_2 n_1 Post)) ∨
                  ∃ (x : Unit),
                    r = AV.nili ∧
                      H' =
                          [AObj.cells
                              [AV.int IntKind.i64 (Prod.fst (List.getD l (Int.toNat i) T.noEv)),
                                AV.sl 2 (Seq.map T.encN ([], []) (Prod.fst (Prod.snd (List.getD l (Int.toNat i) T.noEv)))) Tip.none,
                                AV.int IntKind.i64 (Prod.fst (Prod.snd (Prod.snd (List.getD l (Int.toNat i) T.noEv)))),
                                AV.int IntKind.i64 (Prod.fst (Prod.snd (Prod.snd (Prod.snd (List.getD l (Int.toNat i) T.noEv))))),
                                AV.sl 1 (Seq.map encB (0 : UInt8) (Prod.snd (Prod.snd (Prod.snd (Prod.snd (List.getD l (Int.toNat i) T.noEv)))))) Tip.none]] ∧
                        (AV.int IntKind.i64 (Prod.fst (List.getD l (Int.toNat i) T.noEv)) = AV.int IntKind.i64 (Prod.fst (List.getD l (Int.toNat i) T.noEv)) ∧
                            [AObj.cells
                                  [AV.int IntKind.i64 (Prod.fst (List.getD l (Int.toNat i) T.noEv)),
                                    AV.sl 2 (Seq.map T.encN ([], []) (Prod.fst (Prod.snd (List.getD l (Int.toNat i) T.noEv)))) Tip.none,
                                    AV.int IntKind.i64 (Prod.fst (Prod.snd (Prod.snd (List.getD l (Int.toNat i) T.noEv)))),
                                    AV.int IntKind.i64 (Prod.fst (Prod.snd (Prod.snd (Prod.snd (List.getD l (Int.toNat i) T.noEv))))),
                                    AV.sl 1 (Seq.map encB (0 : UInt8) (Prod.snd (Prod.snd (Prod.snd (Prod.snd (List.getD l (Int.toNat i) T.noEv)))))) Tip.none]] =
                              [AObj.cells
                                  [AV.int IntKind.i64 (Prod.fst (List.getD l (Int.toNat i) T.noEv)),
                                    AV.sl 2 (Seq.map T.encN ([], []) (Prod.fst (Prod.snd (List.getD l (Int.toNat i) T.noEv)))) Tip.none,
                                    AV.int IntKind.i64 (Prod.fst (Prod.snd (Prod.snd (List.getD l (Int.toNat i) T.noEv)))),
                                    AV.int IntKind.i64 (Prod.fst (Prod.snd (Prod.snd (Prod.snd (List.getD l (Int.toNat i) T.noEv))))),
                                    AV.sl 1 (Seq.map encB (0 : UInt8) (Prod.snd (Prod.snd (Prod.snd (Prod.snd (List.getD l (Int.toNat i) T.noEv)))))) Tip.none]]) ∧
                          False))
      (Post (AV.sl 1 (Seq.map encB (0 : UInt8) b) Tip.none) []) →
    AWP Try.prog 36 n_1 c111_5
      [(3, AV.sl 1 (Seq.map encB (0 : UInt8) b) Tip.none), (17, AV.sl 5 (Seq.map T.encE T.noEv l) Tip.none), (18, AV.int IntKind.i64 n),
        (19, AV.int IntKind.i64 i)]
      [] (q111_2 n_1 Post) := fun b l n i n Post h => Go.Ab.AWP.loop' g111 (Cfg.live g111) c111_5 (by kernel_rfl) (by kernel_rfl) (Go.Ab.kc (by kernel_rfl) h)

-- 47
noncomputable def l47 : Nat → List Nat
  | _ => []
noncomputable def u47 : Nat → Bool
  | _ => false
noncomputable def m47 : Nat → Bool
  | _ => false
noncomputable def g47 : Cfg := { N := 6, live := l47, cut := u47, mu := m47, ret := rets }
noncomputable def c47 : Go.Code := Go.Ab.bodyOf Go.Proofs.Try.f47
theorem s47 : ∀ (Post : AV → List AObj → Prop),
  (ASpec Try.prog 111
      [AV.sl 5
          (Seq.raw [[AV.int IntKind.i64 (2 : Int), AV.sl 0 (Seq.raw []) Tip.nil, AV.int IntKind.i64 (0 : Int), AV.int IntKind.i64 (0 : Int), AV.sl 0 (Seq.raw []) Tip.nil]]) Tip.full]
      [] fun (r : AV) (H' : List AObj) =>
      ∃ (x : List UInt8),
        r = AV.sl 1 (Seq.map encB (0 : UInt8) x) Tip.none ∧
          H' = [] ∧
            needP (allBytes (Seq.map encB (0 : UInt8) x)) (Post (AV.bool (ByteArray.toList (bytesOf (Seq.map encB (0 : UInt8) x)) == ByteArray.toList { data := #[(1 : UInt8), (2 : UInt8)] })) [])) →
    ASpec Try.prog 47 [] [] Post := fun Post h => Go.Ab.ASpec.of_vc g47 Go.Proofs.Try.func47 (by kernel_rfl) (by kernel_rfl) (by kernel_rfl) (Go.Ab.kc (by kernel_rfl) h)

-- 11
noncomputable def l11 : Nat → List Nat
  | _ => []
noncomputable def u11 : Nat → Bool
  | _ => false
noncomputable def m11 : Nat → Bool
  | _ => false
noncomputable def g11 : Cfg := { N := 27, live := l11, cut := u11, mu := m11, ret := rets }
noncomputable def c11 : Go.Code := Go.Ab.bodyOf Go.Proofs.Try.f11
theorem s11 : ∀ (a b : T.Ev) (Post : AV → List AObj → Prop),
  (ASpec Try.prog 46
      [AV.sl 5
          (Seq.raw
            [[AV.int IntKind.i64 (Prod.fst a), AV.sl 2 (Seq.map T.encN ([], []) (Prod.fst (Prod.snd a))) Tip.none, AV.int IntKind.i64 (Prod.fst (Prod.snd (Prod.snd a))),
                AV.int IntKind.i64 (Prod.fst (Prod.snd (Prod.snd (Prod.snd a)))), AV.sl 1 (Seq.map encB (0 : UInt8) (Prod.snd (Prod.snd (Prod.snd (Prod.snd a))))) Tip.none],
              [AV.int IntKind.i64 (Prod.fst b), AV.sl 2 (Seq.map T.encN ([], []) (Prod.fst (Prod.snd b))) Tip.none, AV.int IntKind.i64 (Prod.fst (Prod.snd (Prod.snd b))),
                AV.int IntKind.i64 (Prod.fst (Prod.snd (Prod.snd (Prod.snd b)))), AV.sl 1 (Seq.map encB (0 : UInt8) (Prod.snd (Prod.snd (Prod.snd (Prod.snd b))))) Tip.none]])
          Tip.full]
      [AObj.cells
          [AV.int IntKind.i64 (Prod.fst a), AV.sl 2 (Seq.map T.encN ([], []) (Prod.fst (Prod.snd a))) Tip.none, AV.int IntKind.i64 (Prod.fst (Prod.snd (Prod.snd a))),
            AV.int IntKind.i64 (Prod.fst (Prod.snd (Prod.snd (Prod.snd a)))), AV.sl 1 (Seq.map encB (0 : UInt8) (Prod.snd (Prod.snd (Prod.snd (Prod.snd a))))) Tip.none],
        AObj.cells
          [AV.int IntKind.i64 (Prod.fst b), AV.sl 2 (Seq.map T.encN ([], []) (Prod.fst (Prod.snd b))) Tip.none, AV.int IntKind.i64 (Prod.fst (Prod.snd (Prod.snd b))),
            AV.int IntKind.i64 (Prod.fst (Prod.snd (Prod.snd (Prod.snd b)))), AV.sl 1 (Seq.map encB (0 : UInt8) (Prod.snd (Prod.snd (Prod.snd (Prod.snd b))))) Tip.none]]
      fun (r : AV) (H' : List AObj) =>
      ∃ (x : Bool),
        r = AV.bool x ∧
          H' =
              [AObj.cells
                  [AV.int IntKind.i64 (Prod.fst a), AV.sl 2 (Seq.map T.encN ([], []) (Prod.fst (Prod.snd a))) Tip.none, AV.int IntKind.i64 (Prod.fst (Prod.snd (Prod.snd a))),
                    AV.int IntKind.i64 (Prod.fst (Prod.snd (Prod.snd (Prod.snd a)))), AV.sl 1 (Seq.map encB (0 : UInt8) (Prod.snd (Prod.snd (Prod.snd (Prod.snd a))))) Tip.none],
                AObj.cells
                  [AV.int IntKind.i64 (Prod.fst b), AV.sl 2 (Seq.map T.encN ([], []) (Prod.fst (Prod.snd b))) Tip.none, AV.int IntKind.i64 (Prod.fst (Prod.snd (Prod.snd b))),
                    AV.int IntKind.i64 (Prod.fst (Prod.snd (Prod.snd (Prod.snd b)))), AV.sl 1 (Seq.map encB (0 : UInt8) (Prod.snd (Prod.snd (Prod.snd (Prod.snd b))))) Tip.none]] ∧
            condP x
              (ASpec Try.prog 47 []
                [AObj.cells
                    [AV.int IntKind.i64 (Prod.fst a), AV.sl 2 (Seq.map T.encN ([], []) (Prod.fst (Prod.snd a))) Tip.none, AV.int IntKind.i64 (Prod.fst (Prod.snd (Prod.snd a))),
                      AV.int IntKind.i64 (Prod.fst (Prod.snd (Prod.snd (Prod.snd a)))), AV.sl 1 (Seq.map encB (0 : UInt8) (Prod.snd (Prod.snd (Prod.snd (Prod.snd a))))) Tip.none],
                  AObj.cells
                    [AV.int IntKind.i64 (Prod.fst b), AV.sl 2 (Seq.map T.encN ([], []) (Prod.fst (Prod.snd b))) Tip.none, AV.int IntKind.i64 (Prod.fst (Prod.snd (Prod.snd b))),
                      AV.int IntKind.i64 (Prod.fst (Prod.snd (Prod.snd (Prod.snd b)))), AV.sl 1 (Seq.map encB (0 : UInt8) (Prod.snd (Prod.snd (Prod.snd (Prod.snd b))))) Tip.none]]
                fun (r : AV) (H' : List AObj) =>
                ∃ (x : Unit),
                  r = AV.bool true ∧
                    H' =
                        [AObj.cells
                            [AV.int IntKind.i64 (Prod.fst a), AV.sl 2 (Seq.map T.encN ([], []) (Prod.fst (Prod.snd a))) Tip.none, AV.int IntKind.i64 (Prod.fst (Prod.snd (Prod.snd a))),
                              AV.int IntKind.i64 (Prod.fst (Prod.snd (Prod.snd (Prod.snd a)))), AV.sl 1 (Seq.map encB (0 : UInt8) (Prod.snd (Prod.snd (Prod.snd (Prod.snd a))))) Tip.none],
                          AObj.cells
                            [AV.int IntKind.i64 (Prod.fst b), AV.sl 2 (Seq.map T.encN ([], []) (Prod.fst (Prod.snd b))) Tip.none, AV.int IntKind.i64 (Prod.fst (Prod.snd (Prod.snd b))),
                              AV.int IntKind.i64 (Prod.fst (Prod.snd (Prod.snd (Prod.snd b)))), AV.sl 1 (Seq.map encB (0 : UInt8) (Prod.snd (Prod.snd (Prod.snd (Prod.snd b))))) Tip.none]] ∧
                      Post (AV.bool true)
                        [AObj.cells
                            [AV.int IntKind.i64 (Prod.fst a), AV.sl 2 (Seq.map T.encN ([], []) (Prod.fst (Prod.snd a))) Tip.none, AV.int IntKind.i64 (Prod.fst (Prod.snd (Prod.snd a))),
                              AV.int IntKind.i64 (Prod.fst (Prod.snd (Prod.snd (Prod.snd a)))), AV.sl 1 (Seq.map encB (0 : UInt8) (Prod.snd (Prod.snd (Prod.snd (Prod.snd a))))) Tip.none],
                          AObj.cells
                            [AV.int IntKind.i64 (Prod.fst b), AV.sl 2 (Seq.map T.encN ([], []) (Prod.fst (Prod.snd b))) Tip.none, AV.int IntKind.i64 (Prod.fst (Prod.snd (Prod.snd b))),
                              AV.int IntKind.i64 (Prod.fst (Prod.snd (Prod.snd (Prod.snd b)))), AV.sl 1 (Seq.map encB (0 : UInt8) (Prod.snd (Prod.snd (Prod.snd (Prod.snd b))))) Tip.none]])
              (ASpec Try.prog 48
                [AV.agg
                    [AV.int IntKind.i64 (Prod.fst a), AV.sl 2 (Seq.map T.encN ([], []) (Prod.fst (Prod.snd a))) Tip.none, AV.int IntKind.i64 (Prod.fst (Prod.snd (Prod.snd a))),
                      AV.int IntKind.i64 (Prod.fst (Prod.snd (Prod.snd (Prod.snd a)))), AV.sl 1 (Seq.map encB (0 : UInt8) (Prod.snd (Prod.snd (Prod.snd (Prod.snd a))))) Tip.none]]
                [AObj.cells
                    [AV.int IntKind.i64 (Prod.fst a), AV.sl 2 (Seq.map T.encN ([], []) (Prod.fst (Prod.snd a))) Tip.none, AV.int IntKind.i64 (Prod.fst (Prod.snd (Prod.snd a))),
                      AV.int IntKind.i64 (Prod.fst (Prod.snd (Prod.snd (Prod.snd a)))), AV.sl 1 (Seq.map encB (0 : UInt8) (Prod.snd (Prod.snd (Prod.snd (Prod.snd a))))) Tip.none],
                  AObj.cells
                    [AV.int IntKind.i64 (Prod.fst b), AV.sl 2 (Seq.map T.encN ([], []) (Prod.fst (Prod.snd b))) Tip.none, AV.int IntKind.i64 (Prod.fst (Prod.snd (Prod.snd b))),
                      AV.int IntKind.i64 (Prod.fst (Prod.snd (Prod.snd (Prod.snd b)))), AV.sl 1 (Seq.map encB (0 : UInt8) (Prod.snd (Prod.snd (Prod.snd (Prod.snd b))))) Tip.none]]
                fun (r : AV) (H' : List AObj) =>
                ∃ (x : Bool),
                  r = AV.bool x ∧
                    H' =
                        [AObj.cells
                            [AV.int IntKind.i64 (Prod.fst a), AV.sl 2 (Seq.map T.encN ([], []) (Prod.fst (Prod.snd a))) Tip.none, AV.int IntKind.i64 (Prod.fst (Prod.snd (Prod.snd a))),
                              AV.int IntKind.i64 (Prod.fst (Prod.snd (Prod.snd (Prod.snd a)))), AV.sl 1 (Seq.map encB (0 : UInt8) (Prod.snd (Prod.snd (Prod.snd (Prod.snd a))))) Tip.none],
                          AObj.cells
                            [AV.int IntKind.i64 (Prod.fst b), AV.sl 2 (Seq.map T.encN ([], []) (Prod.fst (Prod.snd b))) Tip.none, AV.int IntKind.i64 (Prod.fst (Prod.snd (Prod.snd b))),
                              AV.int IntKind.i64 (Prod.fst (Prod.snd (Prod.snd (Prod.snd b)))), AV.sl 1 (Seq.map encB (0 : UInt8) (Prod.snd (Prod.snd (Prod.snd (Prod.snd b))))) Tip.none]] ∧
                      (AV.agg
                              [AV.int IntKind.i64 (Prod.fst a), AV.sl 2 (Seq.map T.encN ([], []) (Prod.fst (Prod.snd a))) Tip.none, AV.int IntKind.i64 (Prod.fst (Prod.snd (Prod.snd a))),
                                AV.int IntKind.i64 (Prod.fst (Prod.snd (Prod.snd (Prod.snd a)))), AV.sl 1 (Seq.map encB (0 : UInt8) (Prod.snd (Prod.snd (Prod.snd (Prod.snd a))))) Tip.none] =
                            AV.agg
                              [AV.int IntKind.i64 (Prod.fst a), AV.sl 2 (Seq.map T.encN ([], []) (Prod.fst (Prod.snd a))) Tip.none, AV.int IntKind.i64 (Prod.fst (Prod.snd (Prod.snd a))),
                                AV.int IntKind.i64 (Prod.fst (Prod.snd (Prod.snd (Prod.snd a)))), AV.sl 1 (Seq.map encB (0 : UInt8) (Prod.snd (Prod.snd (Prod.snd (Prod.snd a))))) Tip.none] ∧
                          [AObj.cells
                                [AV.int IntKind.i64 (Prod.fst a), AV.sl 2 (Seq.map T.encN ([], []) (Prod.fst (Prod.snd a))) Tip.none, AV.int IntKind.i64 (Prod.fst (Prod.snd (Prod.snd a))),
                                  AV.int IntKind.i64 (Prod.fst (Prod.snd (Prod.snd (Prod.snd a)))), AV.sl 1 (Seq.map encB (0 : UInt8) (Prod.snd (Prod.snd (Prod.snd (Prod.snd a))))) Tip.none],
                              AObj.cells
                                [AV.int IntKind.i64 (Prod.fst b), AV.sl 2 (Seq.map T.encN ([], []) (Prod.fst (Prod.snd b))) Tip.none, AV.int IntKind.i64 (Prod.fst (Prod.snd (Prod.snd b))),
                                  AV.int IntKind.i64 (Prod.fst (Prod.snd (Prod.snd (Prod.snd b)))),
                                  AV.sl 1 (Seq.map encB (0 : UInt8) (Prod.snd (Prod.snd (Prod.snd (Prod.snd b))))) Tip.none]] =
                            [AObj.cells
                                [AV.int IntKind.i64 (Prod.fst a), AV.sl 2 (Seq.map T.encN ([], []) (Prod.fst (Prod.snd a))) Tip.none, AV.int IntKind.i64 (Prod.fst (Prod.snd (Prod.snd a))),
                                  AV.int IntKind.i64 (Prod.fst (Prod.snd (Prod.snd (Prod.snd a)))), AV.sl 1 (Seq.map encB (0 : UInt8) (Prod.snd (Prod.snd (Prod.snd (Prod.snd a))))) Tip.none],
                              AObj.cells
                                [AV.int IntKind.i64 (Prod.fst b), AV.sl 2 (Seq.map T.encN ([], []) (Prod.fst (Prod.snd b))) Tip.none, AV.int IntKind.i64 (Prod.fst (Prod.snd (Prod.snd b))),
                                  AV.int IntKind.i64 (Prod.fst (Prod.snd (Prod.snd (Prod.snd b)))),
                                  AV.sl 1 (Seq.map encB (0 : UInt8) (Prod.snd (Prod.snd (Prod.snd (Prod.snd b))))) Tip.none]]) ∧
                        ASpec Try.prog 49
                          [AV.agg
                              [AV.int IntKind.i64 (Prod.fst a), AV.sl 2 (Seq.map T.encN ([], []) (Prod.fst (Prod.snd a))) Tip.none, AV.int IntKind.i64 (Prod.fst (Prod.snd (Prod.snd a))),
                                AV.int IntKind.i64 (Prod.fst (Prod.snd (Prod.snd (Prod.snd a)))), AV.sl 1 (Seq.map encB (0 : UInt8) (Prod.snd (Prod.snd (Prod.snd (Prod.snd a))))) Tip.none]]
                          [AObj.cells
                              [AV.int IntKind.i64 (Prod.fst a), AV.sl 2 (Seq.map T.encN ([], []) (Prod.fst (Prod.snd a))) Tip.none, AV.int IntKind.i64 (Prod.fst (Prod.snd (Prod.snd a))),
                                AV.int IntKind.i64 (Prod.fst (Prod.snd (Prod.snd (Prod.snd a)))), AV.sl 1 (Seq.map encB (0 : UInt8) (Prod.snd (Prod.snd (Prod.snd (Prod.snd a))))) Tip.none],
                            AObj.cells
                              [AV.int IntKind.i64 (Prod.fst b), AV.sl 2 (Seq.map T.encN ([], []) (Prod.fst (Prod.snd b))) Tip.none, AV.int IntKind.i64 (Prod.fst (Prod.snd (Prod.snd b))),
                                AV.int IntKind.i64 (Prod.fst (Prod.snd (Prod.snd (Prod.snd b)))), AV.sl 1 (Seq.map encB (0 : UInt8) (Prod.snd (Prod.snd (Prod.snd (Prod.snd b))))) Tip.none]]
                          fun (r : AV) (H' : List AObj) =>
                          ∃ (x_1 : Bool),
                            r = AV.bool x_1 ∧
                              H' =
                                  [AObj.cells
                                      [AV.int IntKind.i64 (Prod.fst a), AV.sl 2 (Seq.map T.encN ([], []) (Prod.fst (Prod.snd a))) Tip.none,
                                        AV.int IntKind.i64 (Prod.fst (Prod.snd (Prod.snd a))), AV.int IntKind.i64 (Prod.fst (Prod.snd (Prod.snd (Prod.snd a)))),
                                        AV.sl 1 (Seq.map encB (0 : UInt8) (Prod.snd (Prod.snd (Prod.snd (Prod.snd a))))) Tip.none],
                                    AObj.cells
                                      [AV.int IntKind.i64 (Prod.fst b), AV.sl 2 (Seq.map T.encN ([], []) (Prod.fst (Prod.snd b))) Tip.none,
                                        AV.int IntKind.i64 (Prod.fst (Prod.snd (Prod.snd b))), AV.int IntKind.i64 (Prod.fst (Prod.snd (Prod.snd (Prod.snd b)))),
                                        AV.sl 1 (Seq.map encB (0 : UInt8) (Prod.snd (Prod.snd (Prod.snd (Prod.snd b))))) Tip.none]] ∧
                                condP (x == x_1)
                                  (ASpec Try.prog 50
                                    [AV.agg
                                        [AV.int IntKind.i64 (Prod.fst a), AV.sl 2 (Seq.map T.encN ([], []) (Prod.fst (Prod.snd a))) Tip.none,
                                          AV.int IntKind.i64 (Prod.fst (Prod.snd (Prod.snd a))), AV.int IntKind.i64 (Prod.fst (Prod.snd (Prod.snd (Prod.snd a)))),
                                          AV.sl 1 (Seq.map encB (0 : UInt8) (Prod.snd (Prod.snd (Prod.snd (Prod.snd a))))) Tip.none],
                                      AV.agg
                                        [AV.int IntKind.i64 (Prod.fst b), AV.sl 2 (Seq.map T.encN ([], []) (Prod.fst (Prod.snd b))) Tip.none,
                                          AV.int IntKind.i64 (Prod.fst (Prod.snd (Prod.snd b))), AV.int IntKind.i64 (Prod.fst (Prod.snd (Prod.snd (Prod.snd b)))),
                                          AV.sl 1 (Seq.map encB (0 : UInt8) (Prod.snd (Prod.snd (Prod.snd (Prod.snd b))))) Tip.none]]
                                    [AObj.cells
                                        [AV.int IntKind.i64 (Prod.fst a), AV.sl 2 (Seq.map T.encN ([], []) (Prod.fst (Prod.snd a))) Tip.none,
                                          AV.int IntKind.i64 (Prod.fst (Prod.snd (Prod.snd a))), AV.int IntKind.i64 (Prod.fst (Prod.snd (Prod.snd (Prod.snd a)))),
                                          AV.sl 1 (Seq.map encB (0 : UInt8) (Prod.snd (Prod.snd (Prod.snd (Prod.snd a))))) Tip.none],
                                      AObj.cells
                                        [AV.int IntKind.i64 (Prod.fst b), AV.sl 2 (Seq.map T.encN ([], []) (Prod.fst (Prod.snd b))) Tip.none,
                                          AV.int IntKind.i64 (Prod.fst (Prod.snd (Prod.snd b))), AV.int IntKind.i64 (Prod.fst (Prod.snd (Prod.snd (Prod.snd b)))),
                                          AV.sl 1 (Seq.map encB (0 : UInt8) (Prod.snd (Prod.snd (Prod.snd (Prod.snd b))))) Tip.none]]
                                    fun (r : AV) (H' : List AObj) =>
                                    ∃ (x : Bool),
                                      r = AV.bool x ∧
                                        H' =
                                            [AObj.cells
                                                [AV.int IntKind.i64 (Prod.fst a), AV.sl 2 (Seq.map T.encN ([], []) (Prod.fst (Prod.snd a))) Tip.none,
                                                  AV.int IntKind.i64 (Prod.fst (Prod.snd (Prod.snd a))), AV.int IntKind.i64 (Prod.fst (Prod.snd (Prod.snd (Prod.snd a)))),
                                                  AV.sl 1 (Seq.map encB (0 : UInt8) (Prod.snd (Prod.snd (Prod.snd (Prod.snd a))))) Tip.none],
                                              AObj.cells
                                                [AV.int IntKind.i64 (Prod.fst b), AV.sl 2 (Seq.map T.encN ([], []) (Prod.fst (Prod.snd b))) Tip.none,
                                                  AV.int IntKind.i64 (Prod.fst (Prod.snd (Prod.snd b))), AV.int IntKind.i64 (Prod.fst (Prod.snd (Prod.snd (Prod.snd b)))),
                                                  AV.sl 1 (Seq.map encB (0 : UInt8) (Prod.snd (Prod.snd (Prod.snd (Prod.snd b))))) Tip.none]] ∧
                                          (AV.agg
                                                  [AV.int IntKind.i64 (Prod.fst b), AV.sl 2 (Seq.map T.encN ([], []) (Prod.fst (Prod.snd b))) Tip.none,
                                                    AV.int IntKind.i64 (Prod.fst (Prod.snd (Prod.snd b))), AV.int IntKind.i64 (Prod.fst (Prod.snd (Prod.snd (Prod.snd b)))),
                                                    AV.sl 1 (Seq.map encB (0 : UInt8) (Prod.snd (Prod.snd (Prod.snd (Prod.snd b))))) Tip.none] =
                                                AV.agg
                                                  [AV.int IntKind.i64 (Prod.fst b), AV.sl 2 (Seq.map T.encN ([], []) (Prod.fst (Prod.snd b))) Tip.none,
                                                    AV.int IntKind.i64 (Prod.fst (Prod.snd (Prod.snd b))), AV.int IntKind.i64 (Prod.fst (Prod.snd (Prod.snd (Prod.snd b)))),
                                                    AV.sl 1 (Seq.map encB (0 : UInt8) (Prod.snd (Prod.snd (Prod.snd (Prod.snd b))))) Tip.none] ∧
                                              [AObj.cells
                                                    [AV.int IntKind.i64 (Prod.fst a), AV.sl 2 (Seq.map T.encN ([], []) (Prod.fst (Prod.snd a))) Tip.none,
                                                      AV.int IntKind.i64 (Prod.fst (Prod.snd (Prod.snd a))), AV.int IntKind.i64 (Prod.fst (Prod.snd (Prod.snd (Prod.snd a)))),
                                                      AV.sl 1 (Seq.map encB (0 : UInt8) (Prod.snd (Prod.snd (Prod.snd (Prod.snd a))))) Tip.none],
                                                  AObj.cells
                                                    [AV.int IntKind.i64 (Prod.fst b), AV.sl 2 (Seq.map T.encN ([], []) (Prod.fst (Prod.snd b))) Tip.none,
                                                      AV.int IntKind.i64 (Prod.fst (Prod.snd (Prod.snd b))), AV.int IntKind.i64 (Prod.fst (Prod.snd (Prod.snd (Prod.snd b)))),
                                                      AV.sl 1 (Seq.map encB (0 : UInt8) (Prod.snd (Prod.snd (Prod.snd (Prod.snd b))))) Tip.none]] =
                                                [AObj.cells
                                                    [AV.int IntKind.i64 (Prod.fst a), AV.sl 2 (Seq.map T.encN ([], []) (Prod.fst (Prod.snd a))) Tip.none,
                                                      AV.int IntKind.i64 (Prod.fst (Prod.snd (Prod.snd a))), AV.int IntKind.i64 (Prod.fst (Prod.snd (Prod.snd (Prod.snd a)))),
                                                      AV.sl 1 (Seq.map encB (0 : UInt8) (Prod.snd (Prod.snd (Prod.snd (Prod.snd a))))) Tip.none],
                                                  AObj.cells
                                                    [AV.int IntKind.i64 (Prod.fst b), AV.sl 2 (Seq.map T.encN ([], []) (Prod.fst (Prod.snd b))) Tip.none,
                                                      AV.int IntKind.i64 (Prod.fst (Prod.snd (Prod.snd b))), AV.int IntKind.i64 (Prod.fst (Prod.snd (Prod.snd (Prod.snd b)))),
                                                      AV.sl 1 (Seq.map encB (0 : UInt8) (Prod.snd (Prod.snd (Prod.snd (Prod.snd b))))) Tip.none]]) ∧
                                            (AV.agg
                                                    [AV.int IntKind.i64 (Prod.fst a), AV.sl 2 (Seq.map T.encN ([], []) (Prod.fst (Prod.snd a))) Tip.none,
                                                      AV.int IntKind.i64 (Prod.fst (Prod.snd (Prod.snd a))), AV.int IntKind.i64 (Prod.fst (Prod.snd (Prod.snd (Prod.snd a)))),
                                                      AV.sl 1 (Seq.map encB (0 : UInt8) (Prod.snd (Prod.snd (Prod.snd (Prod.snd a))))) Tip.none] =
                                                  AV.agg
                                                    [AV.int IntKind.i64 (Prod.fst a), AV.sl 2 (Seq.map T.encN ([], []) (Prod.fst (Prod.snd a))) Tip.none,
                                                      AV.int IntKind.i64 (Prod.fst (Prod.snd (Prod.snd a))), AV.int IntKind.i64 (Prod.fst (Prod.snd (Prod.snd (Prod.snd a)))),
                                                      AV.sl 1 (Seq.map encB (0 : UInt8) (Prod.snd (Prod.snd (Prod.snd (Prod.snd a))))) Tip.none] ∧
                                                [AObj.cells
                                                      [AV.int IntKind.i64 (Prod.fst a), AV.sl 2 (Seq.map T.encN ([], []) (Prod.fst (Prod.snd a))) Tip.none,
                                                        AV.int IntKind.i64 (Prod.fst (Prod.snd (Prod.snd a))), AV.int IntKind.i64 (Prod.fst (Prod.snd (Prod.snd (Prod.snd a)))),
                                                        AV.sl 1 (Seq.map encB (0 : UInt8) (Prod.snd (Prod.snd (Prod.snd (Prod.snd a))))) Tip.none],
                                                    AObj.cells
                                                      [AV.int IntKind.i64 (Prod.fst b), AV.sl 2 (Seq.map T.encN ([], []) (Prod.fst (Prod.snd b))) Tip.none,
                                                        AV.int IntKind.i64 (Prod.fst (Prod.snd (Prod.snd b))), AV.int IntKind.i64 (Prod.fst (Prod.snd (Prod.snd (Prod.snd b)))),
                                                        AV.sl 1 (Seq.map encB (0 : UInt8) (Prod.snd (Prod.snd (Prod.snd (Prod.snd b))))) Tip.none]] =
                                                  [AObj.cells
                                                      [AV.int IntKind.i64 (Prod.fst a), AV.sl 2 (Seq.map T.encN ([], []) (Prod.fst (Prod.snd a))) Tip.none,
                                                        AV.int IntKind.i64 (Prod.fst (Prod.snd (Prod.snd a))), AV.int IntKind.i64 (Prod.fst (Prod.snd (Prod.snd (Prod.snd a)))),
                                                        AV.sl 1 (Seq.map encB (0 : UInt8) (Prod.snd (Prod.snd (Prod.snd (Prod.snd a))))) Tip.none],
                                                    AObj.cells
                                                      [AV.int IntKind.i64 (Prod.fst b), AV.sl 2 (Seq.map T.encN ([], []) (Prod.fst (Prod.snd b))) Tip.none,
                                                        AV.int IntKind.i64 (Prod.fst (Prod.snd (Prod.snd b))), AV.int IntKind.i64 (Prod.fst (Prod.snd (Prod.snd (Prod.snd b)))),
                                                        AV.sl 1 (Seq.map encB (0 : UInt8) (Prod.snd (Prod.snd (Prod.snd (Prod.snd b))))) Tip.none]]) ∧
                                              ASpec Try.prog 51
                                                [AV.agg
                                                    [AV.int IntKind.i64 (Prod.fst a), AV.sl 2 (Seq.map T.encN ([], []) (Prod.fst (Prod.snd a))) Tip.none,
                                                      AV.int IntKind.i64 (Prod.fst (Prod.snd (Prod.snd a))), AV.int IntKind.i64 (Prod.fst (Prod.snd (Prod.snd (Prod.snd a)))),
                                                      AV.sl 1 (Seq.map encB (0 : UInt8) (Prod.snd (Prod.snd (Prod.snd (Prod.snd a))))) Tip.none],
                                                  AV.agg
                                                    [AV.int IntKind.i64 (Prod.fst b), AV.sl 2 (Seq.map T.encN ([], []) (Prod.fst (Prod.snd b))) Tip.none,
                                                      AV.int IntKind.i64 (Prod.fst (Prod.snd (Prod.snd b))), AV.int IntKind.i64 (Prod.fst (Prod.snd (Prod.snd (Prod.snd b)))),
                                                      AV.sl 1 (Seq.map encB (0 : UInt8) (Prod.snd (Prod.snd (Prod.snd (Prod.snd b))))) Tip.none]]
                                                [AObj.cells
                                                    [AV.int IntKind.i64 (Prod.fst a), AV.sl 2 (Seq.map T.encN ([], []) (Prod.fst (Prod.snd a))) Tip.none,
                                                      AV.int IntKind.i64 (Prod.fst (Prod.snd (Prod.snd a))), AV.int IntKind.i64 (Prod.fst (Prod.snd (Prod.snd (Prod.snd a)))),
                                                      AV.sl 1 (Seq.map encB (0 : UInt8) (Prod.snd (Prod.snd (Prod.snd (Prod.snd a))))) Tip.none],
                                                  AObj.cells
                                                    [AV.int IntKind.i64 (Prod.fst b), AV.sl 2 (Seq.map T.encN ([], []) (Prod.fst (Prod.snd b))) Tip.none,
                                                      AV.int IntKind.i64 (Prod.fst (Prod.snd (Prod.snd b))), AV.int IntKind.i64 (Prod.fst (Prod.snd (Prod.snd (Prod.snd b)))),
                                                      AV.sl 1 (Seq.map encB (0 : UInt8) (Prod.snd (Prod.snd (Prod.snd (Prod.snd b))))) Tip.none]]
                                                fun (r : AV) (H' : List AObj) =>
                                                ∃ (x_2 : Bool),
                                                  r = AV.bool x_2 ∧
                                                    H' =
                                                        [AObj.cells
                                                            [AV.int IntKind.i64 (Prod.fst a), AV.sl 2 (Seq.map T.encN ([], []) (Prod.fst (Prod.snd a))) Tip.none,
                                                              AV.int IntKind.i64 (Prod.fst (Prod.snd (Prod.snd a))), AV.int IntKind.i64 (Prod.fst (Prod.snd (Prod.snd (Prod.snd a)))),
                                                              AV.sl 1 (Seq.map encB (0 : UInt8) (Prod.snd (Prod.snd (Prod.snd (Prod.snd a))))) Tip.none],
                                                          AObj.cells
                                                            [AV.int IntKind.i64 (Prod.fst b), AV.sl 2 (Seq.map T.encN ([], []) (Prod.fst (Prod.snd b))) Tip.none,
                                                              AV.int IntKind.i64 (Prod.fst (Prod.snd (Prod.snd b))), AV.int IntKind.i64 (Prod.fst (Prod.snd (Prod.snd (Prod.snd b)))),
                                                              AV.sl 1 (Seq.map encB (0 : UInt8) (Prod.snd (Prod.snd (Prod.snd (Prod.snd b))))) Tip.none]] ∧
                                                      condP (x == x_2)
                                                        (ASpec Try.prog 47 []
                                                          [AObj.cells
                                                              [AV.int IntKind.i64 (Prod.fst a), AV.sl 2 (Seq.map T.encN ([], []) (Prod.fst (Prod.snd a))) Tip.none,
                                                                AV.int IntKind.i64 (Prod.fst (Prod.snd (Prod.snd a))), AV.int IntKind.i64 (Prod.fst (Prod.snd (Prod.snd (Prod.snd a)))),
                                                                AV.sl 1 (Seq.map encB (0 : UInt8) (Prod.snd (Prod.snd (Prod.snd (Prod.snd a))))) Tip.none],
                                                            AObj.cells
                                                              [AV.int IntKind.i64 (Prod.fst b), AV.sl 2 (Seq.map T.encN ([], []) (Prod.fst (Prod.snd b))) Tip.none,
                                                                AV.int IntKind.i64 (Prod.fst (Prod.snd (Prod.snd b))), AV.int IntKind.i64 (Prod.fst (Prod.snd (Prod.snd (Prod.snd b)))),
                                                                AV.sl 1 (Seq.map encB (0 : UInt8) (Prod.snd (Prod.snd (Prod.snd (Prod.snd b))))) Tip.none]]
                                                          fun (r : AV) (H' : List AObj) =>
                                                          ∃ (x : Unit),
                                                            r = AV.bool true ∧
                                                              H' =
                                                                  [AObj.cells
                                                                      [AV.int IntKind.i64 (Prod.fst a), AV.sl 2 (Seq.map T.encN ([], []) (Prod.fst (Prod.snd a))) Tip.none,
                                                                        AV.int IntKind.i64 (Prod.fst (Prod.snd (Prod.snd a))), AV.int IntKind.i64 (Prod.fst (Prod.snd (Prod.snd (Prod.snd a)))),
                                                                        AV.sl 1 (Seq.map encB (0 : UInt8) (Prod.snd (Prod.snd (Prod.snd (Prod.snd a))))) Tip.none],
                                                                    AObj.cells
                                                                      [AV.int IntKind.i64 (Prod.fst b), AV.sl 2 (Seq.map T.encN ([], []) (Prod.fst (Prod.snd b))) Tip.none,
                                                                        AV.int IntKind.i64 (Prod.fst (Prod.snd (Prod.snd b))), AV.int IntKind.i64 (Prod.fst (Prod.snd (Prod.snd (Prod.snd b)))),
                                                                        AV.sl 1 (Seq.map encB (0 : UInt8) (Prod.snd (Prod.snd (Prod.snd (Prod.snd b))))) Tip.none]] ∧
                                                                Post (AV.bool true)
                                                                  [AObj.cells
                                                                      [AV.int IntKind.i64 (Prod.fst a), AV.sl 2 (Seq.map T.encN ([], []) (Prod.fst (Prod.snd a))) Tip.none,
                                                                        AV.int IntKind.i64 (Prod.fst (Prod.snd (Prod.snd a))), AV.int IntKind.i64 (Prod.fst (Prod.snd (Prod.snd (Prod.snd a)))),
                                                                        AV.sl 1 (Seq.map encB (0 : UInt8) (Prod.snd (Prod.snd (Prod.snd (Prod.snd a))))) Tip.none],
                                                                    AObj.cells
                                                                      [AV.int IntKind.i64 (Prod.fst b), AV.sl 2 (Seq.map T.encN ([], []) (Prod.fst (Prod.snd b))) Tip.none,
                                                                        AV.int IntKind.i64 (Prod.fst (Prod.snd (Prod.snd b))), AV.int IntKind.i64 (Prod.fst (Prod.snd (Prod.snd (Prod.snd b)))),
                                                                        AV.sl 1 (Seq.map encB (0 : UInt8) (Prod.snd (Prod.snd (Prod.snd (Prod.snd b))))) Tip.none]])
                                                        (Post (AV.bool false)
                                                          [AObj.cells
                                                              [AV.int IntKind.i64 (Prod.fst a), AV.sl 2 (Seq.map T.encN ([], []) (Prod.fst (Prod.snd a))) Tip.none,
                                                                AV.int IntKind.i64 (Prod.fst (Prod.snd (Prod.snd a))), AV.int IntKind.i64 (Prod.fst (Prod.snd (Prod.snd (Prod.snd a)))),
                                                                AV.sl 1 (Seq.map encB (0 : UInt8) (Prod.snd (Prod.snd (Prod.snd (Prod.snd a))))) Tip.none],
                                                            AObj.cells
                                                              [AV.int IntKind.i64 (Prod.fst b), AV.sl 2 (Seq.map T.encN ([], []) (Prod.fst (Prod.snd b))) Tip.none,
                                                                AV.int IntKind.i64 (Prod.fst (Prod.snd (Prod.snd b))), AV.int IntKind.i64 (Prod.fst (Prod.snd (Prod.snd (Prod.snd b)))),
                                                                AV.sl 1 (Seq.map encB (0 : UInt8) (Prod.snd (Prod.snd (Prod.snd (Prod.snd b))))) Tip.none]]))
                                  (AV.tup [] = AV.tup [] ∧
                                    AV.tup [] = AV.tup [] ∧
                                      Post (AV.bool false)
                                        [AObj.cells
                                            [AV.int IntKind.i64 (Prod.fst a), AV.sl 2 (Seq.map T.encN ([], []) (Prod.fst (Prod.snd a))) Tip.none,
                                              AV.int IntKind.i64 (Prod.fst (Prod.snd (Prod.snd a))), AV.int IntKind.i64 (Prod.fst (Prod.snd (Prod.snd (Prod.snd a)))),
                                              AV.sl 1 (Seq.map encB (0 : UInt8) (Prod.snd (Prod.snd (Prod.snd (Prod.snd a))))) Tip.none],
                                          AObj.cells
                                            [AV.int IntKind.i64 (Prod.fst b), AV.sl 2 (Seq.map T.encN ([], []) (Prod.fst (Prod.snd b))) Tip.none,
                                              AV.int IntKind.i64 (Prod.fst (Prod.snd (Prod.snd b))), AV.int IntKind.i64 (Prod.fst (Prod.snd (Prod.snd (Prod.snd b)))),
                                              AV.sl 1 (Seq.map encB (0 : UInt8) (Prod.snd (Prod.snd (Prod.snd (Prod.snd b))))) Tip.none]]))) →
    ASpec Try.prog 11 [AV.agg (T.encE a), AV.agg (T.encE b)] [] Post := fun a b Post h => Go.Ab.ASpec.of_vc g11 Go.Proofs.Try.func11 (by kernel_rfl) (by kernel_rfl) (by kernel_rfl) (Go.Ab.kc (by kernel_rfl) h)

end
end E
