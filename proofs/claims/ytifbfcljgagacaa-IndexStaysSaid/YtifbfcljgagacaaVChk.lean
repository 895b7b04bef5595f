/- Printed: what the code of functions 157, 145, 144, 110, 105, 45, 109, 97, 38, 131, 108, 44 asks for, by the framework's own reading of it; each line is checked against the code. -/
import Derived.Test.YtifbfcljgagacaaProg
import Derived.Test.YtifbfcljgagacaaVTypes
set_option linter.unusedVariables false
set_option maxRecDepth 100000
set_option maxHeartbeats 4000000
open Go Go.Ab Go.Proofs
namespace C
noncomputable section

noncomputable def retC : List (Nat × Ret) := [
  (37, ⟨Bool, fun _ _ x => .bool x, fun _ H _ => H⟩), (38, ⟨Bool, fun _ _ x => .bool x, fun _ H _ => H⟩), (44, ⟨Bool, fun _ _ x => .bool x, fun _ H _ => H⟩), (45, ⟨Bool, fun _ _ x => .bool x, fun _ H _ => H⟩),
  (91, ⟨Bool, fun _ _ x => .bool x, fun _ H _ => H⟩), (97, ⟨Bool, fun _ _ x => .bool x, fun _ H _ => H⟩), (105, ⟨Bool, fun _ _ x => .bool x, fun _ H _ => H⟩), (108, ⟨Bool, fun _ _ x => .bool x, fun _ H _ => H⟩),
  (109, ⟨Bool, fun _ _ x => .bool x, fun _ H _ => H⟩), (110, ⟨Bool, fun _ _ x => .bool x, fun _ H _ => H⟩), (131, ⟨Bool, fun _ _ x => .bool x, fun _ H _ => H⟩), (144, ⟨Bool, fun _ _ x => .bool x, fun _ H _ => H⟩),
  (145, ⟨Bool, fun _ _ x => .bool x, fun _ H _ => H⟩), (157, ⟨Bool, fun _ _ x => .bool x, fun _ H _ => H⟩)]
noncomputable def rets : FuncId → List Ret := lookupR (retC ++ V.retL)

-- 157
noncomputable def l157 : Nat → List Nat
  | 3 => [3, 6, 7, 8]
  | _ => []
noncomputable def u157 : Nat → Bool
  | _ => false
noncomputable def m157 : Nat → Bool
  | _ => false
noncomputable def g157 : Cfg := { N := 31, live := l157, cut := u157, mu := m157, ret := rets }
noncomputable def c157 : Go.Code := Go.Ab.bodyOf Go.Proofs.Try.f157
noncomputable def q157_0 : Nat → (AV → List AObj → Prop) → AQ := fun (n : Nat) (Post : AV → List AObj → Prop) => endQ Try.prog (resultsOf Try.f157) Post
noncomputable def q157_1 : Nat → (AV → List AObj → Prop) → AQ := fun (n : Nat) (Post : AV → List AObj → Prop) => seqQ (fun (s' : Slots) (H' : List AObj) => awp Try.prog g157 n (codeSnd (codeSnd (codeSnd c157))) s' H' (q157_0 n Post)) (q157_0 n Post)
noncomputable def q157_2 : Nat → (AV → List AObj → Prop) → AQ := fun (n : Nat) (Post : AV → List AObj → Prop) => blockQ 0 (q157_1 n Post)
noncomputable def c157_3 : Go.Code := codeFst (codeSnd (codeFst (codeSnd (codeSnd c157))))
theorem s157 : ∀ (l : List T.Span) (Post : AV → List AObj → Prop),
  AWP Try.prog 31 0 c157_3
      [(3, AV.int IntKind.i64 (-1 : Int)), (6, AV.sl 2 (Seq.map T.encS ((0 : Int), (0 : Int)) l) Tip.none), (7, AV.int IntKind.i64 (↑(List.length l) : Int)),
        (8, AV.int IntKind.i64 (0 : Int))]
      [] (q157_2 0 Post) →
    ASpec Try.prog 157 [AV.sl 2 (Seq.map T.encS ((0 : Int), (0 : Int)) l) Tip.none] [] Post := fun l Post h => Go.Ab.ASpec.of_vc g157 Go.Proofs.Try.func157 (by kernel_rfl) (by kernel_rfl) (by kernel_rfl) (Go.Ab.kc (by kernel_rfl) h)
theorem v157_3 : ∀ (l : List T.Span) (e n i : Int) (n_1 : Nat) (Post : AV → List AObj → Prop),
  condP (decide (i < n))
      (needP ((0 : Int) ≤ i ∧ i < (↑(List.length l) : Int))
        (condP (decide (Prod.fst (List.getD l (Int.toNat i) ((0 : Int), (0 : Int))) ≤ e))
          (Post (AV.bool false)
            [AObj.cells [AV.int IntKind.i64 (Prod.fst (List.getD l (Int.toNat i) ((0 : Int), (0 : Int)))), AV.int IntKind.i64 (Prod.snd (List.getD l (Int.toNat i) ((0 : Int), (0 : Int))))]])
          (condP (decide (Prod.fst (List.getD l (Int.toNat i) ((0 : Int), (0 : Int))) ≥ Prod.snd (List.getD l (Int.toNat i) ((0 : Int), (0 : Int)))))
            (Post (AV.bool false)
              [AObj.cells [AV.int IntKind.i64 (Prod.fst (List.getD l (Int.toNat i) ((0 : Int), (0 : Int)))), AV.int IntKind.i64 (Prod.snd (List.getD l (Int.toNat i) ((0 : Int), (0 : Int))))]])
            (condP (decide (Prod.snd (List.getD l (Int.toNat i) ((0 : Int), (0 : Int))) > (1000000000 : Int)))
              (Post (AV.bool false)
                [AObj.cells [AV.int IntKind.i64 (Prod.fst (List.getD l (Int.toNat i) ((0 : Int), (0 : Int)))), AV.int IntKind.i64 (Prod.snd (List.getD l (Int.toNat i) ((0 : Int), (0 : Int))))]])
              (AWP Try.prog 31 n_1 c157_3
                [(3, AV.int IntKind.i64 (Prod.snd (List.getD l (Int.toNat i) ((0 : Int), (0 : Int))))), (6, AV.sl 2 (Seq.map T.encS ((0 : Int), (0 : Int)) l) Tip.none),
                  (7, AV.int IntKind.i64 n), (8, AV.int IntKind.i64 (IntKind.wrap IntKind.i64 (i + (1 : Int))))]
                [AObj.cells [AV.int IntKind.i64 (Prod.fst (List.getD l (Int.toNat i) ((0 : Int), (0 : Int)))), AV.int IntKind.i64 (Prod.snd (List.getD l (Int.toNat i) ((0 : Int), (0 : Int))))]]
                (q157_2 n_1 Post))))))
      (Post (AV.bool true) []) →
    AWP Try.prog 31 n_1 c157_3
      [(3, AV.int IntKind.i64 e), (6, AV.sl 2 (Seq.map T.encS ((0 : Int), (0 : Int)) l) Tip.none), (7, AV.int IntKind.i64 n), (8, AV.int IntKind.i64 i)] []
      (q157_2 n_1 Post) := fun l e n i n Post h => Go.Ab.AWP.loop' g157 (Cfg.live g157) c157_3 (by kernel_rfl) (by kernel_rfl) (Go.Ab.kc (by kernel_rfl) h)

-- 145
noncomputable def l145 : Nat → List Nat
  | 2 => [0, 3]
  | _ => []
noncomputable def u145 : Nat → Bool
  | _ => false
noncomputable def m145 : Nat → Bool
  | _ => false
noncomputable def g145 : Cfg := { N := 55, live := l145, cut := u145, mu := m145, ret := rets }
noncomputable def c145 : Go.Code := Go.Ab.bodyOf Go.Proofs.Try.f145
noncomputable def q145_0 : Nat → (AV → List AObj → Prop) → AQ := fun (n : Nat) (Post : AV → List AObj → Prop) => endQ Try.prog (resultsOf Try.f145) Post
noncomputable def q145_1 : Nat → (AV → List AObj → Prop) → AQ := fun (n : Nat) (Post : AV → List AObj → Prop) => seqQ (fun (s' : Slots) (H' : List AObj) => awp Try.prog g145 n (codeSnd (codeSnd c145)) s' H' (q145_0 n Post)) (q145_0 n Post)
noncomputable def q145_2 : Nat → (AV → List AObj → Prop) → AQ := fun (n : Nat) (Post : AV → List AObj → Prop) => blockQ 0 (q145_1 n Post)
noncomputable def c145_2 : Go.Code := codeFst (codeSnd (codeFst (codeSnd c145)))
theorem s145 : ∀ (l : List T.Span) (Post : AV → List AObj → Prop),
  AWP Try.prog 55 0 c145_2 [(0, AV.sl 2 (Seq.map T.encS ((0 : Int), (0 : Int)) l) Tip.none), (3, AV.int IntKind.i64 (0 : Int))] [] (q145_2 0 Post) →
    ASpec Try.prog 145 [AV.sl 2 (Seq.map T.encS ((0 : Int), (0 : Int)) l) Tip.none] [] Post := fun l Post h => Go.Ab.ASpec.of_vc g145 Go.Proofs.Try.func145 (by kernel_rfl) (by kernel_rfl) (by kernel_rfl) (Go.Ab.kc (by kernel_rfl) h)
theorem v145_2 : ∀ (l : List T.Span) (i : Int) (n : Nat) (Post : AV → List AObj → Prop),
  condP (decide (i < (↑(List.length l) : Int)))
      (needP ((0 : Int) ≤ i ∧ i < (↑(List.length l) : Int))
        (condP (decide (Prod.fst (List.getD l (Int.toNat i) ((0 : Int), (0 : Int))) < (0 : Int))) (Post (AV.bool false) [])
          (needP ((0 : Int) ≤ i ∧ i < (↑(List.length l) : Int))
            (condP (decide (Prod.snd (List.getD l (Int.toNat i) ((0 : Int), (0 : Int))) > (1000000000 : Int))) (Post (AV.bool false) [])
              (needP ((0 : Int) ≤ i ∧ i < (↑(List.length l) : Int))
                (needP ((0 : Int) ≤ i ∧ i < (↑(List.length l) : Int))
                  (condP (decide (Prod.fst (List.getD l (Int.toNat i) ((0 : Int), (0 : Int))) ≥ Prod.snd (List.getD l (Int.toNat i) ((0 : Int), (0 : Int))))) (Post (AV.bool false) [])
                    (condP (decide (i > (0 : Int)))
                      (needP ((0 : Int) ≤ i ∧ i < (↑(List.length l) : Int))
                        (needP ((0 : Int) ≤ IntKind.wrap IntKind.i64 (i - (1 : Int)) ∧ IntKind.wrap IntKind.i64 (i - (1 : Int)) < (↑(List.length l) : Int))
                          (condP
                            (decide
                              (Prod.fst (List.getD l (Int.toNat i) ((0 : Int), (0 : Int))) ≤ Prod.snd (List.getD l (Int.toNat (IntKind.wrap IntKind.i64 (i - (1 : Int)))) ((0 : Int), (0 : Int)))))
                            (Post (AV.bool false) [])
                            (AWP Try.prog 55 n c145_2
                              [(0, AV.sl 2 (Seq.map T.encS ((0 : Int), (0 : Int)) l) Tip.none), (3, AV.int IntKind.i64 (IntKind.wrap IntKind.i64 (i + (1 : Int))))] []
                              (q145_2 n Post)))))
                      (AWP Try.prog 55 n c145_2
                        [(0, AV.sl 2 (Seq.map T.encS ((0 : Int), (0 : Int)) l) Tip.none), (3, AV.int IntKind.i64 (IntKind.wrap IntKind.i64 (i + (1 : Int))))] []
                        (q145_2 n Post))))))))))
      (Post (AV.bool true) []) →
    AWP Try.prog 55 n c145_2 [(0, AV.sl 2 (Seq.map T.encS ((0 : Int), (0 : Int)) l) Tip.none), (3, AV.int IntKind.i64 i)] [] (q145_2 n Post) := fun l i n Post h => Go.Ab.AWP.loop' g145 (Cfg.live g145) c145_2 (by kernel_rfl) (by kernel_rfl) (Go.Ab.kc (by kernel_rfl) h)

-- 144
noncomputable def l144 : Nat → List Nat
  | 3 => [0, 3, 6, 7, 8]
  | _ => []
noncomputable def u144 : Nat → Bool
  | _ => false
noncomputable def m144 : Nat → Bool
  | _ => false
noncomputable def g144 : Cfg := { N := 40, live := l144, cut := u144, mu := m144, ret := rets }
noncomputable def c144 : Go.Code := Go.Ab.bodyOf Go.Proofs.Try.f144
noncomputable def q144_0 : Nat → (AV → List AObj → Prop) → AQ := fun (n : Nat) (Post : AV → List AObj → Prop) => endQ Try.prog (resultsOf Try.f144) Post
noncomputable def q144_1 : Nat → (AV → List AObj → Prop) → AQ := fun (n : Nat) (Post : AV → List AObj → Prop) => seqQ (fun (s' : Slots) (H' : List AObj) => awp Try.prog g144 n (codeSnd (codeSnd (codeSnd c144))) s' H' (q144_0 n Post)) (q144_0 n Post)
noncomputable def q144_2 : Nat → (AV → List AObj → Prop) → AQ := fun (n : Nat) (Post : AV → List AObj → Prop) => blockQ 0 (q144_1 n Post)
noncomputable def c144_3 : Go.Code := codeFst (codeSnd (codeFst (codeSnd (codeSnd c144))))
theorem s144 : ∀ (l : List T.Need) (Post : AV → List AObj → Prop),
  AWP Try.prog 40 0 c144_3
      [(0, AV.sl 2 (Seq.map T.encN ([], []) l) Tip.none), (3, AV.str { data := #[] }), (6, AV.sl 2 (Seq.map T.encN ([], []) l) Tip.none),
        (7, AV.int IntKind.i64 (↑(List.length l) : Int)), (8, AV.int IntKind.i64 (0 : Int))]
      [] (q144_2 0 Post) →
    ASpec Try.prog 144 [AV.sl 2 (Seq.map T.encN ([], []) l) Tip.none] [] Post := fun l Post h => Go.Ab.ASpec.of_vc g144 Go.Proofs.Try.func144 (by kernel_rfl) (by kernel_rfl) (by kernel_rfl) (Go.Ab.kc (by kernel_rfl) h)
theorem v144_3 : ∀ (l : List T.Need) (s : ByteArray) (n i : Int) (n_1 : Nat) (Post : AV → List AObj → Prop),
  condP (decide (i < n))
      (needP ((0 : Int) ≤ i ∧ i < (↑(List.length l) : Int))
        (ASpec Try.prog 91 [AV.str { data := List.toArray (Prod.fst (List.getD l (Int.toNat i) ([], []))) }]
          [AObj.cells
              [AV.str { data := List.toArray (Prod.fst (List.getD l (Int.toNat i) ([], []))) },
                AV.sl 2 (Seq.map T.encS ((0 : Int), (0 : Int)) (Prod.snd (List.getD l (Int.toNat i) ([], [])))) Tip.none]]
          fun (r : AV) (H' : List AObj) =>
          ∃ (x : Bool),
            r = AV.bool x ∧
              H' =
                  [AObj.cells
                      [AV.str { data := List.toArray (Prod.fst (List.getD l (Int.toNat i) ([], []))) },
                        AV.sl 2 (Seq.map T.encS ((0 : Int), (0 : Int)) (Prod.snd (List.getD l (Int.toNat i) ([], [])))) Tip.none]] ∧
                condP (!x)
                  (Post (AV.bool false)
                    [AObj.cells
                        [AV.str { data := List.toArray (Prod.fst (List.getD l (Int.toNat i) ([], []))) },
                          AV.sl 2 (Seq.map T.encS ((0 : Int), (0 : Int)) (Prod.snd (List.getD l (Int.toNat i) ([], [])))) Tip.none]])
                  (condP
                    (Op.bytesLess (ByteArray.toList { data := List.toArray (Prod.fst (List.getD l (Int.toNat i) ([], []))) }) (ByteArray.toList s) ||
                      ByteArray.toList { data := List.toArray (Prod.fst (List.getD l (Int.toNat i) ([], []))) } == ByteArray.toList s)
                    (Post (AV.bool false)
                      [AObj.cells
                          [AV.str { data := List.toArray (Prod.fst (List.getD l (Int.toNat i) ([], []))) },
                            AV.sl 2 (Seq.map T.encS ((0 : Int), (0 : Int)) (Prod.snd (List.getD l (Int.toNat i) ([], [])))) Tip.none]])
                    (condP (decide ((↑(List.length (Prod.snd (List.getD l (Int.toNat i) ([], [])))) : Int) > (6 : Int)))
                      (Post (AV.bool false)
                        [AObj.cells
                            [AV.str { data := List.toArray (Prod.fst (List.getD l (Int.toNat i) ([], []))) },
                              AV.sl 2 (Seq.map T.encS ((0 : Int), (0 : Int)) (Prod.snd (List.getD l (Int.toNat i) ([], [])))) Tip.none]])
                      (ASpec Try.prog 157 [AV.sl 2 (Seq.map T.encS ((0 : Int), (0 : Int)) (Prod.snd (List.getD l (Int.toNat i) ([], [])))) Tip.none]
                        [AObj.cells
                            [AV.str { data := List.toArray (Prod.fst (List.getD l (Int.toNat i) ([], []))) },
                              AV.sl 2 (Seq.map T.encS ((0 : Int), (0 : Int)) (Prod.snd (List.getD l (Int.toNat i) ([], [])))) Tip.none]]
                        fun (r : AV) (H' : List AObj) =>
                        ∃ (x : Bool),
                          r = AV.bool x ∧
                            H' =
                                [AObj.cells
                                    [AV.str { data := List.toArray (Prod.fst (List.getD l (Int.toNat i) ([], []))) },
                                      AV.sl 2 (Seq.map T.encS ((0 : Int), (0 : Int)) (Prod.snd (List.getD l (Int.toNat i) ([], [])))) Tip.none]] ∧
                              condP (!x)
                                (Post (AV.bool false)
                                  [AObj.cells
                                      [AV.str { data := List.toArray (Prod.fst (List.getD l (Int.toNat i) ([], []))) },
                                        AV.sl 2 (Seq.map T.encS ((0 : Int), (0 : Int)) (Prod.snd (List.getD l (Int.toNat i) ([], [])))) Tip.none]])
                                (AWP Try.prog 40 n_1 c144_3
                                  [(0, AV.sl 2 (Seq.map T.encN ([], []) l) Tip.none), (3, AV.str { data := List.toArray (Prod.fst (List.getD l (Int.toNat i) ([], []))) }),
                                    (6, AV.sl 2 (Seq.map T.encN ([], []) l) Tip.none), (7, AV.int IntKind.i64 n),
                                    (8, AV.int IntKind.i64 (IntKind.wrap IntKind.i64 (i + (1 : Int))))]
                                  [AObj.cells
                                      [AV.str { data := List.toArray (Prod.fst (List.getD l (Int.toNat i) ([], []))) },
                                        AV.sl 2 (Seq.map T.encS ((0 : Int), (0 : Int)) (Prod.snd (List.getD l (Int.toNat i) ([], [])))) Tip.none]]
                                  (q144_2 n_1 Post)))))))
      (Post (AV.bool (decide ((↑(List.length l) : Int) ≤ (6 : Int)))) []) →
    AWP Try.prog 40 n_1 c144_3
      [(0, AV.sl 2 (Seq.map T.encN ([], []) l) Tip.none), (3, AV.str s), (6, AV.sl 2 (Seq.map T.encN ([], []) l) Tip.none), (7, AV.int IntKind.i64 n),
        (8, AV.int IntKind.i64 i)]
      [] (q144_2 n_1 Post) := fun l s n i n Post h => Go.Ab.AWP.loop' g144 (Cfg.live g144) c144_3 (by kernel_rfl) (by kernel_rfl) (Go.Ab.kc (by kernel_rfl) h)

-- 110
noncomputable def l110 : Nat → List Nat
  | 2 => [0, 3]
  | _ => []
noncomputable def u110 : Nat → Bool
  | _ => false
noncomputable def m110 : Nat → Bool
  | _ => false
noncomputable def g110 : Cfg := { N := 56, live := l110, cut := u110, mu := m110, ret := rets }
noncomputable def c110 : Go.Code := Go.Ab.bodyOf Go.Proofs.Try.f110
noncomputable def q110_0 : Nat → (AV → List AObj → Prop) → AQ := fun (n : Nat) (Post : AV → List AObj → Prop) => endQ Try.prog (resultsOf Try.f110) Post
noncomputable def q110_1 : Nat → (AV → List AObj → Prop) → AQ := fun (n : Nat) (Post : AV → List AObj → Prop) => seqQ (fun (s' : Slots) (H' : List AObj) => awp Try.prog g110 n (codeSnd (codeSnd c110)) s' H' (q110_0 n Post)) (q110_0 n Post)
noncomputable def q110_2 : Nat → (AV → List AObj → Prop) → AQ := fun (n : Nat) (Post : AV → List AObj → Prop) => blockQ 0 (q110_1 n Post)
noncomputable def c110_2 : Go.Code := codeFst (codeSnd (codeFst (codeSnd c110)))
theorem s110 : ∀ (l : List T.Need) (Post : AV → List AObj → Prop),
  AWP Try.prog 56 0 c110_2 [(0, AV.sl 2 (Seq.map T.encN ([], []) l) Tip.none), (3, AV.int IntKind.i64 (0 : Int))] [] (q110_2 0 Post) →
    ASpec Try.prog 110 [AV.sl 2 (Seq.map T.encN ([], []) l) Tip.none] [] Post := fun l Post h => Go.Ab.ASpec.of_vc g110 Go.Proofs.Try.func110 (by kernel_rfl) (by kernel_rfl) (by kernel_rfl) (Go.Ab.kc (by kernel_rfl) h)
theorem v110_2 : ∀ (l : List T.Need) (i : Int) (n : Nat) (Post : AV → List AObj → Prop),
  condP (decide (i < (↑(List.length l) : Int)))
      (needP ((0 : Int) ≤ i ∧ i < (↑(List.length l) : Int))
        (ASpec Try.prog 37 [AV.str { data := List.toArray (Prod.fst (List.getD l (Int.toNat i) ([], []))) }] [] fun (r : AV) (H' : List AObj) =>
          ∃ (x : Bool),
            r = AV.bool x ∧
              H' = [] ∧
                condP (!x) (Post (AV.bool false) [])
                  (needP ((0 : Int) ≤ i ∧ i < (↑(List.length l) : Int))
                    (ASpec Try.prog 145 [AV.sl 2 (Seq.map T.encS ((0 : Int), (0 : Int)) (Prod.snd (List.getD l (Int.toNat i) ([], [])))) Tip.none] [] fun (r : AV) (H' : List AObj) =>
                      ∃ (x : Bool),
                        r = AV.bool x ∧
                          H' = [] ∧
                            condP (!x) (Post (AV.bool false) [])
                              (needP ((0 : Int) ≤ i ∧ i < (↑(List.length l) : Int))
                                (condP (decide ((↑(List.length (Prod.snd (List.getD l (Int.toNat i) ([], [])))) : Int) > (6 : Int))) (Post (AV.bool false) [])
                                  (condP (decide (i > (0 : Int)))
                                    (needP ((0 : Int) ≤ i ∧ i < (↑(List.length l) : Int))
                                      (needP ((0 : Int) ≤ IntKind.wrap IntKind.i64 (i - (1 : Int)) ∧ IntKind.wrap IntKind.i64 (i - (1 : Int)) < (↑(List.length l) : Int))
                                        (condP
                                          (Op.bytesLess (ByteArray.toList { data := List.toArray (Prod.fst (List.getD l (Int.toNat i) ([], []))) })
                                              (ByteArray.toList { data := List.toArray (Prod.fst (List.getD l (Int.toNat (IntKind.wrap IntKind.i64 (i - (1 : Int)))) ([], []))) }) ||
                                            ByteArray.toList { data := List.toArray (Prod.fst (List.getD l (Int.toNat i) ([], []))) } ==
                                              ByteArray.toList { data := List.toArray (Prod.fst (List.getD l (Int.toNat (IntKind.wrap IntKind.i64 (i - (1 : Int)))) ([], []))) })
                                          (Post (AV.bool false) [])
                                          (AWP Try.prog 56 n c110_2
                                            [(0, AV.sl 2 (Seq.map T.encN ([], []) l) Tip.none), (3, AV.int IntKind.i64 (IntKind.wrap IntKind.i64 (i + (1 : Int))))] []
                                            (q110_2 n Post)))))
                                    (AWP Try.prog 56 n c110_2
                                      [(0, AV.sl 2 (Seq.map T.encN ([], []) l) Tip.none), (3, AV.int IntKind.i64 (IntKind.wrap IntKind.i64 (i + (1 : Int))))] []
                                      (q110_2 n Post)))))))))
      (Post (AV.bool (decide ((↑(List.length l) : Int) ≤ (6 : Int)))) []) →
    AWP Try.prog 56 n c110_2 [(0, AV.sl 2 (Seq.map T.encN ([], []) l) Tip.none), (3, AV.int IntKind.i64 i)] [] (q110_2 n Post) := fun l i n Post h => Go.Ab.AWP.loop' g110 (Cfg.live g110) c110_2 (by kernel_rfl) (by kernel_rfl) (Go.Ab.kc (by kernel_rfl) h)

-- 105
noncomputable def l105 : Nat → List Nat
  | 3 => [1, 3, 7, 8, 9]
  | _ => []
noncomputable def u105 : Nat → Bool
  | _ => false
noncomputable def m105 : Nat → Bool
  | _ => false
noncomputable def g105 : Cfg := { N := 40, live := l105, cut := u105, mu := m105, ret := rets }
noncomputable def c105 : Go.Code := Go.Ab.bodyOf Go.Proofs.Try.f105
noncomputable def q105_0 : Nat → (AV → List AObj → Prop) → AQ := fun (n : Nat) (Post : AV → List AObj → Prop) => endQ Try.prog (resultsOf Try.f105) Post
noncomputable def q105_1 : Nat → (AV → List AObj → Prop) → AQ := fun (n : Nat) (Post : AV → List AObj → Prop) => seqQ (fun (s' : Slots) (H' : List AObj) => awp Try.prog g105 n (codeSnd (codeSnd (codeSnd c105))) s' H' (q105_0 n Post)) (q105_0 n Post)
noncomputable def q105_2 : Nat → (AV → List AObj → Prop) → AQ := fun (n : Nat) (Post : AV → List AObj → Prop) => blockQ 0 (q105_1 n Post)
noncomputable def c105_3 : Go.Code := codeFst (codeSnd (codeFst (codeSnd (codeSnd c105))))
theorem s105 : ∀ (m : T.Mani) (Post : AV → List AObj → Prop),
  AWP Try.prog 40 0 c105_3
      [(1, AV.ptr 0 0), (3, AV.int IntKind.i64 (-1 : Int)), (7, AV.sl 2 (Seq.map T.encR ((0 : Int), []) (Prod.snd m)) Tip.none),
        (8, AV.int IntKind.i64 (↑(List.length (Prod.snd m)) : Int)), (9, AV.int IntKind.i64 (0 : Int))]
      [AObj.cells [AV.str { data := List.toArray (Prod.fst m) }, AV.sl 2 (Seq.map T.encR ((0 : Int), []) (Prod.snd m)) Tip.none]] (q105_2 0 Post) →
    ASpec Try.prog 105 [AV.agg (T.encM m)] [] Post := fun m Post h => Go.Ab.ASpec.of_vc g105 Go.Proofs.Try.func105 (by kernel_rfl) (by kernel_rfl) (by kernel_rfl) (Go.Ab.kc (by kernel_rfl) h)
theorem v105_3 : ∀ (m : T.Mani) (e n i : Int) (n_1 : Nat) (Post : AV → List AObj → Prop),
  condP (decide (i < n))
      (needP ((0 : Int) ≤ i ∧ i < (↑(List.length (Prod.snd m)) : Int))
        (condP (decide (Prod.fst (List.getD (Prod.snd m) (Int.toNat i) ((0 : Int), [])) ≤ e))
          (Post (AV.bool false)
            [AObj.cells [AV.str { data := List.toArray (Prod.fst m) }, AV.sl 2 (Seq.map T.encR ((0 : Int), []) (Prod.snd m)) Tip.none],
              AObj.cells
                [AV.int IntKind.i64 (Prod.fst (List.getD (Prod.snd m) (Int.toNat i) ((0 : Int), []))),
                  AV.sl 2 (Seq.map T.encN ([], []) (Prod.snd (List.getD (Prod.snd m) (Int.toNat i) ((0 : Int), [])))) Tip.none]])
          (condP (decide (Prod.fst (List.getD (Prod.snd m) (Int.toNat i) ((0 : Int), [])) ≥ (1000000000 : Int)))
            (Post (AV.bool false)
              [AObj.cells [AV.str { data := List.toArray (Prod.fst m) }, AV.sl 2 (Seq.map T.encR ((0 : Int), []) (Prod.snd m)) Tip.none],
                AObj.cells
                  [AV.int IntKind.i64 (Prod.fst (List.getD (Prod.snd m) (Int.toNat i) ((0 : Int), []))),
                    AV.sl 2 (Seq.map T.encN ([], []) (Prod.snd (List.getD (Prod.snd m) (Int.toNat i) ((0 : Int), [])))) Tip.none]])
            (ASpec Try.prog 144 [AV.sl 2 (Seq.map T.encN ([], []) (Prod.snd (List.getD (Prod.snd m) (Int.toNat i) ((0 : Int), [])))) Tip.none]
              [AObj.cells [AV.str { data := List.toArray (Prod.fst m) }, AV.sl 2 (Seq.map T.encR ((0 : Int), []) (Prod.snd m)) Tip.none],
                AObj.cells
                  [AV.int IntKind.i64 (Prod.fst (List.getD (Prod.snd m) (Int.toNat i) ((0 : Int), []))),
                    AV.sl 2 (Seq.map T.encN ([], []) (Prod.snd (List.getD (Prod.snd m) (Int.toNat i) ((0 : Int), [])))) Tip.none]]
              fun (r : AV) (H' : List AObj) =>
              ∃ (x : Bool),
                r = AV.bool x ∧
                  H' =
                      [AObj.cells [AV.str { data := List.toArray (Prod.fst m) }, AV.sl 2 (Seq.map T.encR ((0 : Int), []) (Prod.snd m)) Tip.none],
                        AObj.cells
                          [AV.int IntKind.i64 (Prod.fst (List.getD (Prod.snd m) (Int.toNat i) ((0 : Int), []))),
                            AV.sl 2 (Seq.map T.encN ([], []) (Prod.snd (List.getD (Prod.snd m) (Int.toNat i) ((0 : Int), [])))) Tip.none]] ∧
                    condP (!x)
                      (Post (AV.bool false)
                        [AObj.cells [AV.str { data := List.toArray (Prod.fst m) }, AV.sl 2 (Seq.map T.encR ((0 : Int), []) (Prod.snd m)) Tip.none],
                          AObj.cells
                            [AV.int IntKind.i64 (Prod.fst (List.getD (Prod.snd m) (Int.toNat i) ((0 : Int), []))),
                              AV.sl 2 (Seq.map T.encN ([], []) (Prod.snd (List.getD (Prod.snd m) (Int.toNat i) ((0 : Int), [])))) Tip.none]])
                      (AWP Try.prog 40 n_1 c105_3
                        [(1, AV.ptr 0 0), (3, AV.int IntKind.i64 (Prod.fst (List.getD (Prod.snd m) (Int.toNat i) ((0 : Int), [])))),
                          (7, AV.sl 2 (Seq.map T.encR ((0 : Int), []) (Prod.snd m)) Tip.none), (8, AV.int IntKind.i64 n),
                          (9, AV.int IntKind.i64 (IntKind.wrap IntKind.i64 (i + (1 : Int))))]
                        [AObj.cells [AV.str { data := List.toArray (Prod.fst m) }, AV.sl 2 (Seq.map T.encR ((0 : Int), []) (Prod.snd m)) Tip.none],
                          AObj.cells
                            [AV.int IntKind.i64 (Prod.fst (List.getD (Prod.snd m) (Int.toNat i) ((0 : Int), []))),
                              AV.sl 2 (Seq.map T.encN ([], []) (Prod.snd (List.getD (Prod.snd m) (Int.toNat i) ((0 : Int), [])))) Tip.none]]
                        (q105_2 n_1 Post))))))
      (ASpec Try.prog 91 [AV.str { data := List.toArray (Prod.fst m) }]
        [AObj.cells [AV.str { data := List.toArray (Prod.fst m) }, AV.sl 2 (Seq.map T.encR ((0 : Int), []) (Prod.snd m)) Tip.none]] fun (r : AV) (H' : List AObj) =>
        ∃ (x : Bool),
          r = AV.bool x ∧
            H' = [AObj.cells [AV.str { data := List.toArray (Prod.fst m) }, AV.sl 2 (Seq.map T.encR ((0 : Int), []) (Prod.snd m)) Tip.none]] ∧
              condP x
                (Post (AV.bool (decide ((↑(List.length (Prod.snd m)) : Int) ≤ (8 : Int))))
                  [AObj.cells [AV.str { data := List.toArray (Prod.fst m) }, AV.sl 2 (Seq.map T.encR ((0 : Int), []) (Prod.snd m)) Tip.none]])
                (Post (AV.bool false) [AObj.cells [AV.str { data := List.toArray (Prod.fst m) }, AV.sl 2 (Seq.map T.encR ((0 : Int), []) (Prod.snd m)) Tip.none]])) →
    AWP Try.prog 40 n_1 c105_3
      [(1, AV.ptr 0 0), (3, AV.int IntKind.i64 e), (7, AV.sl 2 (Seq.map T.encR ((0 : Int), []) (Prod.snd m)) Tip.none),
        (8, AV.int IntKind.i64 n), (9, AV.int IntKind.i64 i)]
      [AObj.cells (T.encM m)] (q105_2 n_1 Post) := fun m e n i n Post h => Go.Ab.AWP.loop' g105 (Cfg.live g105) c105_3 (by kernel_rfl) (by kernel_rfl) (Go.Ab.kc (by kernel_rfl) h)

-- 45
noncomputable def l45 : Nat → List Nat
  | 2 => [1, 3]
  | _ => []
noncomputable def u45 : Nat → Bool
  | _ => false
noncomputable def m45 : Nat → Bool
  | _ => false
noncomputable def g45 : Cfg := { N := 52, live := l45, cut := u45, mu := m45, ret := rets }
noncomputable def c45 : Go.Code := Go.Ab.bodyOf Go.Proofs.Try.f45
noncomputable def q45_0 : Nat → (AV → List AObj → Prop) → AQ := fun (n : Nat) (Post : AV → List AObj → Prop) => endQ Try.prog (resultsOf Try.f45) Post
noncomputable def q45_1 : Nat → (AV → List AObj → Prop) → AQ := fun (n : Nat) (Post : AV → List AObj → Prop) => seqQ (fun (s' : Slots) (H' : List AObj) => awp Try.prog g45 n (codeSnd (codeSnd c45)) s' H' (q45_0 n Post)) (q45_0 n Post)
noncomputable def q45_2 : Nat → (AV → List AObj → Prop) → AQ := fun (n : Nat) (Post : AV → List AObj → Prop) => blockQ 0 (q45_1 n Post)
noncomputable def c45_2 : Go.Code := codeFst (codeSnd (codeFst (codeSnd c45)))
theorem s45 : ∀ (m : T.Mani) (Post : AV → List AObj → Prop),
  AWP Try.prog 52 0 c45_2 [(1, AV.ptr 0 0), (3, AV.int IntKind.i64 (0 : Int))]
      [AObj.cells [AV.str { data := List.toArray (Prod.fst m) }, AV.sl 2 (Seq.map T.encR ((0 : Int), []) (Prod.snd m)) Tip.none]] (q45_2 0 Post) →
    ASpec Try.prog 45 [AV.agg (T.encM m)] [] Post := fun m Post h => Go.Ab.ASpec.of_vc g45 Go.Proofs.Try.func45 (by kernel_rfl) (by kernel_rfl) (by kernel_rfl) (Go.Ab.kc (by kernel_rfl) h)
theorem v45_2 : ∀ (m : T.Mani) (i : Int) (n : Nat) (Post : AV → List AObj → Prop),
  condP (decide (i < (↑(List.length (Prod.snd m)) : Int)))
      (needP ((0 : Int) ≤ i ∧ i < (↑(List.length (Prod.snd m)) : Int))
        (ASpec Try.prog 109 [AV.int IntKind.i64 (Prod.fst (List.getD (Prod.snd m) (Int.toNat i) ((0 : Int), [])))]
          [AObj.cells [AV.str { data := List.toArray (Prod.fst m) }, AV.sl 2 (Seq.map T.encR ((0 : Int), []) (Prod.snd m)) Tip.none],
            AObj.cells
              [AV.int IntKind.i64 (Prod.fst (List.getD (Prod.snd m) (Int.toNat i) ((0 : Int), []))),
                AV.sl 2 (Seq.map T.encN ([], []) (Prod.snd (List.getD (Prod.snd m) (Int.toNat i) ((0 : Int), [])))) Tip.none]]
          fun (r : AV) (H' : List AObj) =>
          ∃ (x : Bool),
            r = AV.bool x ∧
              H' =
                  [AObj.cells [AV.str { data := List.toArray (Prod.fst m) }, AV.sl 2 (Seq.map T.encR ((0 : Int), []) (Prod.snd m)) Tip.none],
                    AObj.cells
                      [AV.int IntKind.i64 (Prod.fst (List.getD (Prod.snd m) (Int.toNat i) ((0 : Int), []))),
                        AV.sl 2 (Seq.map T.encN ([], []) (Prod.snd (List.getD (Prod.snd m) (Int.toNat i) ((0 : Int), [])))) Tip.none]] ∧
                condP (!x)
                  (Post (AV.bool false)
                    [AObj.cells [AV.str { data := List.toArray (Prod.fst m) }, AV.sl 2 (Seq.map T.encR ((0 : Int), []) (Prod.snd m)) Tip.none],
                      AObj.cells
                        [AV.int IntKind.i64 (Prod.fst (List.getD (Prod.snd m) (Int.toNat i) ((0 : Int), []))),
                          AV.sl 2 (Seq.map T.encN ([], []) (Prod.snd (List.getD (Prod.snd m) (Int.toNat i) ((0 : Int), [])))) Tip.none]])
                  (ASpec Try.prog 110 [AV.sl 2 (Seq.map T.encN ([], []) (Prod.snd (List.getD (Prod.snd m) (Int.toNat i) ((0 : Int), [])))) Tip.none]
                    [AObj.cells [AV.str { data := List.toArray (Prod.fst m) }, AV.sl 2 (Seq.map T.encR ((0 : Int), []) (Prod.snd m)) Tip.none],
                      AObj.cells
                        [AV.int IntKind.i64 (Prod.fst (List.getD (Prod.snd m) (Int.toNat i) ((0 : Int), []))),
                          AV.sl 2 (Seq.map T.encN ([], []) (Prod.snd (List.getD (Prod.snd m) (Int.toNat i) ((0 : Int), [])))) Tip.none]]
                    fun (r : AV) (H' : List AObj) =>
                    ∃ (x : Bool),
                      r = AV.bool x ∧
                        H' =
                            [AObj.cells [AV.str { data := List.toArray (Prod.fst m) }, AV.sl 2 (Seq.map T.encR ((0 : Int), []) (Prod.snd m)) Tip.none],
                              AObj.cells
                                [AV.int IntKind.i64 (Prod.fst (List.getD (Prod.snd m) (Int.toNat i) ((0 : Int), []))),
                                  AV.sl 2 (Seq.map T.encN ([], []) (Prod.snd (List.getD (Prod.snd m) (Int.toNat i) ((0 : Int), [])))) Tip.none]] ∧
                          condP (!x)
                            (Post (AV.bool false)
                              [AObj.cells [AV.str { data := List.toArray (Prod.fst m) }, AV.sl 2 (Seq.map T.encR ((0 : Int), []) (Prod.snd m)) Tip.none],
                                AObj.cells
                                  [AV.int IntKind.i64 (Prod.fst (List.getD (Prod.snd m) (Int.toNat i) ((0 : Int), []))),
                                    AV.sl 2 (Seq.map T.encN ([], []) (Prod.snd (List.getD (Prod.snd m) (Int.toNat i) ((0 : Int), [])))) Tip.none]])
                            (condP (decide (i > (0 : Int)))
                              (needP ((0 : Int) ≤ IntKind.wrap IntKind.i64 (i - (1 : Int)) ∧ IntKind.wrap IntKind.i64 (i - (1 : Int)) < (↑(List.length (Prod.snd m)) : Int))
                                (condP
                                  (decide
                                    (Prod.fst (List.getD (Prod.snd m) (Int.toNat i) ((0 : Int), [])) ≤
                                      Prod.fst (List.getD (Prod.snd m) (Int.toNat (IntKind.wrap IntKind.i64 (i - (1 : Int)))) ((0 : Int), []))))
                                  (Post (AV.bool false)
                                    [AObj.cells [AV.str { data := List.toArray (Prod.fst m) }, AV.sl 2 (Seq.map T.encR ((0 : Int), []) (Prod.snd m)) Tip.none],
                                      AObj.cells
                                        [AV.int IntKind.i64 (Prod.fst (List.getD (Prod.snd m) (Int.toNat i) ((0 : Int), []))),
                                          AV.sl 2 (Seq.map T.encN ([], []) (Prod.snd (List.getD (Prod.snd m) (Int.toNat i) ((0 : Int), [])))) Tip.none]])
                                  (AWP Try.prog 52 n c45_2 [(1, AV.ptr 0 0), (3, AV.int IntKind.i64 (IntKind.wrap IntKind.i64 (i + (1 : Int))))]
                                    [AObj.cells [AV.str { data := List.toArray (Prod.fst m) }, AV.sl 2 (Seq.map T.encR ((0 : Int), []) (Prod.snd m)) Tip.none],
                                      AObj.cells
                                        [AV.int IntKind.i64 (Prod.fst (List.getD (Prod.snd m) (Int.toNat i) ((0 : Int), []))),
                                          AV.sl 2 (Seq.map T.encN ([], []) (Prod.snd (List.getD (Prod.snd m) (Int.toNat i) ((0 : Int), [])))) Tip.none]]
                                    (q45_2 n Post))))
                              (AWP Try.prog 52 n c45_2 [(1, AV.ptr 0 0), (3, AV.int IntKind.i64 (IntKind.wrap IntKind.i64 (i + (1 : Int))))]
                                [AObj.cells [AV.str { data := List.toArray (Prod.fst m) }, AV.sl 2 (Seq.map T.encR ((0 : Int), []) (Prod.snd m)) Tip.none],
                                  AObj.cells
                                    [AV.int IntKind.i64 (Prod.fst (List.getD (Prod.snd m) (Int.toNat i) ((0 : Int), []))),
                                      AV.sl 2 (Seq.map T.encN ([], []) (Prod.snd (List.getD (Prod.snd m) (Int.toNat i) ((0 : Int), [])))) Tip.none]]
                                (q45_2 n Post))))))
      (ASpec Try.prog 37 [AV.str { data := List.toArray (Prod.fst m) }]
        [AObj.cells [AV.str { data := List.toArray (Prod.fst m) }, AV.sl 2 (Seq.map T.encR ((0 : Int), []) (Prod.snd m)) Tip.none]] fun (r : AV) (H' : List AObj) =>
        ∃ (x : Bool),
          r = AV.bool x ∧
            H' = [AObj.cells [AV.str { data := List.toArray (Prod.fst m) }, AV.sl 2 (Seq.map T.encR ((0 : Int), []) (Prod.snd m)) Tip.none]] ∧
              condP x
                (Post (AV.bool (decide ((↑(List.length (Prod.snd m)) : Int) ≤ (8 : Int))))
                  [AObj.cells [AV.str { data := List.toArray (Prod.fst m) }, AV.sl 2 (Seq.map T.encR ((0 : Int), []) (Prod.snd m)) Tip.none]])
                (Post (AV.bool false) [AObj.cells [AV.str { data := List.toArray (Prod.fst m) }, AV.sl 2 (Seq.map T.encR ((0 : Int), []) (Prod.snd m)) Tip.none]])) →
    AWP Try.prog 52 n c45_2 [(1, AV.ptr 0 0), (3, AV.int IntKind.i64 i)] [AObj.cells (T.encM m)] (q45_2 n Post) := fun m i n Post h => Go.Ab.AWP.loop' g45 (Cfg.live g45) c45_2 (by kernel_rfl) (by kernel_rfl) (Go.Ab.kc (by kernel_rfl) h)

-- 109
noncomputable def l109 : Nat → List Nat
  | _ => []
noncomputable def u109 : Nat → Bool
  | _ => false
noncomputable def m109 : Nat → Bool
  | _ => false
noncomputable def g109 : Cfg := { N := 9, live := l109, cut := u109, mu := m109, ret := rets }
noncomputable def c109 : Go.Code := Go.Ab.bodyOf Go.Proofs.Try.f109
theorem s109 : ∀ (x : Int) (Post : AV → List AObj → Prop),
  condP (decide (x ≥ (0 : Int))) (Post (AV.bool (decide (x < (1000000000 : Int)))) []) (Post (AV.bool false) []) → ASpec Try.prog 109 [AV.int IntKind.i64 x] [] Post := fun x Post h => Go.Ab.ASpec.of_vc g109 Go.Proofs.Try.func109 (by kernel_rfl) (by kernel_rfl) (by kernel_rfl) (Go.Ab.kc (by kernel_rfl) h)

-- 97
noncomputable def l97 : Nat → List Nat
  | 4 => [0, 3]
  | _ => []
noncomputable def u97 : Nat → Bool
  | _ => false
noncomputable def m97 : Nat → Bool
  | _ => false
noncomputable def g97 : Cfg := { N := 29, live := l97, cut := u97, mu := m97, ret := rets }
noncomputable def c97 : Go.Code := Go.Ab.bodyOf Go.Proofs.Try.f97
noncomputable def q97_0 : Nat → (AV → List AObj → Prop) → AQ := fun (n : Nat) (Post : AV → List AObj → Prop) => endQ Try.prog (resultsOf Try.f97) Post
noncomputable def q97_1 : Nat → (AV → List AObj → Prop) → AQ := fun (n : Nat) (Post : AV → List AObj → Prop) => seqQ (fun (s' : Slots) (H' : List AObj) => awp Try.prog g97 n (codeSnd (codeSnd (codeSnd c97))) s' H' (q97_0 n Post)) (q97_0 n Post)
noncomputable def q97_2 : Nat → (AV → List AObj → Prop) → AQ := fun (n : Nat) (Post : AV → List AObj → Prop) => blockQ 0 (q97_1 n Post)
noncomputable def c97_4 : Go.Code := codeFst (codeSnd (codeFst (codeSnd (codeSnd c97))))
theorem s97 : ∀ (l : List T.Need) (Post : AV → List AObj → Prop),
  condP (decide ((↑(List.length l) : Int) > (40 : Int))) (Post (AV.bool true) [])
      (AWP Try.prog 29 0 c97_4 [(0, AV.sl 2 (Seq.map T.encN ([], []) l) Tip.none), (3, AV.int IntKind.i64 (0 : Int))] [] (q97_2 0 Post)) →
    ASpec Try.prog 97 [AV.sl 2 (Seq.map T.encN ([], []) l) Tip.none] [] Post := fun l Post h => Go.Ab.ASpec.of_vc g97 Go.Proofs.Try.func97 (by kernel_rfl) (by kernel_rfl) (by kernel_rfl) (Go.Ab.kc (by kernel_rfl) h)
theorem v97_4 : ∀ (l : List T.Need) (i : Int) (n : Nat) (Post : AV → List AObj → Prop),
  condP (decide (i < (↑(List.length l) : Int)))
      (needP ((0 : Int) ≤ i ∧ i < (↑(List.length l) : Int))
        (condP (decide ((↑(List.length (Prod.snd (List.getD l (Int.toNat i) ([], [])))) : Int) > (40 : Int))) (Post (AV.bool true) [])
          (needP ((0 : Int) ≤ i ∧ i < (↑(List.length l) : Int))
            (condP (decide ((↑(ByteArray.size { data := List.toArray (Prod.fst (List.getD l (Int.toNat i) ([], []))) }) : Int) > (100 : Int))) (Post (AV.bool true) [])
              (AWP Try.prog 29 n c97_4 [(0, AV.sl 2 (Seq.map T.encN ([], []) l) Tip.none), (3, AV.int IntKind.i64 (IntKind.wrap IntKind.i64 (i + (1 : Int))))] []
                (q97_2 n Post))))))
      (Post (AV.bool false) []) →
    AWP Try.prog 29 n c97_4 [(0, AV.sl 2 (Seq.map T.encN ([], []) l) Tip.none), (3, AV.int IntKind.i64 i)] [] (q97_2 n Post) := fun l i n Post h => Go.Ab.AWP.loop' g97 (Cfg.live g97) c97_4 (by kernel_rfl) (by kernel_rfl) (Go.Ab.kc (by kernel_rfl) h)

-- 38
noncomputable def l38 : Nat → List Nat
  | 4 => [1, 3]
  | _ => []
noncomputable def u38 : Nat → Bool
  | _ => false
noncomputable def m38 : Nat → Bool
  | _ => false
noncomputable def g38 : Cfg := { N := 28, live := l38, cut := u38, mu := m38, ret := rets }
noncomputable def c38 : Go.Code := Go.Ab.bodyOf Go.Proofs.Try.f38
noncomputable def q38_0 : Nat → (AV → List AObj → Prop) → AQ := fun (n : Nat) (Post : AV → List AObj → Prop) => endQ Try.prog (resultsOf Try.f38) Post
noncomputable def q38_1 : Nat → (AV → List AObj → Prop) → AQ := fun (n : Nat) (Post : AV → List AObj → Prop) => seqQ (fun (s' : Slots) (H' : List AObj) => awp Try.prog g38 n (codeSnd (codeSnd (codeSnd c38))) s' H' (q38_0 n Post)) (q38_0 n Post)
noncomputable def q38_2 : Nat → (AV → List AObj → Prop) → AQ := fun (n : Nat) (Post : AV → List AObj → Prop) => blockQ 0 (q38_1 n Post)
noncomputable def c38_4 : Go.Code := codeFst (codeSnd (codeFst (codeSnd (codeSnd c38))))
theorem s38 : ∀ (m : T.Mani) (Post : AV → List AObj → Prop),
  condP (decide ((↑(List.length (Prod.snd m)) : Int) > (30 : Int)))
      (Post (AV.bool true) [AObj.cells [AV.str { data := List.toArray (Prod.fst m) }, AV.sl 2 (Seq.map T.encR ((0 : Int), []) (Prod.snd m)) Tip.none]])
      (condP (decide ((↑(ByteArray.size { data := List.toArray (Prod.fst m) }) : Int) > (200 : Int)))
        (Post (AV.bool true) [AObj.cells [AV.str { data := List.toArray (Prod.fst m) }, AV.sl 2 (Seq.map T.encR ((0 : Int), []) (Prod.snd m)) Tip.none]])
        (AWP Try.prog 28 0 c38_4 [(1, AV.ptr 0 0), (3, AV.int IntKind.i64 (0 : Int))]
          [AObj.cells [AV.str { data := List.toArray (Prod.fst m) }, AV.sl 2 (Seq.map T.encR ((0 : Int), []) (Prod.snd m)) Tip.none]] (q38_2 0 Post))) →
    ASpec Try.prog 38 [AV.agg (T.encM m)] [] Post := fun m Post h => Go.Ab.ASpec.of_vc g38 Go.Proofs.Try.func38 (by kernel_rfl) (by kernel_rfl) (by kernel_rfl) (Go.Ab.kc (by kernel_rfl) h)
theorem v38_4 : ∀ (m : T.Mani) (i : Int) (n : Nat) (Post : AV → List AObj → Prop),
  condP (decide (i < (↑(List.length (Prod.snd m)) : Int)))
      (needP ((0 : Int) ≤ i ∧ i < (↑(List.length (Prod.snd m)) : Int))
        (ASpec Try.prog 97 [AV.sl 2 (Seq.map T.encN ([], []) (Prod.snd (List.getD (Prod.snd m) (Int.toNat i) ((0 : Int), [])))) Tip.none]
          [AObj.cells [AV.str { data := List.toArray (Prod.fst m) }, AV.sl 2 (Seq.map T.encR ((0 : Int), []) (Prod.snd m)) Tip.none]] fun (r : AV) (H' : List AObj) =>
          ∃ (x : Bool),
            r = AV.bool x ∧
              H' = [AObj.cells [AV.str { data := List.toArray (Prod.fst m) }, AV.sl 2 (Seq.map T.encR ((0 : Int), []) (Prod.snd m)) Tip.none]] ∧
                condP x (Post (AV.bool true) [AObj.cells [AV.str { data := List.toArray (Prod.fst m) }, AV.sl 2 (Seq.map T.encR ((0 : Int), []) (Prod.snd m)) Tip.none]])
                  (AWP Try.prog 28 n c38_4 [(1, AV.ptr 0 0), (3, AV.int IntKind.i64 (IntKind.wrap IntKind.i64 (i + (1 : Int))))]
                    [AObj.cells [AV.str { data := List.toArray (Prod.fst m) }, AV.sl 2 (Seq.map T.encR ((0 : Int), []) (Prod.snd m)) Tip.none]] (q38_2 n Post))))
      (Post (AV.bool false) [AObj.cells [AV.str { data := List.toArray (Prod.fst m) }, AV.sl 2 (Seq.map T.encR ((0 : Int), []) (Prod.snd m)) Tip.none]]) →
    AWP Try.prog 28 n c38_4 [(1, AV.ptr 0 0), (3, AV.int IntKind.i64 i)] [AObj.cells (T.encM m)] (q38_2 n Post) := fun m i n Post h => Go.Ab.AWP.loop' g38 (Cfg.live g38) c38_4 (by kernel_rfl) (by kernel_rfl) (Go.Ab.kc (by kernel_rfl) h)

-- 131
noncomputable def l131 : Nat → List Nat
  | 4 => [0, 1, 5]
  | _ => []
noncomputable def u131 : Nat → Bool
  | _ => false
noncomputable def m131 : Nat → Bool
  | _ => false
noncomputable def g131 : Cfg := { N := 26, live := l131, cut := u131, mu := m131, ret := rets }
noncomputable def c131 : Go.Code := Go.Ab.bodyOf Go.Proofs.Try.f131
noncomputable def q131_0 : Nat → (AV → List AObj → Prop) → AQ := fun (n : Nat) (Post : AV → List AObj → Prop) => endQ Try.prog (resultsOf Try.f131) Post
noncomputable def q131_1 : Nat → (AV → List AObj → Prop) → AQ := fun (n : Nat) (Post : AV → List AObj → Prop) => seqQ (fun (s' : Slots) (H' : List AObj) => awp Try.prog g131 n (codeSnd (codeSnd (codeSnd c131))) s' H' (q131_0 n Post)) (q131_0 n Post)
noncomputable def q131_2 : Nat → (AV → List AObj → Prop) → AQ := fun (n : Nat) (Post : AV → List AObj → Prop) => blockQ 0 (q131_1 n Post)
noncomputable def c131_4 : Go.Code := codeFst (codeSnd (codeFst (codeSnd (codeSnd c131))))
theorem s131 : ∀ (a b : List T.Span) (Post : AV → List AObj → Prop),
  condP ((↑(List.length a) : Int) != (↑(List.length b) : Int)) (Post (AV.bool false) [])
      (AWP Try.prog 26 0 c131_4
        [(0, AV.sl 2 (Seq.map T.encS ((0 : Int), (0 : Int)) a) Tip.none), (1, AV.sl 2 (Seq.map T.encS ((0 : Int), (0 : Int)) b) Tip.none),
          (5, AV.int IntKind.i64 (0 : Int))]
        [] (q131_2 0 Post)) →
    ASpec Try.prog 131 [AV.sl 2 (Seq.map T.encS ((0 : Int), (0 : Int)) a) Tip.none, AV.sl 2 (Seq.map T.encS ((0 : Int), (0 : Int)) b) Tip.none] [] Post := fun a b Post h => Go.Ab.ASpec.of_vc g131 Go.Proofs.Try.func131 (by kernel_rfl) (by kernel_rfl) (by kernel_rfl) (Go.Ab.kc (by kernel_rfl) h)
theorem v131_4 : ∀ (a b : List T.Span) (i : Int) (n : Nat) (Post : AV → List AObj → Prop),
  condP (decide (i < (↑(List.length a) : Int)))
      (needP ((0 : Int) ≤ i ∧ i < (↑(List.length a) : Int))
        (needP ((0 : Int) ≤ i ∧ i < (↑(List.length b) : Int))
          (condP
            (!(Prod.fst (List.getD a (Int.toNat i) ((0 : Int), (0 : Int))) == Prod.fst (List.getD b (Int.toNat i) ((0 : Int), (0 : Int))) &&
                (Prod.snd (List.getD a (Int.toNat i) ((0 : Int), (0 : Int))) == Prod.snd (List.getD b (Int.toNat i) ((0 : Int), (0 : Int))) && true)))
            (Post (AV.bool false) [])
            (AWP Try.prog 26 n c131_4
              [(0, AV.sl 2 (Seq.map T.encS ((0 : Int), (0 : Int)) a) Tip.none), (1, AV.sl 2 (Seq.map T.encS ((0 : Int), (0 : Int)) b) Tip.none),
                (5, AV.int IntKind.i64 (IntKind.wrap IntKind.i64 (i + (1 : Int))))]
              [] (q131_2 n Post)))))
      (Post (AV.bool true) []) →
    AWP Try.prog 26 n c131_4
      [(0, AV.sl 2 (Seq.map T.encS ((0 : Int), (0 : Int)) a) Tip.none), (1, AV.sl 2 (Seq.map T.encS ((0 : Int), (0 : Int)) b) Tip.none),
        (5, AV.int IntKind.i64 i)]
      [] (q131_2 n Post) := fun a b i n Post h => Go.Ab.AWP.loop' g131 (Cfg.live g131) c131_4 (by kernel_rfl) (by kernel_rfl) (Go.Ab.kc (by kernel_rfl) h)

-- 108
noncomputable def l108 : Nat → List Nat
  | 4 => [0, 1, 5]
  | _ => []
noncomputable def u108 : Nat → Bool
  | _ => false
noncomputable def m108 : Nat → Bool
  | _ => false
noncomputable def g108 : Cfg := { N := 42, live := l108, cut := u108, mu := m108, ret := rets }
noncomputable def c108 : Go.Code := Go.Ab.bodyOf Go.Proofs.Try.f108
noncomputable def q108_0 : Nat → (AV → List AObj → Prop) → AQ := fun (n : Nat) (Post : AV → List AObj → Prop) => endQ Try.prog (resultsOf Try.f108) Post
noncomputable def q108_1 : Nat → (AV → List AObj → Prop) → AQ := fun (n : Nat) (Post : AV → List AObj → Prop) => seqQ (fun (s' : Slots) (H' : List AObj) => awp Try.prog g108 n (codeSnd (codeSnd (codeSnd c108))) s' H' (q108_0 n Post)) (q108_0 n Post)
noncomputable def q108_2 : Nat → (AV → List AObj → Prop) → AQ := fun (n : Nat) (Post : AV → List AObj → Prop) => blockQ 0 (q108_1 n Post)
noncomputable def c108_4 : Go.Code := codeFst (codeSnd (codeFst (codeSnd (codeSnd c108))))
theorem s108 : ∀ (a b : List T.Need) (Post : AV → List AObj → Prop),
  condP ((↑(List.length a) : Int) != (↑(List.length b) : Int)) (Post (AV.bool false) [])
      (AWP Try.prog 42 0 c108_4
        [(0, AV.sl 2 (Seq.map T.encN ([], []) a) Tip.none), (1, AV.sl 2 (Seq.map T.encN ([], []) b) Tip.none), (5, AV.int IntKind.i64 (0 : Int))] []
        (q108_2 0 Post)) →
    ASpec Try.prog 108 [AV.sl 2 (Seq.map T.encN ([], []) a) Tip.none, AV.sl 2 (Seq.map T.encN ([], []) b) Tip.none] [] Post := fun a b Post h => Go.Ab.ASpec.of_vc g108 Go.Proofs.Try.func108 (by kernel_rfl) (by kernel_rfl) (by kernel_rfl) (Go.Ab.kc (by kernel_rfl) h)
theorem v108_4 : ∀ (a b : List T.Need) (i : Int) (n : Nat) (Post : AV → List AObj → Prop),
  condP (decide (i < (↑(List.length a) : Int)))
      (needP ((0 : Int) ≤ i ∧ i < (↑(List.length a) : Int))
        (needP ((0 : Int) ≤ i ∧ i < (↑(List.length b) : Int))
          (condP
            (!ByteArray.toList { data := List.toArray (Prod.fst (List.getD a (Int.toNat i) ([], []))) } == ByteArray.toList { data := List.toArray (Prod.fst (List.getD b (Int.toNat i) ([], []))) })
            (Post (AV.bool false) [])
            (needP ((0 : Int) ≤ i ∧ i < (↑(List.length a) : Int))
              (needP ((0 : Int) ≤ i ∧ i < (↑(List.length b) : Int))
                (ASpec Try.prog 131
                  [AV.sl 2 (Seq.map T.encS ((0 : Int), (0 : Int)) (Prod.snd (List.getD a (Int.toNat i) ([], [])))) Tip.none,
                    AV.sl 2 (Seq.map T.encS ((0 : Int), (0 : Int)) (Prod.snd (List.getD b (Int.toNat i) ([], [])))) Tip.none]
                  [] fun (r : AV) (H' : List AObj) =>
                  ∃ (x : Bool),
                    r = AV.bool x ∧
                      H' = [] ∧
                        condP (!x) (Post (AV.bool false) [])
                          (AWP Try.prog 42 n c108_4
                            [(0, AV.sl 2 (Seq.map T.encN ([], []) a) Tip.none), (1, AV.sl 2 (Seq.map T.encN ([], []) b) Tip.none),
                              (5, AV.int IntKind.i64 (IntKind.wrap IntKind.i64 (i + (1 : Int))))]
                            [] (q108_2 n Post))))))))
      (Post (AV.bool true) []) →
    AWP Try.prog 42 n c108_4
      [(0, AV.sl 2 (Seq.map T.encN ([], []) a) Tip.none), (1, AV.sl 2 (Seq.map T.encN ([], []) b) Tip.none), (5, AV.int IntKind.i64 i)] [] (q108_2 n Post) := fun a b i n Post h => Go.Ab.AWP.loop' g108 (Cfg.live g108) c108_4 (by kernel_rfl) (by kernel_rfl) (Go.Ab.kc (by kernel_rfl) h)

-- 44
noncomputable def l44 : Nat → List Nat
  | 4 => [2, 3, 5]
  | _ => []
noncomputable def u44 : Nat → Bool
  | _ => false
noncomputable def m44 : Nat → Bool
  | _ => false
noncomputable def g44 : Cfg := { N := 56, live := l44, cut := u44, mu := m44, ret := rets }
noncomputable def c44 : Go.Code := Go.Ab.bodyOf Go.Proofs.Try.f44
noncomputable def q44_0 : Nat → (AV → List AObj → Prop) → AQ := fun (n : Nat) (Post : AV → List AObj → Prop) => endQ Try.prog (resultsOf Try.f44) Post
noncomputable def q44_1 : Nat → (AV → List AObj → Prop) → AQ := fun (n : Nat) (Post : AV → List AObj → Prop) => seqQ (fun (s' : Slots) (H' : List AObj) => awp Try.prog g44 n (codeSnd (codeSnd (codeSnd c44))) s' H' (q44_0 n Post)) (q44_0 n Post)
noncomputable def q44_2 : Nat → (AV → List AObj → Prop) → AQ := fun (n : Nat) (Post : AV → List AObj → Prop) => blockQ 0 (q44_1 n Post)
noncomputable def c44_4 : Go.Code := codeFst (codeSnd (codeFst (codeSnd (codeSnd c44))))
theorem s44 : ∀ (a b : T.Mani) (Post : AV → List AObj → Prop),
  condP (!ByteArray.toList { data := List.toArray (Prod.fst a) } == ByteArray.toList { data := List.toArray (Prod.fst b) })
      (Post (AV.bool false)
        [AObj.cells [AV.str { data := List.toArray (Prod.fst a) }, AV.sl 2 (Seq.map T.encR ((0 : Int), []) (Prod.snd a)) Tip.none],
          AObj.cells [AV.str { data := List.toArray (Prod.fst b) }, AV.sl 2 (Seq.map T.encR ((0 : Int), []) (Prod.snd b)) Tip.none]])
      (condP ((↑(List.length (Prod.snd a)) : Int) != (↑(List.length (Prod.snd b)) : Int))
        (Post (AV.bool false)
          [AObj.cells [AV.str { data := List.toArray (Prod.fst a) }, AV.sl 2 (Seq.map T.encR ((0 : Int), []) (Prod.snd a)) Tip.none],
            AObj.cells [AV.str { data := List.toArray (Prod.fst b) }, AV.sl 2 (Seq.map T.encR ((0 : Int), []) (Prod.snd b)) Tip.none]])
        (AWP Try.prog 56 0 c44_4 [(2, AV.ptr 0 0), (3, AV.ptr 1 0), (5, AV.int IntKind.i64 (0 : Int))]
          [AObj.cells [AV.str { data := List.toArray (Prod.fst a) }, AV.sl 2 (Seq.map T.encR ((0 : Int), []) (Prod.snd a)) Tip.none],
            AObj.cells [AV.str { data := List.toArray (Prod.fst b) }, AV.sl 2 (Seq.map T.encR ((0 : Int), []) (Prod.snd b)) Tip.none]]
          (q44_2 0 Post))) →
    ASpec Try.prog 44 [AV.agg (T.encM a), AV.agg (T.encM b)] [] Post := fun a b Post h => Go.Ab.ASpec.of_vc g44 Go.Proofs.Try.func44 (by kernel_rfl) (by kernel_rfl) (by kernel_rfl) (Go.Ab.kc (by kernel_rfl) h)
theorem v44_4 : ∀ (a b : T.Mani) (i : Int) (n : Nat) (Post : AV → List AObj → Prop),
  condP (decide (i < (↑(List.length (Prod.snd a)) : Int)))
      (needP ((0 : Int) ≤ i ∧ i < (↑(List.length (Prod.snd a)) : Int))
        (needP ((0 : Int) ≤ i ∧ i < (↑(List.length (Prod.snd b)) : Int))
          (condP (Prod.fst (List.getD (Prod.snd a) (Int.toNat i) ((0 : Int), [])) != Prod.fst (List.getD (Prod.snd b) (Int.toNat i) ((0 : Int), [])))
            (Post (AV.bool false)
              [AObj.cells [AV.str { data := List.toArray (Prod.fst a) }, AV.sl 2 (Seq.map T.encR ((0 : Int), []) (Prod.snd a)) Tip.none],
                AObj.cells [AV.str { data := List.toArray (Prod.fst b) }, AV.sl 2 (Seq.map T.encR ((0 : Int), []) (Prod.snd b)) Tip.none]])
            (needP ((0 : Int) ≤ i ∧ i < (↑(List.length (Prod.snd a)) : Int))
              (needP ((0 : Int) ≤ i ∧ i < (↑(List.length (Prod.snd b)) : Int))
                (ASpec Try.prog 108
                  [AV.sl 2 (Seq.map T.encN ([], []) (Prod.snd (List.getD (Prod.snd a) (Int.toNat i) ((0 : Int), [])))) Tip.none,
                    AV.sl 2 (Seq.map T.encN ([], []) (Prod.snd (List.getD (Prod.snd b) (Int.toNat i) ((0 : Int), [])))) Tip.none]
                  [AObj.cells [AV.str { data := List.toArray (Prod.fst a) }, AV.sl 2 (Seq.map T.encR ((0 : Int), []) (Prod.snd a)) Tip.none],
                    AObj.cells [AV.str { data := List.toArray (Prod.fst b) }, AV.sl 2 (Seq.map T.encR ((0 : Int), []) (Prod.snd b)) Tip.none]]
                  fun (r : AV) (H' : List AObj) =>
                  ∃ (x : Bool),
                    r = AV.bool x ∧
                      H' =
                          [AObj.cells [AV.str { data := List.toArray (Prod.fst a) }, AV.sl 2 (Seq.map T.encR ((0 : Int), []) (Prod.snd a)) Tip.none],
                            AObj.cells [AV.str { data := List.toArray (Prod.fst b) }, AV.sl 2 (Seq.map T.encR ((0 : Int), []) (Prod.snd b)) Tip.none]] ∧
                        condP (!x)
                          (Post (AV.bool false)
                            [AObj.cells [AV.str { data := List.toArray (Prod.fst a) }, AV.sl 2 (Seq.map T.encR ((0 : Int), []) (Prod.snd a)) Tip.none],
                              AObj.cells [AV.str { data := List.toArray (Prod.fst b) }, AV.sl 2 (Seq.map T.encR ((0 : Int), []) (Prod.snd b)) Tip.none]])
                          (AWP Try.prog 56 n c44_4
                            [(2, AV.ptr 0 0), (3, AV.ptr 1 0), (5, AV.int IntKind.i64 (IntKind.wrap IntKind.i64 (i + (1 : Int))))]
                            [AObj.cells [AV.str { data := List.toArray (Prod.fst a) }, AV.sl 2 (Seq.map T.encR ((0 : Int), []) (Prod.snd a)) Tip.none],
                              AObj.cells [AV.str { data := List.toArray (Prod.fst b) }, AV.sl 2 (Seq.map T.encR ((0 : Int), []) (Prod.snd b)) Tip.none]]
                            (q44_2 n Post))))))))
      (Post (AV.bool true)
        [AObj.cells [AV.str { data := List.toArray (Prod.fst a) }, AV.sl 2 (Seq.map T.encR ((0 : Int), []) (Prod.snd a)) Tip.none],
          AObj.cells [AV.str { data := List.toArray (Prod.fst b) }, AV.sl 2 (Seq.map T.encR ((0 : Int), []) (Prod.snd b)) Tip.none]]) →
    AWP Try.prog 56 n c44_4 [(2, AV.ptr 0 0), (3, AV.ptr 1 0), (5, AV.int IntKind.i64 i)] [AObj.cells (T.encM a), AObj.cells (T.encM b)]
      (q44_2 n Post) := fun a b i n Post h => Go.Ab.AWP.loop' g44 (Cfg.live g44) c44_4 (by kernel_rfl) (by kernel_rfl) (Go.Ab.kc (by kernel_rfl) h)

end
end C
