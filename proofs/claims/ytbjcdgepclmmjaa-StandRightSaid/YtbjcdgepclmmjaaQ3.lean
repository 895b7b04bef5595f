/- Q3: several of this proof's own texts, one behind the other: what each proves stands at its head. -/
import Derived.Test.YtbjcdgepclmmjaaProg
import Derived.Test.YtbjcdgepclmmjaaQ2
section
/- Printed: what the code of functions 58, 38, 37, 183, 278, 279, 61, 166, 59, 64, 47, 182, 60, 65, 63, 67, 68, 69, 57, 7, 8 asks for, by the framework's own reading of it; each line is checked against the code. -/

set_option linter.unusedVariables false
set_option maxRecDepth 100000
set_option maxHeartbeats 4000000
open Go Go.Ab Go.Proofs
namespace Dp
noncomputable section

noncomputable def retD : List (Nat × Ret) := [
  (58, ⟨Bool, fun _ _ x => .bool x, fun _ H _ => H⟩),
  (38, ⟨Bool, fun _ _ x => .bool x, fun _ H _ => H⟩),
  (183, ⟨Int × Bool, fun _ _ x => .tup [.int .i64 x.1, .bool x.2], fun _ H _ => H⟩),
  (278, ⟨Int × Bool, fun _ _ x => .tup [.int .i64 x.1, .bool x.2], fun _ H _ => H⟩),
  (279, ⟨Int, fun _ _ x => .int .i64 x, fun _ H _ => H⟩),
  (280, ⟨Int, fun _ _ x => .int .i64 x, fun _ H _ => H⟩),
  (61, ⟨List UInt8, fun _ _ x => .sl 1 (.map encB 0 x) .none, fun _ H _ => H⟩),
  (166, ⟨List UInt8, fun _ _ x => .sl 1 (.map encB 0 x) .none, fun _ H _ => H⟩),
  (59, ⟨T.Mani × Bool, fun _ _ x => .tup [.agg (T.encM x.1), .bool x.2], fun _ H _ => H⟩),
  (182, ⟨T.Mani × Bool, fun _ _ x => .tup [.agg (T.encM x.1), .bool x.2], fun _ H _ => H⟩),
  (60, ⟨T.Mani × Bool, fun _ _ x => .tup [.agg (T.encM x.1), .bool x.2], fun _ H _ => H⟩),
  (64, ⟨List (List UInt8), fun _ _ x => .sl 1 (.map T.encL [] x) .none, fun _ H _ => H⟩),
  (65, ⟨List (List UInt8), fun _ _ x => .sl 1 (.map T.encL [] x) .none, fun _ H _ => H⟩),
  (63, ⟨Bool, fun _ _ x => .bool x, fun _ H _ => H⟩),
  (67, ⟨List T.Ent × Bool, fun _ _ x => .tup [.sl 2 (.map T.encEn ([], []) x.1) .none, .bool x.2], fun _ H _ => H⟩),
  (68, ⟨List T.Ent × Bool, fun _ _ x => .tup [.sl 2 (.map T.encEn ([], []) x.1) .none, .bool x.2], fun _ H _ => H⟩),
  (69, ⟨Bool, fun _ _ x => .bool x, fun _ H _ => H⟩),
  (37, ⟨Bool, fun _ _ x => .bool x, fun _ H _ => H⟩),
  (47, ⟨ByteArray, fun _ _ x => .str x, fun _ H _ => H⟩),
  (57, ⟨Unit, fun _ _ _ => .bool true, fun _ H _ => H⟩)]
noncomputable def rets : FuncId → List Ret := lookupR (retD ++ W.retW ++ C.retC ++ V.retL)

-- 58
noncomputable def l58 : Nat → List Nat
  | 3 => [0, 3, 6, 7, 8]
  | _ => []
noncomputable def u58 : Nat → Bool
  | _ => false
noncomputable def m58 : Nat → Bool
  | _ => false
noncomputable def g58 : Cfg := { N := 34, live := l58, cut := u58, mu := m58, ret := rets }
noncomputable def c58 : Go.Code := Go.Ab.bodyOf Go.Proofs.Try.f58
noncomputable def q58_0 : Nat → (AV → List AObj → Prop) → AQ := fun (n : Nat) (Post : AV → List AObj → Prop) => endQ Try.prog (resultsOf Try.f58) Post
noncomputable def q58_1 : Nat → (AV → List AObj → Prop) → AQ := fun (n : Nat) (Post : AV → List AObj → Prop) => seqQ (fun (s' : Slots) (H' : List AObj) => awp Try.prog g58 n (codeSnd (codeSnd (codeSnd c58))) s' H' (q58_0 n Post)) (q58_0 n Post)
noncomputable def q58_2 : Nat → (AV → List AObj → Prop) → AQ := fun (n : Nat) (Post : AV → List AObj → Prop) => blockQ 0 (q58_1 n Post)
noncomputable def c58_3 : Go.Code := codeFst (codeSnd (codeFst (codeSnd (codeSnd c58))))
theorem s58 : ∀ (l : List T.Ent) (Post : AV → List AObj → Prop),
  AWP Try.prog 34 0 c58_3
      [(0, AV.sl 2 (Seq.map T.encEn ([], []) l) Tip.none), (3, AV.str { data := #[] }), (6, AV.sl 2 (Seq.map T.encEn ([], []) l) Tip.none),
        (7, AV.int IntKind.i64 (↑(List.length l) : Int)), (8, AV.int IntKind.i64 (0 : Int))]
      [] (q58_2 0 Post) →
    ASpec Try.prog 58 [AV.sl 2 (Seq.map T.encEn ([], []) l) Tip.none] [] Post := fun l Post h => Go.Ab.ASpec.of_vc g58 Go.Proofs.Try.func58 (by kernel_rfl) (by kernel_rfl) (by kernel_rfl) (Go.Ab.kc (by kernel_rfl) h)
theorem v58_3 : ∀ (l : List T.Ent) (last : List UInt8) (n i : Int) (n_1 : Nat) (Post : AV → List AObj → Prop),
  condP (decide (i < n))
      (needP ((0 : Int) ≤ i ∧ i < (↑(List.length l) : Int))
        (ASpec Try.prog 154 [AV.str { data := List.toArray (Prod.fst (List.getD l (Int.toNat i) ([], []))) }]
        [AObj.cells
        [AV.str { data := List.toArray (Prod.fst (List.getD l (Int.toNat i) ([], []))) }, AV.sl 1 (Seq.map encB (0 : UInt8) (Prod.snd (List.getD l (Int.toNat i) ([], [])))) Tip.none]]
        fun (r : AV) (H' : List AObj) =>
        ∃ (x : Bool),
        r = AV.bool x ∧
        H' =
        [AObj.cells
        [AV.str { data := List.toArray (Prod.fst (List.getD l (Int.toNat i) ([], []))) },
        AV.sl 1 (Seq.map encB (0 : UInt8) (Prod.snd (List.getD l (Int.toNat i) ([], [])))) Tip.none]] ∧
        condP (!x)
        (Post (AV.bool false)
        [AObj.cells
        [AV.str { data := List.toArray (Prod.fst (List.getD l (Int.toNat i) ([], []))) },
        AV.sl 1 (Seq.map encB (0 : UInt8) (Prod.snd (List.getD l (Int.toNat i) ([], [])))) Tip.none]])
        (condP
        (Op.bytesLess (ByteArray.toList { data := List.toArray (Prod.fst (List.getD l (Int.toNat i) ([], []))) }) (ByteArray.toList { data := List.toArray last }) ||
        ByteArray.toList { data := List.toArray (Prod.fst (List.getD l (Int.toNat i) ([], []))) } == ByteArray.toList { data := List.toArray last })
        (Post (AV.bool false)
        [AObj.cells
        [AV.str { data := List.toArray (Prod.fst (List.getD l (Int.toNat i) ([], []))) },
        AV.sl 1 (Seq.map encB (0 : UInt8) (Prod.snd (List.getD l (Int.toNat i) ([], [])))) Tip.none]])
        (condP (decide ((↑(List.length (Prod.snd (List.getD l (Int.toNat i) ([], [])))) : Int) > (8192 : Int)))
        (Post (AV.bool false)
        [AObj.cells
        [AV.str { data := List.toArray (Prod.fst (List.getD l (Int.toNat i) ([], []))) },
        AV.sl 1 (Seq.map encB (0 : UInt8) (Prod.snd (List.getD l (Int.toNat i) ([], [])))) Tip.none]])
        (AWP Try.prog 34 n_1 c58_3
        [(0, AV.sl 2 (Seq.map T.encEn ([], []) l) Tip.none), (3, AV.str { data := List.toArray (Prod.fst (List.getD l (Int.toNat i) ([], []))) }),
        (6, AV.sl 2 (Seq.map T.encEn ([], []) l) Tip.none), (7, AV.int IntKind.i64 n),
        (8, AV.int IntKind.i64 (IntKind.wrap IntKind.i64 (i + (1 : Int))))]
        [AObj.cells
        [AV.str { data := List.toArray (Prod.fst (List.getD l (Int.toNat i) ([], []))) },
        AV.sl 1 (Seq.map encB (0 : UInt8) (Prod.snd (List.getD l (Int.toNat i) ([], [])))) Tip.none]]
        (q58_2 n_1 Post))))))
      (Post (AV.bool (decide ((↑(List.length l) : Int) ≤ (24 : Int)))) []) →
    AWP Try.prog 34 n_1 c58_3
      [(0, AV.sl 2 (Seq.map T.encEn ([], []) l) Tip.none), (3, AV.str { data := List.toArray last }), (6, AV.sl 2 (Seq.map T.encEn ([], []) l) Tip.none),
        (7, AV.int IntKind.i64 n), (8, AV.int IntKind.i64 i)]
      [] (q58_2 n_1 Post) := fun l last n i n Post h => Go.Ab.AWP.loop' g58 (Cfg.live g58) c58_3 (by kernel_rfl) (by kernel_rfl) (Go.Ab.kc (by kernel_rfl) h)

-- 38
noncomputable def l38 : Nat → List Nat
  | 2 => [0, 3]
  | _ => []
noncomputable def u38 : Nat → Bool
  | _ => false
noncomputable def m38 : Nat → Bool
  | _ => false
noncomputable def g38 : Cfg := { N := 47, live := l38, cut := u38, mu := m38, ret := rets }
noncomputable def c38 : Go.Code := Go.Ab.bodyOf Go.Proofs.Try.f38
noncomputable def q38_0 : Nat → (AV → List AObj → Prop) → AQ := fun (n : Nat) (Post : AV → List AObj → Prop) => endQ Try.prog (resultsOf Try.f38) Post
noncomputable def q38_1 : Nat → (AV → List AObj → Prop) → AQ := fun (n : Nat) (Post : AV → List AObj → Prop) => seqQ (fun (s' : Slots) (H' : List AObj) => awp Try.prog g38 n (codeSnd (codeSnd c38)) s' H' (q38_0 n Post)) (q38_0 n Post)
noncomputable def q38_2 : Nat → (AV → List AObj → Prop) → AQ := fun (n : Nat) (Post : AV → List AObj → Prop) => blockQ 0 (q38_1 n Post)
noncomputable def c38_2 : Go.Code := codeFst (codeSnd (codeFst (codeSnd c38)))
theorem s38 : ∀ (l : List T.Ent) (Post : AV → List AObj → Prop),
  AWP Try.prog 47 0 c38_2 [(0, AV.sl 2 (Seq.map T.encEn ([], []) l) Tip.none), (3, AV.int IntKind.i64 (0 : Int))] [] (q38_2 0 Post) →
    ASpec Try.prog 38 [AV.sl 2 (Seq.map T.encEn ([], []) l) Tip.none] [] Post := fun l Post h => Go.Ab.ASpec.of_vc g38 Go.Proofs.Try.func38 (by kernel_rfl) (by kernel_rfl) (by kernel_rfl) (Go.Ab.kc (by kernel_rfl) h)
theorem v38_2 : ∀ (l : List T.Ent) (i : Int) (n : Nat) (Post : AV → List AObj → Prop),
  condP (decide (i < (↑(List.length l) : Int)))
      (needP ((0 : Int) ≤ i ∧ i < (↑(List.length l) : Int))
        (ASpec Try.prog 39 [AV.str { data := List.toArray (Prod.fst (List.getD l (Int.toNat i) ([], []))) }] [] fun (r : AV) (H' : List AObj) =>
        ∃ (x : Bool),
        r = AV.bool x ∧
        H' = [] ∧
        condP (!x) (Post (AV.bool false) [])
        (needP ((0 : Int) ≤ i ∧ i < (↑(List.length l) : Int))
        (condP (decide ((↑(List.length (Prod.snd (List.getD l (Int.toNat i) ([], [])))) : Int) > (8192 : Int))) (Post (AV.bool false) [])
        (condP (decide (i > (0 : Int)))
        (needP ((0 : Int) ≤ i ∧ i < (↑(List.length l) : Int))
        (needP ((0 : Int) ≤ IntKind.wrap IntKind.i64 (i - (1 : Int)) ∧ IntKind.wrap IntKind.i64 (i - (1 : Int)) < (↑(List.length l) : Int))
        (condP
        (Op.bytesLess (ByteArray.toList { data := List.toArray (Prod.fst (List.getD l (Int.toNat i) ([], []))) })
        (ByteArray.toList { data := List.toArray (Prod.fst (List.getD l (Int.toNat (IntKind.wrap IntKind.i64 (i - (1 : Int)))) ([], []))) }) ||
        ByteArray.toList { data := List.toArray (Prod.fst (List.getD l (Int.toNat i) ([], []))) } ==
        ByteArray.toList { data := List.toArray (Prod.fst (List.getD l (Int.toNat (IntKind.wrap IntKind.i64 (i - (1 : Int)))) ([], []))) })
        (Post (AV.bool false) [])
        (AWP Try.prog 47 n c38_2
        [(0, AV.sl 2 (Seq.map T.encEn ([], []) l) Tip.none), (3, AV.int IntKind.i64 (IntKind.wrap IntKind.i64 (i + (1 : Int))))] [] (q38_2 n Post)))))
        (AWP Try.prog 47 n c38_2
        [(0, AV.sl 2 (Seq.map T.encEn ([], []) l) Tip.none), (3, AV.int IntKind.i64 (IntKind.wrap IntKind.i64 (i + (1 : Int))))] [] (q38_2 n Post)))))))
      (Post (AV.bool (decide ((↑(List.length l) : Int) ≤ (24 : Int)))) []) →
    AWP Try.prog 47 n c38_2 [(0, AV.sl 2 (Seq.map T.encEn ([], []) l) Tip.none), (3, AV.int IntKind.i64 i)] [] (q38_2 n Post) := fun l i n Post h => Go.Ab.AWP.loop' g38 (Cfg.live g38) c38_2 (by kernel_rfl) (by kernel_rfl) (Go.Ab.kc (by kernel_rfl) h)

-- 37
noncomputable def l37 : Nat → List Nat
  | 4 => [0, 3]
  | _ => []
noncomputable def u37 : Nat → Bool
  | _ => false
noncomputable def m37 : Nat → Bool
  | _ => false
noncomputable def g37 : Cfg := { N := 29, live := l37, cut := u37, mu := m37, ret := rets }
noncomputable def c37 : Go.Code := Go.Ab.bodyOf Go.Proofs.Try.f37
noncomputable def q37_0 : Nat → (AV → List AObj → Prop) → AQ := fun (n : Nat) (Post : AV → List AObj → Prop) => endQ Try.prog (resultsOf Try.f37) Post
noncomputable def q37_1 : Nat → (AV → List AObj → Prop) → AQ := fun (n : Nat) (Post : AV → List AObj → Prop) => seqQ (fun (s' : Slots) (H' : List AObj) => awp Try.prog g37 n (codeSnd (codeSnd (codeSnd c37))) s' H' (q37_0 n Post)) (q37_0 n Post)
noncomputable def q37_2 : Nat → (AV → List AObj → Prop) → AQ := fun (n : Nat) (Post : AV → List AObj → Prop) => blockQ 0 (q37_1 n Post)
noncomputable def c37_4 : Go.Code := codeFst (codeSnd (codeFst (codeSnd (codeSnd c37))))
theorem s37 : ∀ (l : List T.Ent) (Post : AV → List AObj → Prop),
  condP (decide ((↑(List.length l) : Int) > (30 : Int))) (Post (AV.bool true) [])
      (AWP Try.prog 29 0 c37_4 [(0, AV.sl 2 (Seq.map T.encEn ([], []) l) Tip.none), (3, AV.int IntKind.i64 (0 : Int))] [] (q37_2 0 Post)) →
    ASpec Try.prog 37 [AV.sl 2 (Seq.map T.encEn ([], []) l) Tip.none] [] Post := fun l Post h => Go.Ab.ASpec.of_vc g37 Go.Proofs.Try.func37 (by kernel_rfl) (by kernel_rfl) (by kernel_rfl) (Go.Ab.kc (by kernel_rfl) h)
theorem v37_4 : ∀ (l : List T.Ent) (i : Int) (n : Nat) (Post : AV → List AObj → Prop),
  condP (decide (i < (↑(List.length l) : Int)))
      (needP ((0 : Int) ≤ i ∧ i < (↑(List.length l) : Int))
        (condP (decide ((↑(ByteArray.size { data := List.toArray (Prod.fst (List.getD l (Int.toNat i) ([], []))) }) : Int) > (200 : Int))) (Post (AV.bool true) [])
        (needP ((0 : Int) ≤ i ∧ i < (↑(List.length l) : Int))
        (condP (decide ((↑(List.length (Prod.snd (List.getD l (Int.toNat i) ([], [])))) : Int) > (9000 : Int))) (Post (AV.bool true) [])
        (AWP Try.prog 29 n c37_4 [(0, AV.sl 2 (Seq.map T.encEn ([], []) l) Tip.none), (3, AV.int IntKind.i64 (IntKind.wrap IntKind.i64 (i + (1 : Int))))] []
        (q37_2 n Post))))))
      (Post (AV.bool false) []) →
    AWP Try.prog 29 n c37_4 [(0, AV.sl 2 (Seq.map T.encEn ([], []) l) Tip.none), (3, AV.int IntKind.i64 i)] [] (q37_2 n Post) := fun l i n Post h => Go.Ab.AWP.loop' g37 (Cfg.live g37) c37_4 (by kernel_rfl) (by kernel_rfl) (Go.Ab.kc (by kernel_rfl) h)

-- 183
noncomputable def l183 : Nat → List Nat
  | _ => []
noncomputable def u183 : Nat → Bool
  | _ => false
noncomputable def m183 : Nat → Bool
  | _ => false
noncomputable def g183 : Cfg := { N := 11, live := l183, cut := u183, mu := m183, ret := rets }
noncomputable def c183 : Go.Code := Go.Ab.bodyOf Go.Proofs.Try.f183
theorem s183 : ∀ (l : List T.Ent) (s : List UInt8) (Post : AV → List AObj → Prop),
  (ASpec Try.prog 278 [AV.sl 2 (Seq.map T.encEn ([], []) l) Tip.none, AV.str { data := List.toArray s }, AV.fn 279 []] [] fun (r : AV) (H' : List AObj) =>
      ∃ (x : Int × Bool), r = AV.tup [AV.int IntKind.i64 (Prod.fst x), AV.bool (Prod.snd x)] ∧ H' = [] ∧ Post (AV.tup [AV.int IntKind.i64 (Prod.fst x), AV.bool (Prod.snd x)]) []) →
    ASpec Try.prog 183 [AV.sl 2 (Seq.map T.encEn ([], []) l) Tip.none, AV.str { data := List.toArray s }] [] Post := fun l s Post h => Go.Ab.ASpec.of_vc g183 Go.Proofs.Try.func183 (by kernel_rfl) (by kernel_rfl) (by kernel_rfl) (Go.Ab.kc (by kernel_rfl) h)

-- 278
noncomputable def l278 : Nat → List Nat
  | 3 => [0, 1, 2, 8, 9, 10]
  | _ => []
noncomputable def u278 : Nat → Bool
  | _ => false
noncomputable def m278 : Nat → Bool
  | _ => false
noncomputable def g278 : Cfg := { N := 49, live := l278, cut := u278, mu := m278, ret := rets }
noncomputable def c278 : Go.Code := Go.Ab.bodyOf Go.Proofs.Try.f278
noncomputable def q278_0 : Nat → (AV → List AObj → Prop) → AQ := fun (n : Nat) (Post : AV → List AObj → Prop) => endQ Try.prog (resultsOf Try.f278) Post
noncomputable def q278_1 : Nat → (AV → List AObj → Prop) → AQ := fun (n : Nat) (Post : AV → List AObj → Prop) => seqQ (fun (s' : Slots) (H' : List AObj) => awp Try.prog g278 n (codeSnd (codeSnd (codeSnd (codeSnd c278)))) s' H' (q278_0 n Post)) (q278_0 n Post)
noncomputable def q278_2 : Nat → (AV → List AObj → Prop) → AQ := fun (n : Nat) (Post : AV → List AObj → Prop) => blockQ 0 (q278_1 n Post)
noncomputable def c278_3 : Go.Code := codeFst (codeFst (codeSnd (codeSnd (codeSnd c278))))
theorem s278 : ∀ (l : List T.Ent) (s : List UInt8) (Post : AV → List AObj → Prop),
  AWP Try.prog 49 0 c278_3
      [(0, AV.sl 2 (Seq.map T.encEn ([], []) l) Tip.none), (1, AV.str { data := List.toArray s }), (2, AV.fn (279 : FuncId) []),
        (8, AV.int IntKind.i64 (↑(List.length l) : Int)), (9, AV.int IntKind.i64 (0 : Int)), (10, AV.int IntKind.i64 (↑(List.length l) : Int))]
      [] (q278_2 0 Post) →
    ASpec Try.prog 278 [AV.sl 2 (Seq.map T.encEn ([], []) l) Tip.none, AV.str { data := List.toArray s }, AV.fn (279 : FuncId) []] [] Post := fun l s Post h => Go.Ab.ASpec.of_vc g278 Go.Proofs.Try.func278 (by kernel_rfl) (by kernel_rfl) (by kernel_rfl) (Go.Ab.kc (by kernel_rfl) h)
theorem v278_3 : ∀ (l : List T.Ent) (s : List UInt8) (n i j : Int) (n_1 : Nat) (Post : AV → List AObj → Prop),
  condP (decide (i < j))
      (needP ((0 : Int) ≤ (1 : Int))
        (needP
        ((0 : Int) ≤ IntKind.wrap IntKind.i64 (Int.fdiv (IntKind.wrap IntKind.u64 (IntKind.wrap IntKind.i64 (i + j))) (2 : Int)) ∧
        IntKind.wrap IntKind.i64 (Int.fdiv (IntKind.wrap IntKind.u64 (IntKind.wrap IntKind.i64 (i + j))) (2 : Int)) < (↑(List.length l) : Int))
        (ASpec Try.prog 279
        [AV.agg
        [AV.str
        {
        data :=
        List.toArray (Prod.fst (List.getD l (Int.toNat (IntKind.wrap IntKind.i64 (Int.fdiv (IntKind.wrap IntKind.u64 (IntKind.wrap IntKind.i64 (i + j))) (2 : Int)))) ([], []))) },
        AV.sl 1
        (Seq.map encB (0 : UInt8)
        (Prod.snd (List.getD l (Int.toNat (IntKind.wrap IntKind.i64 (Int.fdiv (IntKind.wrap IntKind.u64 (IntKind.wrap IntKind.i64 (i + j))) (2 : Int)))) ([], []))))
        Tip.none],
        AV.str { data := List.toArray s }]
        [] fun (r : AV) (H' : List AObj) =>
        ∃ (x : Int),
        r = AV.int IntKind.i64 x ∧
        H' = [] ∧
        condP (decide (x < (0 : Int)))
        (AWP Try.prog 49 n_1 c278_3
        [(0, AV.sl 2 (Seq.map T.encEn ([], []) l) Tip.none), (1, AV.str { data := List.toArray s }), (2, AV.fn (279 : FuncId) []),
        (8, AV.int IntKind.i64 n),
        (9,
        AV.int IntKind.i64 (IntKind.wrap IntKind.i64 (IntKind.wrap IntKind.i64 (Int.fdiv (IntKind.wrap IntKind.u64 (IntKind.wrap IntKind.i64 (i + j))) (2 : Int)) + (1 : Int)))),
        (10, AV.int IntKind.i64 j)]
        [] (q278_2 n_1 Post))
        (AWP Try.prog 49 n_1 c278_3
        [(0, AV.sl 2 (Seq.map T.encEn ([], []) l) Tip.none), (1, AV.str { data := List.toArray s }), (2, AV.fn (279 : FuncId) []),
        (8, AV.int IntKind.i64 n), (9, AV.int IntKind.i64 i),
        (10, AV.int IntKind.i64 (IntKind.wrap IntKind.i64 (Int.fdiv (IntKind.wrap IntKind.u64 (IntKind.wrap IntKind.i64 (i + j))) (2 : Int))))]
        [] (q278_2 n_1 Post)))))
      (condP (decide (i < n))
        (needP ((0 : Int) ≤ i ∧ i < (↑(List.length l) : Int))
        (ASpec Try.prog 279
        [AV.agg
        [AV.str { data := List.toArray (Prod.fst (List.getD l (Int.toNat i) ([], []))) }, AV.sl 1 (Seq.map encB (0 : UInt8) (Prod.snd (List.getD l (Int.toNat i) ([], [])))) Tip.none],
        AV.str { data := List.toArray s }]
        [] fun (r : AV) (H' : List AObj) => ∃ (x : Int), r = AV.int IntKind.i64 x ∧ H' = [] ∧ Post (AV.tup [AV.int IntKind.i64 i, AV.bool (x == (0 : Int))]) []))
        (Post (AV.tup [AV.int IntKind.i64 i, AV.bool false]) [])) →
    AWP Try.prog 49 n_1 c278_3
      [(0, AV.sl 2 (Seq.map T.encEn ([], []) l) Tip.none), (1, AV.str { data := List.toArray s }), (2, AV.fn (279 : FuncId) []), (8, AV.int IntKind.i64 n),
        (9, AV.int IntKind.i64 i), (10, AV.int IntKind.i64 j)]
      [] (q278_2 n_1 Post) := fun l s n i j n Post h => Go.Ab.AWP.loop' g278 (Cfg.live g278) c278_3 (by kernel_rfl) (by kernel_rfl) (Go.Ab.kc (by kernel_rfl) h)

-- 279
noncomputable def l279 : Nat → List Nat
  | _ => []
noncomputable def u279 : Nat → Bool
  | _ => false
noncomputable def m279 : Nat → Bool
  | _ => false
noncomputable def g279 : Cfg := { N := 9, live := l279, cut := u279, mu := m279, ret := rets }
noncomputable def c279 : Go.Code := Go.Ab.bodyOf Go.Proofs.Try.f279
theorem s279 : ∀ (x : T.Ent) (s : List UInt8) (Post : AV → List AObj → Prop),
  (ASpec Try.prog 280 [AV.str { data := List.toArray (Prod.fst x) }, AV.str { data := List.toArray s }]
      [AObj.cells [AV.str { data := List.toArray (Prod.fst x) }, AV.sl 1 (Seq.map encB (0 : UInt8) (Prod.snd x)) Tip.none]] fun (r : AV) (H' : List AObj) =>
      ∃ (x_1 : Int),
        r = AV.int IntKind.i64 x_1 ∧
        H' = [AObj.cells [AV.str { data := List.toArray (Prod.fst x) }, AV.sl 1 (Seq.map encB (0 : UInt8) (Prod.snd x)) Tip.none]] ∧
        Post (AV.int IntKind.i64 x_1) [AObj.cells [AV.str { data := List.toArray (Prod.fst x) }, AV.sl 1 (Seq.map encB (0 : UInt8) (Prod.snd x)) Tip.none]]) →
    ASpec Try.prog 279 [AV.agg (T.encEn x), AV.str { data := List.toArray s }] [] Post := fun x s Post h => Go.Ab.ASpec.of_vc g279 Go.Proofs.Try.func279 (by kernel_rfl) (by kernel_rfl) (by kernel_rfl) (Go.Ab.kc (by kernel_rfl) h)

-- 61
noncomputable def l61 : Nat → List Nat
  | _ => []
noncomputable def u61 : Nat → Bool
  | _ => false
noncomputable def m61 : Nat → Bool
  | _ => false
noncomputable def g61 : Cfg := { N := 23, live := l61, cut := u61, mu := m61, ret := rets }
noncomputable def c61 : Go.Code := Go.Ab.bodyOf Go.Proofs.Try.f61
theorem s61 : ∀ (l : List T.Ent) (s : List UInt8) (Post : AV → List AObj → Prop),
  (ASpec Try.prog 183 [AV.sl 2 (Seq.map T.encEn ([], []) l) Tip.none, AV.str { data := List.toArray s }] [] fun (r : AV) (H' : List AObj) =>
      ∃ (x : Int × Bool),
        r = AV.tup [AV.int IntKind.i64 (Prod.fst x), AV.bool (Prod.snd x)] ∧
        H' = [] ∧
        condP (Prod.snd x)
        (needP ((0 : Int) ≤ Prod.fst x ∧ Prod.fst x < (↑(List.length l) : Int))
        (ASpec Try.prog 166 [AV.sl 1 (Seq.map encB (0 : UInt8) (Prod.snd (List.getD l (Int.toNat (Prod.fst x)) ([], [])))) Tip.none] [] fun (r : AV) (H' : List AObj) =>
        ∃ (x : List UInt8), r = AV.sl 1 (Seq.map encB (0 : UInt8) x) Tip.none ∧ H' = [] ∧ Post (AV.sl 1 (Seq.map encB (0 : UInt8) x) Tip.none) []))
        (ASpec Try.prog 184 [AV.agg [AV.str { data := List.toArray s }, AV.sl 0 (Seq.raw []) Tip.nil]] [] fun (r : AV) (H' : List AObj) =>
        ∃ (x : List UInt8), r = AV.sl 1 (Seq.map encB (0 : UInt8) x) Tip.none ∧ H' = [] ∧ Post (AV.sl 1 (Seq.map encB (0 : UInt8) x) Tip.none) [])) →
    ASpec Try.prog 61 [AV.sl 2 (Seq.map T.encEn ([], []) l) Tip.none, AV.str { data := List.toArray s }] [] Post := fun l s Post h => Go.Ab.ASpec.of_vc g61 Go.Proofs.Try.func61 (by kernel_rfl) (by kernel_rfl) (by kernel_rfl) (Go.Ab.kc (by kernel_rfl) h)

-- 166
noncomputable def l166 : Nat → List Nat
  | _ => []
noncomputable def u166 : Nat → Bool
  | _ => false
noncomputable def m166 : Nat → Bool
  | _ => false
noncomputable def g166 : Cfg := { N := 8, live := l166, cut := u166, mu := m166, ret := rets }
noncomputable def c166 : Go.Code := Go.Ab.bodyOf Go.Proofs.Try.f166
theorem s166 : ∀ (b : List UInt8) (Post : AV → List AObj → Prop),
  (∀ (b_1 : Bool),
      (b_1 = true → Seq.toList (Seq.map encB (0 : UInt8) b) = []) →
        condP b_1 (Post (AV.sl 0 (Seq.raw []) Tip.nil) [])
        (needP (∀ (x : UInt8), List.all (encB x) oneAV = true)
        (needP ((0 + List.length b) * 1 ≤ 140737488351232) (Post (AV.sl 1 (Seq.app (Seq.raw []) (Seq.map encB (0 : UInt8) b)) (Tip.tok 0)) [AObj.tok])))) →
    ASpec Try.prog 166 [AV.sl 1 (Seq.map encB (0 : UInt8) b) Tip.none] [] Post := fun b Post h => Go.Ab.ASpec.of_vc g166 Go.Proofs.Try.func166 (by kernel_rfl) (by kernel_rfl) (by kernel_rfl) (Go.Ab.kc (by kernel_rfl) h)

-- 59
noncomputable def l59 : Nat → List Nat
  | _ => []
noncomputable def u59 : Nat → Bool
  | _ => false
noncomputable def m59 : Nat → Bool
  | _ => false
noncomputable def g59 : Cfg := { N := 26, live := l59, cut := u59, mu := m59, ret := rets }
noncomputable def c59 : Go.Code := Go.Ab.bodyOf Go.Proofs.Try.f59
theorem s59 : ∀ (l : List T.Ent) (s : List UInt8) (Post : AV → List AObj → Prop),
  (ASpec Try.prog 61 [AV.sl 2 (Seq.map T.encEn ([], []) l) Tip.none, AV.str { data := List.toArray s }] [AObj.cells [AV.str { data := #[] }, AV.sl 0 (Seq.raw []) Tip.nil]]
      fun (r : AV) (H' : List AObj) =>
      ∃ (x : List UInt8),
        r = AV.sl 1 (Seq.map encB (0 : UInt8) x) Tip.none ∧
        H' = [AObj.cells [AV.str { data := #[] }, AV.sl 0 (Seq.raw []) Tip.nil]] ∧
        ASpec Try.prog 181 [AV.sl 1 (Seq.map encB (0 : UInt8) x) Tip.none] [AObj.cells [AV.str { data := #[] }, AV.sl 0 (Seq.raw []) Tip.nil]]
        fun (r : AV) (H' : List AObj) =>
        ∃ (x : T.Mani × Int),
        r =
        AV.tup
        [AV.agg [AV.str { data := List.toArray (Prod.fst (Prod.fst x)) }, AV.sl 2 (Seq.map T.encR ((0 : Int), []) (Prod.snd (Prod.fst x))) Tip.none],
        AV.int IntKind.i64 (Prod.snd x)] ∧
        H' = [AObj.cells [AV.str { data := #[] }, AV.sl 0 (Seq.raw []) Tip.nil]] ∧
        condP (Prod.snd x != (0 : Int))
        (Post (AV.tup [AV.agg [AV.str { data := List.toArray s }, AV.sl 0 (Seq.raw []) Tip.nil], AV.bool false])
        [AObj.cells [AV.str { data := List.toArray s }, AV.sl 0 (Seq.raw []) Tip.nil],
        AObj.cells [AV.str { data := List.toArray (Prod.fst (Prod.fst x)) }, AV.sl 2 (Seq.map T.encR ((0 : Int), []) (Prod.snd (Prod.fst x))) Tip.none]])
        (condP (!ByteArray.toList { data := List.toArray (Prod.fst (Prod.fst x)) } == ByteArray.toList { data := List.toArray s })
        (Post (AV.tup [AV.agg [AV.str { data := List.toArray s }, AV.sl 0 (Seq.raw []) Tip.nil], AV.bool false])
        [AObj.cells [AV.str { data := List.toArray s }, AV.sl 0 (Seq.raw []) Tip.nil],
        AObj.cells [AV.str { data := List.toArray (Prod.fst (Prod.fst x)) }, AV.sl 2 (Seq.map T.encR ((0 : Int), []) (Prod.snd (Prod.fst x))) Tip.none]])
        (Post
        (AV.tup [AV.agg [AV.str { data := List.toArray (Prod.fst (Prod.fst x)) }, AV.sl 2 (Seq.map T.encR ((0 : Int), []) (Prod.snd (Prod.fst x))) Tip.none], AV.bool true])
        [AObj.cells [AV.str { data := List.toArray (Prod.fst (Prod.fst x)) }, AV.sl 2 (Seq.map T.encR ((0 : Int), []) (Prod.snd (Prod.fst x))) Tip.none],
        AObj.cells [AV.str { data := List.toArray (Prod.fst (Prod.fst x)) }, AV.sl 2 (Seq.map T.encR ((0 : Int), []) (Prod.snd (Prod.fst x))) Tip.none]]))) →
    ASpec Try.prog 59 [AV.sl 2 (Seq.map T.encEn ([], []) l) Tip.none, AV.str { data := List.toArray s }] [] Post := fun l s Post h => Go.Ab.ASpec.of_vc g59 Go.Proofs.Try.func59 (by kernel_rfl) (by kernel_rfl) (by kernel_rfl) (Go.Ab.kc (by kernel_rfl) h)

-- 64
noncomputable def l64 : Nat → List Nat
  | 3 => [0, 3, 8, 9, 10]
  | _ => []
noncomputable def u64 : Nat → Bool
  | _ => false
noncomputable def m64 : Nat → Bool
  | _ => false
noncomputable def g64 : Cfg := { N := 30, live := l64, cut := u64, mu := m64, ret := rets }
noncomputable def c64 : Go.Code := Go.Ab.bodyOf Go.Proofs.Try.f64
noncomputable def q64_0 : Nat → (AV → List AObj → Prop) → AQ := fun (n : Nat) (Post : AV → List AObj → Prop) => endQ Try.prog (resultsOf Try.f64) Post
noncomputable def q64_1 : Nat → (AV → List AObj → Prop) → AQ := fun (n : Nat) (Post : AV → List AObj → Prop) => seqQ (fun (s' : Slots) (H' : List AObj) => awp Try.prog g64 n (codeSnd (codeSnd (codeSnd c64))) s' H' (q64_0 n Post)) (q64_0 n Post)
noncomputable def q64_2 : Nat → (AV → List AObj → Prop) → AQ := fun (n : Nat) (Post : AV → List AObj → Prop) => blockQ 0 (q64_1 n Post)
noncomputable def c64_3 : Go.Code := codeFst (codeSnd (codeFst (codeSnd (codeSnd c64))))
theorem s64 : ∀ (l : List T.Ent) (Post : AV → List AObj → Prop),
  AWP Try.prog 30 0 c64_3
      [(0, AV.sl 2 (Seq.map T.encEn ([], []) l) Tip.none), (3, AV.sl 0 (Seq.raw []) Tip.nil), (8, AV.sl 2 (Seq.map T.encEn ([], []) l) Tip.none),
        (9, AV.int IntKind.i64 (↑(List.length l) : Int)), (10, AV.int IntKind.i64 (0 : Int))]
      [] (q64_2 0 Post) →
    ASpec Try.prog 64 [AV.sl 2 (Seq.map T.encEn ([], []) l) Tip.none] [] Post := fun l Post h => Go.Ab.ASpec.of_vc g64 Go.Proofs.Try.func64 (by kernel_rfl) (by kernel_rfl) (by kernel_rfl) (Go.Ab.kc (by kernel_rfl) h)
theorem v64_3 : ∀ (l : List T.Ent) (acc : List (List UInt8)) (n i : Int) (n_1 : Nat) (Post : AV → List AObj → Prop),
  condP (decide (i < n))
      (needP ((0 : Int) ≤ i ∧ i < (↑(List.length l) : Int))
        (ASpec Try.prog 59 [AV.sl 2 (Seq.map T.encEn ([], []) l) Tip.none, AV.str { data := List.toArray (Prod.fst (List.getD l (Int.toNat i) ([], []))) }]
        [AObj.tok,
        AObj.cells
        [AV.str { data := List.toArray (Prod.fst (List.getD l (Int.toNat i) ([], []))) }, AV.sl 1 (Seq.map encB (0 : UInt8) (Prod.snd (List.getD l (Int.toNat i) ([], [])))) Tip.none]]
        fun (r : AV) (H' : List AObj) =>
        ∃ (x : T.Mani × Bool),
        r = AV.tup [AV.agg [AV.str { data := List.toArray (Prod.fst (Prod.fst x)) }, AV.sl 2 (Seq.map T.encR ((0 : Int), []) (Prod.snd (Prod.fst x))) Tip.none], AV.bool (Prod.snd x)] ∧
        H' =
        [AObj.tok,
        AObj.cells
        [AV.str { data := List.toArray (Prod.fst (List.getD l (Int.toNat i) ([], []))) },
        AV.sl 1 (Seq.map encB (0 : UInt8) (Prod.snd (List.getD l (Int.toNat i) ([], [])))) Tip.none]] ∧
        condP (!Prod.snd x)
        (needP ((List.length acc + 1) * 16 ≤ 140737488351232)
        (AWP Try.prog 30 n_1 c64_3
        [(0, AV.sl 2 (Seq.map T.encEn ([], []) l) Tip.none),
        (3,
        AV.sl 1 (Seq.app (Seq.map T.encL [] acc) (Seq.raw [[AV.str { data := List.toArray (Prod.fst (List.getD l (Int.toNat i) ([], []))) }]])) (Tip.tok 3)),
        (8, AV.sl 2 (Seq.map T.encEn ([], []) l) Tip.none), (9, AV.int IntKind.i64 n),
        (10, AV.int IntKind.i64 (IntKind.wrap IntKind.i64 (i + (1 : Int))))]
        [AObj.gone,
        AObj.cells
        [AV.str { data := List.toArray (Prod.fst (List.getD l (Int.toNat i) ([], []))) },
        AV.sl 1 (Seq.map encB (0 : UInt8) (Prod.snd (List.getD l (Int.toNat i) ([], [])))) Tip.none],
        AObj.cells [AV.str { data := List.toArray (Prod.fst (Prod.fst x)) }, AV.sl 2 (Seq.map T.encR ((0 : Int), []) (Prod.snd (Prod.fst x))) Tip.none], AObj.tok]
        (q64_2 n_1 Post)))
        (AWP Try.prog 30 n_1 c64_3
        [(0, AV.sl 2 (Seq.map T.encEn ([], []) l) Tip.none), (3, AV.sl 1 (Seq.map T.encL [] acc) (Tip.tok 0)),
        (8, AV.sl 2 (Seq.map T.encEn ([], []) l) Tip.none), (9, AV.int IntKind.i64 n),
        (10, AV.int IntKind.i64 (IntKind.wrap IntKind.i64 (i + (1 : Int))))]
        [AObj.tok,
        AObj.cells
        [AV.str { data := List.toArray (Prod.fst (List.getD l (Int.toNat i) ([], []))) },
        AV.sl 1 (Seq.map encB (0 : UInt8) (Prod.snd (List.getD l (Int.toNat i) ([], [])))) Tip.none],
        AObj.cells [AV.str { data := List.toArray (Prod.fst (Prod.fst x)) }, AV.sl 2 (Seq.map T.encR ((0 : Int), []) (Prod.snd (Prod.fst x))) Tip.none]]
        (q64_2 n_1 Post))))
      (Post (AV.sl 1 (Seq.map T.encL [] acc) (Tip.tok 0)) [AObj.tok]) →
    AWP Try.prog 30 n_1 c64_3
      [(0, AV.sl 2 (Seq.map T.encEn ([], []) l) Tip.none), (3, AV.sl 1 (Seq.map T.encL [] acc) (Tip.tok 0)),
        (8, AV.sl 2 (Seq.map T.encEn ([], []) l) Tip.none), (9, AV.int IntKind.i64 n), (10, AV.int IntKind.i64 i)]
      [AObj.tok] (q64_2 n_1 Post) := fun l acc n i n Post h => Go.Ab.AWP.loop' g64 (Cfg.live g64) c64_3 (by kernel_rfl) (by kernel_rfl) (Go.Ab.kc (by kernel_rfl) h)

-- 47
noncomputable def l47 : Nat → List Nat
  | 2 => [0, 1, 5]
  | _ => []
noncomputable def u47 : Nat → Bool
  | _ => false
noncomputable def m47 : Nat → Bool
  | _ => false
noncomputable def g47 : Cfg := { N := 28, live := l47, cut := u47, mu := m47, ret := rets }
noncomputable def c47 : Go.Code := Go.Ab.bodyOf Go.Proofs.Try.f47
noncomputable def q47_0 : Nat → (AV → List AObj → Prop) → AQ := fun (n : Nat) (Post : AV → List AObj → Prop) => endQ Try.prog (resultsOf Try.f47) Post
noncomputable def q47_1 : Nat → (AV → List AObj → Prop) → AQ := fun (n : Nat) (Post : AV → List AObj → Prop) => seqQ (fun (s' : Slots) (H' : List AObj) => awp Try.prog g47 n (codeSnd (codeSnd c47)) s' H' (q47_0 n Post)) (q47_0 n Post)
noncomputable def q47_2 : Nat → (AV → List AObj → Prop) → AQ := fun (n : Nat) (Post : AV → List AObj → Prop) => blockQ 0 (q47_1 n Post)
noncomputable def c47_2 : Go.Code := codeFst (codeSnd (codeFst (codeSnd c47)))
theorem s47 : ∀ (l : List T.Ent) (s : List UInt8) (Post : AV → List AObj → Prop),
  AWP Try.prog 28 0 c47_2
      [(0, AV.sl 2 (Seq.map T.encEn ([], []) l) Tip.none), (1, AV.str { data := List.toArray s }), (5, AV.int IntKind.i64 (0 : Int))] [] (q47_2 0 Post) →
    ASpec Try.prog 47 [AV.sl 2 (Seq.map T.encEn ([], []) l) Tip.none, AV.str { data := List.toArray s }] [] Post := fun l s Post h => Go.Ab.ASpec.of_vc g47 Go.Proofs.Try.func47 (by kernel_rfl) (by kernel_rfl) (by kernel_rfl) (Go.Ab.kc (by kernel_rfl) h)
theorem v47_2 : ∀ (l : List T.Ent) (s : List UInt8) (i : Int) (n : Nat) (Post : AV → List AObj → Prop),
  condP (decide (i < (↑(List.length l) : Int)))
      (needP ((0 : Int) ≤ i ∧ i < (↑(List.length l) : Int))
        (condP (ByteArray.toList { data := List.toArray (Prod.fst (List.getD l (Int.toNat i) ([], []))) } == ByteArray.toList { data := List.toArray s })
        (needP ((0 : Int) ≤ i ∧ i < (↑(List.length l) : Int))
        (needP (allBytes (Seq.map encB (0 : UInt8) (Prod.snd (List.getD l (Int.toNat i) ([], [])))))
        (Post (AV.str (bytesOf (Seq.map encB (0 : UInt8) (Prod.snd (List.getD l (Int.toNat i) ([], [])))))) [])))
        (AWP Try.prog 28 n c47_2
        [(0, AV.sl 2 (Seq.map T.encEn ([], []) l) Tip.none), (1, AV.str { data := List.toArray s }),
        (5, AV.int IntKind.i64 (IntKind.wrap IntKind.i64 (i + (1 : Int))))]
        [] (q47_2 n Post))))
      (ASpec Try.prog 172 [AV.agg [AV.str { data := List.toArray s }, AV.sl 0 (Seq.raw []) Tip.nil]] [] fun (r : AV) (H' : List AObj) =>
        ∃ (x : ByteArray), r = AV.str x ∧ H' = [] ∧ Post (AV.str x) []) →
    AWP Try.prog 28 n c47_2 [(0, AV.sl 2 (Seq.map T.encEn ([], []) l) Tip.none), (1, AV.str { data := List.toArray s }), (5, AV.int IntKind.i64 i)] []
      (q47_2 n Post) := fun l s i n Post h => Go.Ab.AWP.loop' g47 (Cfg.live g47) c47_2 (by kernel_rfl) (by kernel_rfl) (Go.Ab.kc (by kernel_rfl) h)

-- 182
noncomputable def l182 : Nat → List Nat
  | _ => []
noncomputable def u182 : Nat → Bool
  | _ => false
noncomputable def m182 : Nat → Bool
  | _ => false
noncomputable def g182 : Cfg := { N := 24, live := l182, cut := u182, mu := m182, ret := rets }
noncomputable def c182 : Go.Code := Go.Ab.bodyOf Go.Proofs.Try.f182
theorem s182 : ∀ (s b : List UInt8) (Post : AV → List AObj → Prop),
  (ASpec Try.prog 277 [AV.str { data := List.toArray b }] [AObj.cells [AV.str { data := #[] }, AV.sl 0 (Seq.raw []) Tip.nil]] fun (r : AV) (H' : List AObj) =>
      ∃ (x : T.Mani × Int),
        r =
        AV.tup
        [AV.agg [AV.str { data := List.toArray (Prod.fst (Prod.fst x)) }, AV.sl 2 (Seq.map T.encR ((0 : Int), []) (Prod.snd (Prod.fst x))) Tip.none], AV.int IntKind.i64 (Prod.snd x)] ∧
        H' = [AObj.cells [AV.str { data := #[] }, AV.sl 0 (Seq.raw []) Tip.nil]] ∧
        condP (Prod.snd x != (0 : Int))
        (Post (AV.tup [AV.agg [AV.str { data := List.toArray s }, AV.sl 0 (Seq.raw []) Tip.nil], AV.bool false])
        [AObj.cells [AV.str { data := List.toArray s }, AV.sl 0 (Seq.raw []) Tip.nil],
        AObj.cells [AV.str { data := List.toArray (Prod.fst (Prod.fst x)) }, AV.sl 2 (Seq.map T.encR ((0 : Int), []) (Prod.snd (Prod.fst x))) Tip.none]])
        (condP (!ByteArray.toList { data := List.toArray (Prod.fst (Prod.fst x)) } == ByteArray.toList { data := List.toArray s })
        (Post (AV.tup [AV.agg [AV.str { data := List.toArray s }, AV.sl 0 (Seq.raw []) Tip.nil], AV.bool false])
        [AObj.cells [AV.str { data := List.toArray s }, AV.sl 0 (Seq.raw []) Tip.nil],
        AObj.cells [AV.str { data := List.toArray (Prod.fst (Prod.fst x)) }, AV.sl 2 (Seq.map T.encR ((0 : Int), []) (Prod.snd (Prod.fst x))) Tip.none]])
        (Post (AV.tup [AV.agg [AV.str { data := List.toArray (Prod.fst (Prod.fst x)) }, AV.sl 2 (Seq.map T.encR ((0 : Int), []) (Prod.snd (Prod.fst x))) Tip.none], AV.bool true])
        [AObj.cells [AV.str { data := List.toArray (Prod.fst (Prod.fst x)) }, AV.sl 2 (Seq.map T.encR ((0 : Int), []) (Prod.snd (Prod.fst x))) Tip.none],
        AObj.cells [AV.str { data := List.toArray (Prod.fst (Prod.fst x)) }, AV.sl 2 (Seq.map T.encR ((0 : Int), []) (Prod.snd (Prod.fst x))) Tip.none]]))) →
    ASpec Try.prog 182 [AV.str { data := List.toArray s }, AV.str { data := List.toArray b }] [] Post := fun s b Post h => Go.Ab.ASpec.of_vc g182 Go.Proofs.Try.func182 (by kernel_rfl) (by kernel_rfl) (by kernel_rfl) (Go.Ab.kc (by kernel_rfl) h)

-- 60
noncomputable def l60 : Nat → List Nat
  | _ => []
noncomputable def u60 : Nat → Bool
  | _ => false
noncomputable def m60 : Nat → Bool
  | _ => false
noncomputable def g60 : Cfg := { N := 13, live := l60, cut := u60, mu := m60, ret := rets }
noncomputable def c60 : Go.Code := Go.Ab.bodyOf Go.Proofs.Try.f60
theorem s60 : ∀ (l : List T.Ent) (s : List UInt8) (Post : AV → List AObj → Prop),
  (ASpec Try.prog 47 [AV.sl 2 (Seq.map T.encEn ([], []) l) Tip.none, AV.str { data := List.toArray s }] [AObj.cells [AV.str { data := #[] }, AV.sl 0 (Seq.raw []) Tip.nil]]
      fun (r : AV) (H' : List AObj) =>
      ∃ (x : ByteArray),
        r = AV.str x ∧
        H' = [AObj.cells [AV.str { data := #[] }, AV.sl 0 (Seq.raw []) Tip.nil]] ∧
        ASpec Try.prog 182 [AV.str { data := List.toArray s }, AV.str x] [AObj.cells [AV.str { data := #[] }, AV.sl 0 (Seq.raw []) Tip.nil]] fun (r : AV) (H' : List AObj) =>
        ∃ (x : T.Mani × Bool),
        r = AV.tup [AV.agg [AV.str { data := List.toArray (Prod.fst (Prod.fst x)) }, AV.sl 2 (Seq.map T.encR ((0 : Int), []) (Prod.snd (Prod.fst x))) Tip.none], AV.bool (Prod.snd x)] ∧
        H' = [AObj.cells [AV.str { data := #[] }, AV.sl 0 (Seq.raw []) Tip.nil]] ∧
        Post
        (AV.tup
        [AV.agg [AV.str { data := List.toArray (Prod.fst (Prod.fst x)) }, AV.sl 2 (Seq.map T.encR ((0 : Int), []) (Prod.snd (Prod.fst x))) Tip.none], AV.bool (Prod.snd x)])
        [AObj.cells [AV.str { data := List.toArray (Prod.fst (Prod.fst x)) }, AV.sl 2 (Seq.map T.encR ((0 : Int), []) (Prod.snd (Prod.fst x))) Tip.none]]) →
    ASpec Try.prog 60 [AV.sl 2 (Seq.map T.encEn ([], []) l) Tip.none, AV.str { data := List.toArray s }] [] Post := fun l s Post h => Go.Ab.ASpec.of_vc g60 Go.Proofs.Try.func60 (by kernel_rfl) (by kernel_rfl) (by kernel_rfl) (Go.Ab.kc (by kernel_rfl) h)

-- 65
noncomputable def l65 : Nat → List Nat
  | 3 => [0, 3, 4]
  | _ => []
noncomputable def u65 : Nat → Bool
  | _ => false
noncomputable def m65 : Nat → Bool
  | _ => false
noncomputable def g65 : Cfg := { N := 34, live := l65, cut := u65, mu := m65, ret := rets }
noncomputable def c65 : Go.Code := Go.Ab.bodyOf Go.Proofs.Try.f65
noncomputable def q65_0 : Nat → (AV → List AObj → Prop) → AQ := fun (n : Nat) (Post : AV → List AObj → Prop) => endQ Try.prog (resultsOf Try.f65) Post
noncomputable def q65_1 : Nat → (AV → List AObj → Prop) → AQ := fun (n : Nat) (Post : AV → List AObj → Prop) => seqQ (fun (s' : Slots) (H' : List AObj) => awp Try.prog g65 n (codeSnd (codeSnd (codeSnd c65))) s' H' (q65_0 n Post)) (q65_0 n Post)
noncomputable def q65_2 : Nat → (AV → List AObj → Prop) → AQ := fun (n : Nat) (Post : AV → List AObj → Prop) => blockQ 0 (q65_1 n Post)
noncomputable def c65_3 : Go.Code := codeFst (codeSnd (codeFst (codeSnd (codeSnd c65))))
theorem s65 : ∀ (l : List T.Ent) (Post : AV → List AObj → Prop),
  AWP Try.prog 34 0 c65_3
      [(0, AV.sl 2 (Seq.map T.encEn ([], []) l) Tip.none), (3, AV.sl 0 (Seq.raw []) Tip.nil), (4, AV.int IntKind.i64 (0 : Int))] [] (q65_2 0 Post) →
    ASpec Try.prog 65 [AV.sl 2 (Seq.map T.encEn ([], []) l) Tip.none] [] Post := fun l Post h => Go.Ab.ASpec.of_vc g65 Go.Proofs.Try.func65 (by kernel_rfl) (by kernel_rfl) (by kernel_rfl) (Go.Ab.kc (by kernel_rfl) h)
theorem v65_3 : ∀ (l : List T.Ent) (acc : List (List UInt8)) (i : Int) (n : Nat) (Post : AV → List AObj → Prop),
  condP (decide (i < (↑(List.length l) : Int)))
      (needP ((0 : Int) ≤ i ∧ i < (↑(List.length l) : Int))
        (ASpec Try.prog 60 [AV.sl 2 (Seq.map T.encEn ([], []) l) Tip.none, AV.str { data := List.toArray (Prod.fst (List.getD l (Int.toNat i) ([], []))) }] [AObj.tok]
        fun (r : AV) (H' : List AObj) =>
        ∃ (x : T.Mani × Bool),
        r = AV.tup [AV.agg [AV.str { data := List.toArray (Prod.fst (Prod.fst x)) }, AV.sl 2 (Seq.map T.encR ((0 : Int), []) (Prod.snd (Prod.fst x))) Tip.none], AV.bool (Prod.snd x)] ∧
        H' = [AObj.tok] ∧
        condP (!Prod.snd x)
        (needP ((0 : Int) ≤ i ∧ i < (↑(List.length l) : Int))
        (needP ((List.length acc + 1) * 16 ≤ 140737488351232)
        (AWP Try.prog 34 n c65_3
        [(0, AV.sl 2 (Seq.map T.encEn ([], []) l) Tip.none),
        (3,
        AV.sl 1 (Seq.app (Seq.map T.encL [] acc) (Seq.raw [[AV.str { data := List.toArray (Prod.fst (List.getD l (Int.toNat i) ([], []))) }]])) (Tip.tok 2)),
        (4, AV.int IntKind.i64 (IntKind.wrap IntKind.i64 (i + (1 : Int))))]
        [AObj.gone, AObj.cells [AV.str { data := List.toArray (Prod.fst (Prod.fst x)) }, AV.sl 2 (Seq.map T.encR ((0 : Int), []) (Prod.snd (Prod.fst x))) Tip.none], AObj.tok]
        (q65_2 n Post))))
        (AWP Try.prog 34 n c65_3
        [(0, AV.sl 2 (Seq.map T.encEn ([], []) l) Tip.none), (3, AV.sl 1 (Seq.map T.encL [] acc) (Tip.tok 0)),
        (4, AV.int IntKind.i64 (IntKind.wrap IntKind.i64 (i + (1 : Int))))]
        [AObj.tok, AObj.cells [AV.str { data := List.toArray (Prod.fst (Prod.fst x)) }, AV.sl 2 (Seq.map T.encR ((0 : Int), []) (Prod.snd (Prod.fst x))) Tip.none]]
        (q65_2 n Post))))
      (Post (AV.sl 1 (Seq.map T.encL [] acc) (Tip.tok 0)) [AObj.tok]) →
    AWP Try.prog 34 n c65_3
      [(0, AV.sl 2 (Seq.map T.encEn ([], []) l) Tip.none), (3, AV.sl 1 (Seq.map T.encL [] acc) (Tip.tok 0)), (4, AV.int IntKind.i64 i)] [AObj.tok]
      (q65_2 n Post) := fun l acc i n Post h => Go.Ab.AWP.loop' g65 (Cfg.live g65) c65_3 (by kernel_rfl) (by kernel_rfl) (Go.Ab.kc (by kernel_rfl) h)

-- 63
noncomputable def l63 : Nat → List Nat
  | 4 => [0, 1, 5]
  | _ => []
noncomputable def u63 : Nat → Bool
  | _ => false
noncomputable def m63 : Nat → Bool
  | _ => false
noncomputable def g63 : Cfg := { N := 26, live := l63, cut := u63, mu := m63, ret := rets }
noncomputable def c63 : Go.Code := Go.Ab.bodyOf Go.Proofs.Try.f63
noncomputable def q63_0 : Nat → (AV → List AObj → Prop) → AQ := fun (n : Nat) (Post : AV → List AObj → Prop) => endQ Try.prog (resultsOf Try.f63) Post
noncomputable def q63_1 : Nat → (AV → List AObj → Prop) → AQ := fun (n : Nat) (Post : AV → List AObj → Prop) => seqQ (fun (s' : Slots) (H' : List AObj) => awp Try.prog g63 n (codeSnd (codeSnd (codeSnd c63))) s' H' (q63_0 n Post)) (q63_0 n Post)
noncomputable def q63_2 : Nat → (AV → List AObj → Prop) → AQ := fun (n : Nat) (Post : AV → List AObj → Prop) => blockQ 0 (q63_1 n Post)
noncomputable def c63_4 : Go.Code := codeFst (codeSnd (codeFst (codeSnd (codeSnd c63))))
theorem s63 : ∀ (a b : List (List UInt8)) (Post : AV → List AObj → Prop),
  condP ((↑(List.length a) : Int) != (↑(List.length b) : Int)) (Post (AV.bool false) [])
      (AWP Try.prog 26 0 c63_4
        [(0, AV.sl 1 (Seq.map T.encL [] a) Tip.none), (1, AV.sl 1 (Seq.map T.encL [] b) Tip.none), (5, AV.int IntKind.i64 (0 : Int))] []
        (q63_2 0 Post)) →
    ASpec Try.prog 63 [AV.sl 1 (Seq.map T.encL [] a) Tip.none, AV.sl 1 (Seq.map T.encL [] b) Tip.none] [] Post := fun a b Post h => Go.Ab.ASpec.of_vc g63 Go.Proofs.Try.func63 (by kernel_rfl) (by kernel_rfl) (by kernel_rfl) (Go.Ab.kc (by kernel_rfl) h)
theorem v63_4 : ∀ (a b : List (List UInt8)) (i : Int) (n : Nat) (Post : AV → List AObj → Prop),
  condP (decide (i < (↑(List.length a) : Int)))
      (needP ((0 : Int) ≤ i ∧ i < (↑(List.length a) : Int))
        (needP ((0 : Int) ≤ i ∧ i < (↑(List.length b) : Int))
        (condP (!ByteArray.toList { data := List.toArray (List.getD a (Int.toNat i) []) } == ByteArray.toList { data := List.toArray (List.getD b (Int.toNat i) []) }) (Post (AV.bool false) [])
        (AWP Try.prog 26 n c63_4
        [(0, AV.sl 1 (Seq.map T.encL [] a) Tip.none), (1, AV.sl 1 (Seq.map T.encL [] b) Tip.none),
        (5, AV.int IntKind.i64 (IntKind.wrap IntKind.i64 (i + (1 : Int))))]
        [] (q63_2 n Post)))))
      (Post (AV.bool true) []) →
    AWP Try.prog 26 n c63_4 [(0, AV.sl 1 (Seq.map T.encL [] a) Tip.none), (1, AV.sl 1 (Seq.map T.encL [] b) Tip.none), (5, AV.int IntKind.i64 i)] []
      (q63_2 n Post) := fun a b i n Post h => Go.Ab.AWP.loop' g63 (Cfg.live g63) c63_4 (by kernel_rfl) (by kernel_rfl) (Go.Ab.kc (by kernel_rfl) h)

-- 67
noncomputable def l67 : Nat → List Nat
  | 3 => [4, 7, 8, 9]
  | 9 => [4]
  | _ => []
noncomputable def u67 : Nat → Bool
  | 9 => true
  | _ => false
noncomputable def m67 : Nat → Bool
  | _ => false
noncomputable def g67 : Cfg := { N := 29, live := l67, cut := u67, mu := m67, ret := rets }
noncomputable def c67 : Go.Code := Go.Ab.bodyOf Go.Proofs.Try.f67
noncomputable def q67_0 : Nat → (AV → List AObj → Prop) → AQ := fun (n : Nat) (Post : AV → List AObj → Prop) => endQ Try.prog (resultsOf Try.f67) Post
noncomputable def c67_9 : Go.Code := codeSnd (codeSnd (codeSnd c67))
noncomputable def q67_1 : Nat → (AV → List AObj → Prop) → AQ := fun (n : Nat) (Post : AV → List AObj → Prop) => seqQ (fun (s' : Slots) (H' : List AObj) => AWP Try.prog (Cfg.N g67) n c67_9 (restrict s' (Cfg.live g67 9)) H' (q67_0 n Post)) (q67_0 n Post)
noncomputable def q67_2 : Nat → (AV → List AObj → Prop) → AQ := fun (n : Nat) (Post : AV → List AObj → Prop) => blockQ 0 (q67_1 n Post)
noncomputable def c67_3 : Go.Code := codeFst (codeSnd (codeFst (codeSnd (codeSnd c67))))
theorem s67 : ∀ (l : List T.Mani) (Post : AV → List AObj → Prop),
  AWP Try.prog 29 0 c67_3
      [(4, AV.sl 0 (Seq.raw []) Tip.nil), (7, AV.sl 2 (Seq.map T.encM ([], []) l) Tip.none), (8, AV.int IntKind.i64 (↑(List.length l) : Int)),
        (9, AV.int IntKind.i64 (0 : Int))]
      [] (q67_2 0 Post) →
    ASpec Try.prog 67 [AV.sl 2 (Seq.map T.encM ([], []) l) Tip.none] [] Post := fun l Post h => Go.Ab.ASpec.of_vc g67 Go.Proofs.Try.func67 (by kernel_rfl) (by kernel_rfl) (by kernel_rfl) (Go.Ab.kc (by kernel_rfl) h)
theorem v67_3 : ∀ (l : List T.Mani) (acc : List T.Ent) (n i : Int) (n_1 : Nat) (Post : AV → List AObj → Prop),
  condP (decide (i < n))
      (needP ((0 : Int) ≤ i ∧ i < (↑(List.length l) : Int))
        (ASpec Try.prog 185
        [AV.agg
        [AV.str { data := List.toArray (Prod.fst (List.getD l (Int.toNat i) ([], []))) },
        AV.sl 2 (Seq.map T.encR ((0 : Int), []) (Prod.snd (List.getD l (Int.toNat i) ([], [])))) Tip.none]]
        [AObj.tok,
        AObj.cells
        [AV.str { data := List.toArray (Prod.fst (List.getD l (Int.toNat i) ([], []))) },
        AV.sl 2 (Seq.map T.encR ((0 : Int), []) (Prod.snd (List.getD l (Int.toNat i) ([], [])))) Tip.none]]
        fun (r : AV) (H' : List AObj) =>
        ∃ (x : Bool),
        r = AV.bool x ∧
        H' =
        [AObj.tok,
        AObj.cells
        [AV.str { data := List.toArray (Prod.fst (List.getD l (Int.toNat i) ([], []))) },
        AV.sl 2 (Seq.map T.encR ((0 : Int), []) (Prod.snd (List.getD l (Int.toNat i) ([], [])))) Tip.none]] ∧
        condP (!x)
        (Post (AV.tup [AV.sl 0 (Seq.raw []) Tip.nil, AV.bool false])
        [AObj.tok,
        AObj.cells
        [AV.str { data := List.toArray (Prod.fst (List.getD l (Int.toNat i) ([], []))) },
        AV.sl 2 (Seq.map T.encR ((0 : Int), []) (Prod.snd (List.getD l (Int.toNat i) ([], [])))) Tip.none]])
        (ASpec Try.prog 184
        [AV.agg
        [AV.str { data := List.toArray (Prod.fst (List.getD l (Int.toNat i) ([], []))) },
        AV.sl 2 (Seq.map T.encR ((0 : Int), []) (Prod.snd (List.getD l (Int.toNat i) ([], [])))) Tip.none]]
        [AObj.tok,
        AObj.cells
        [AV.str { data := List.toArray (Prod.fst (List.getD l (Int.toNat i) ([], []))) },
        AV.sl 2 (Seq.map T.encR ((0 : Int), []) (Prod.snd (List.getD l (Int.toNat i) ([], [])))) Tip.none]]
        fun (r : AV) (H' : List AObj) =>
        ∃ (x : List UInt8),
        r = AV.sl 1 (Seq.map encB (0 : UInt8) x) Tip.none ∧
        H' =
        [AObj.tok,
        AObj.cells
        [AV.str { data := List.toArray (Prod.fst (List.getD l (Int.toNat i) ([], []))) },
        AV.sl 2 (Seq.map T.encR ((0 : Int), []) (Prod.snd (List.getD l (Int.toNat i) ([], [])))) Tip.none]] ∧
        (AV.str { data := List.toArray (Prod.fst (List.getD l (Int.toNat i) ([], []))) } = AV.str { data := List.toArray (Prod.fst (List.getD l (Int.toNat i) ([], []))) } ∧
        [AObj.tok,
        AObj.cells
        [AV.str { data := List.toArray (Prod.fst (List.getD l (Int.toNat i) ([], []))) },
        AV.sl 2 (Seq.map T.encR ((0 : Int), []) (Prod.snd (List.getD l (Int.toNat i) ([], [])))) Tip.none]] =
        [AObj.tok,
        AObj.cells
        [AV.str { data := List.toArray (Prod.fst (List.getD l (Int.toNat i) ([], []))) },
        AV.sl 2 (Seq.map T.encR ((0 : Int), []) (Prod.snd (List.getD l (Int.toNat i) ([], [])))) Tip.none]]) ∧
        needP ((List.length acc + 1) * 40 ≤ 140737488351232)
        (AWP Try.prog 29 n_1 c67_3
        [(4,
        AV.sl 2
        (Seq.app (Seq.map T.encEn ([], []) acc)
        (Seq.raw [[AV.str { data := List.toArray (Prod.fst (List.getD l (Int.toNat i) ([], []))) }, AV.sl 1 (Seq.map encB (0 : UInt8) x) Tip.none]]))
        (Tip.tok 2)),
        (7, AV.sl 2 (Seq.map T.encM ([], []) l) Tip.none), (8, AV.int IntKind.i64 n),
        (9, AV.int IntKind.i64 (IntKind.wrap IntKind.i64 (i + (1 : Int))))]
        [AObj.gone,
        AObj.cells
        [AV.str { data := List.toArray (Prod.fst (List.getD l (Int.toNat i) ([], []))) },
        AV.sl 2 (Seq.map T.encR ((0 : Int), []) (Prod.snd (List.getD l (Int.toNat i) ([], [])))) Tip.none],
        AObj.tok]
        (q67_2 n_1 Post)))))
      (AWP Try.prog 29 n_1 c67_9 [(4, AV.sl 2 (Seq.map T.encEn ([], []) acc) (Tip.tok 0))] [AObj.tok] (q67_0 n_1 Post)) →
    AWP Try.prog 29 n_1 c67_3
      [(4, AV.sl 2 (Seq.map T.encEn ([], []) acc) (Tip.tok 0)), (7, AV.sl 2 (Seq.map T.encM ([], []) l) Tip.none), (8, AV.int IntKind.i64 n),
        (9, AV.int IntKind.i64 i)]
      [AObj.tok] (q67_2 n_1 Post) := fun l acc n i n Post h => Go.Ab.AWP.loop' g67 (Cfg.live g67) c67_3 (by kernel_rfl) (by kernel_rfl) (Go.Ab.kc (by kernel_rfl) h)
theorem v67_9 : ∀ (acc : List T.Ent) (n : Nat) (Post : AV → List AObj → Prop),
  (ASpec Try.prog 58 [AV.sl 2 (Seq.map T.encEn ([], []) acc) (Tip.tok 0)] [AObj.tok] fun (r : AV) (H' : List AObj) =>
      ∃ (x : Bool),
        r = AV.bool x ∧
        H' = [AObj.tok] ∧
        condP (!x) (Post (AV.tup [AV.sl 0 (Seq.raw []) Tip.nil, AV.bool false]) [AObj.tok])
        (Post (AV.tup [AV.sl 2 (Seq.map T.encEn ([], []) acc) (Tip.tok 0), AV.bool true]) [AObj.tok])) →
    AWP Try.prog 29 n c67_9 [(4, AV.sl 2 (Seq.map T.encEn ([], []) acc) (Tip.tok 0))] [AObj.tok] (q67_0 n Post) := fun acc n Post h => Go.Ab.awp_sound g67 n _ _ _ _ (Go.Ab.kc (by kernel_rfl) h)

-- 68
noncomputable def l68 : Nat → List Nat
  | 3 => [0, 4, 5]
  | 8 => [4]
  | _ => []
noncomputable def u68 : Nat → Bool
  | 8 => true
  | _ => false
noncomputable def m68 : Nat → Bool
  | _ => false
noncomputable def g68 : Cfg := { N := 37, live := l68, cut := u68, mu := m68, ret := rets }
noncomputable def c68 : Go.Code := Go.Ab.bodyOf Go.Proofs.Try.f68
noncomputable def q68_0 : Nat → (AV → List AObj → Prop) → AQ := fun (n : Nat) (Post : AV → List AObj → Prop) => endQ Try.prog (resultsOf Try.f68) Post
noncomputable def c68_8 : Go.Code := codeSnd (codeSnd (codeSnd c68))
noncomputable def q68_1 : Nat → (AV → List AObj → Prop) → AQ := fun (n : Nat) (Post : AV → List AObj → Prop) => seqQ (fun (s' : Slots) (H' : List AObj) => AWP Try.prog (Cfg.N g68) n c68_8 (restrict s' (Cfg.live g68 8)) H' (q68_0 n Post)) (q68_0 n Post)
noncomputable def q68_2 : Nat → (AV → List AObj → Prop) → AQ := fun (n : Nat) (Post : AV → List AObj → Prop) => blockQ 0 (q68_1 n Post)
noncomputable def c68_3 : Go.Code := codeFst (codeSnd (codeFst (codeSnd (codeSnd c68))))
theorem s68 : ∀ (l : List T.Mani) (Post : AV → List AObj → Prop),
  AWP Try.prog 37 0 c68_3
      [(0, AV.sl 2 (Seq.map T.encM ([], []) l) Tip.none), (4, AV.sl 0 (Seq.raw []) Tip.nil), (5, AV.int IntKind.i64 (0 : Int))] [] (q68_2 0 Post) →
    ASpec Try.prog 68 [AV.sl 2 (Seq.map T.encM ([], []) l) Tip.none] [] Post := fun l Post h => Go.Ab.ASpec.of_vc g68 Go.Proofs.Try.func68 (by kernel_rfl) (by kernel_rfl) (by kernel_rfl) (Go.Ab.kc (by kernel_rfl) h)
theorem v68_3 : ∀ (l : List T.Mani) (acc : List T.Ent) (i : Int) (n : Nat) (Post : AV → List AObj → Prop),
  condP (decide (i < (↑(List.length l) : Int)))
      (needP ((0 : Int) ≤ i ∧ i < (↑(List.length l) : Int))
        (ASpec Try.prog 186
        [AV.agg
        [AV.str { data := List.toArray (Prod.fst (List.getD l (Int.toNat i) ([], []))) },
        AV.sl 2 (Seq.map T.encR ((0 : Int), []) (Prod.snd (List.getD l (Int.toNat i) ([], [])))) Tip.none]]
        [AObj.tok] fun (r : AV) (H' : List AObj) =>
        ∃ (x : Bool),
        r = AV.bool x ∧
        H' = [AObj.tok] ∧
        condP (!x) (Post (AV.tup [AV.sl 0 (Seq.raw []) Tip.nil, AV.bool false]) [AObj.tok])
        (needP ((0 : Int) ≤ i ∧ i < (↑(List.length l) : Int))
        (needP ((0 : Int) ≤ i ∧ i < (↑(List.length l) : Int))
        (ASpec Try.prog 172
        [AV.agg
        [AV.str { data := List.toArray (Prod.fst (List.getD l (Int.toNat i) ([], []))) },
        AV.sl 2 (Seq.map T.encR ((0 : Int), []) (Prod.snd (List.getD l (Int.toNat i) ([], [])))) Tip.none]]
        [AObj.tok] fun (r : AV) (H' : List AObj) =>
        ∃ (x : ByteArray),
        r = AV.str x ∧
        H' = [AObj.tok] ∧
        (AV.str { data := List.toArray (Prod.fst (List.getD l (Int.toNat i) ([], []))) } = AV.str { data := List.toArray (Prod.fst (List.getD l (Int.toNat i) ([], []))) } ∧
        [AObj.tok] = [AObj.tok]) ∧
        needP ((List.length acc + 1) * 40 ≤ 140737488351232)
        (AWP Try.prog 37 n c68_3
        [(0, AV.sl 2 (Seq.map T.encM ([], []) l) Tip.none),
        (4,
        AV.sl 2
        (Seq.app (Seq.map T.encEn ([], []) acc)
        (Seq.raw [[AV.str { data := List.toArray (Prod.fst (List.getD l (Int.toNat i) ([], []))) }, AV.sl 1 (bytesSeq x) Tip.none]]))
        (Tip.tok 1)),
        (5, AV.int IntKind.i64 (IntKind.wrap IntKind.i64 (i + (1 : Int))))]
        [AObj.gone, AObj.tok] (q68_2 n Post)))))))
      (AWP Try.prog 37 n c68_8 [(4, AV.sl 2 (Seq.map T.encEn ([], []) acc) (Tip.tok 0))] [AObj.tok] (q68_0 n Post)) →
    AWP Try.prog 37 n c68_3
      [(0, AV.sl 2 (Seq.map T.encM ([], []) l) Tip.none), (4, AV.sl 2 (Seq.map T.encEn ([], []) acc) (Tip.tok 0)), (5, AV.int IntKind.i64 i)] [AObj.tok]
      (q68_2 n Post) := fun l acc i n Post h => Go.Ab.AWP.loop' g68 (Cfg.live g68) c68_3 (by kernel_rfl) (by kernel_rfl) (Go.Ab.kc (by kernel_rfl) h)
theorem v68_8 : ∀ (acc : List T.Ent) (n : Nat) (Post : AV → List AObj → Prop),
  (ASpec Try.prog 38 [AV.sl 2 (Seq.map T.encEn ([], []) acc) (Tip.tok 0)] [AObj.tok] fun (r : AV) (H' : List AObj) =>
      ∃ (x : Bool),
        r = AV.bool x ∧
        H' = [AObj.tok] ∧
        condP (!x) (Post (AV.tup [AV.sl 0 (Seq.raw []) Tip.nil, AV.bool false]) [AObj.tok])
        (Post (AV.tup [AV.sl 2 (Seq.map T.encEn ([], []) acc) (Tip.tok 0), AV.bool true]) [AObj.tok])) →
    AWP Try.prog 37 n c68_8 [(4, AV.sl 2 (Seq.map T.encEn ([], []) acc) (Tip.tok 0))] [AObj.tok] (q68_0 n Post) := fun acc n Post h => Go.Ab.awp_sound g68 n _ _ _ _ (Go.Ab.kc (by kernel_rfl) h)

-- 69
noncomputable def l69 : Nat → List Nat
  | 4 => [0, 1, 5]
  | _ => []
noncomputable def u69 : Nat → Bool
  | _ => false
noncomputable def m69 : Nat → Bool
  | _ => false
noncomputable def g69 : Cfg := { N := 43, live := l69, cut := u69, mu := m69, ret := rets }
noncomputable def c69 : Go.Code := Go.Ab.bodyOf Go.Proofs.Try.f69
noncomputable def q69_0 : Nat → (AV → List AObj → Prop) → AQ := fun (n : Nat) (Post : AV → List AObj → Prop) => endQ Try.prog (resultsOf Try.f69) Post
noncomputable def q69_1 : Nat → (AV → List AObj → Prop) → AQ := fun (n : Nat) (Post : AV → List AObj → Prop) => seqQ (fun (s' : Slots) (H' : List AObj) => awp Try.prog g69 n (codeSnd (codeSnd (codeSnd c69))) s' H' (q69_0 n Post)) (q69_0 n Post)
noncomputable def q69_2 : Nat → (AV → List AObj → Prop) → AQ := fun (n : Nat) (Post : AV → List AObj → Prop) => blockQ 0 (q69_1 n Post)
noncomputable def c69_4 : Go.Code := codeFst (codeSnd (codeFst (codeSnd (codeSnd c69))))
theorem s69 : ∀ (a b : List T.Ent) (Post : AV → List AObj → Prop),
  condP ((↑(List.length a) : Int) != (↑(List.length b) : Int)) (Post (AV.bool false) [])
      (AWP Try.prog 43 0 c69_4
        [(0, AV.sl 2 (Seq.map T.encEn ([], []) a) Tip.none), (1, AV.sl 2 (Seq.map T.encEn ([], []) b) Tip.none), (5, AV.int IntKind.i64 (0 : Int))] []
        (q69_2 0 Post)) →
    ASpec Try.prog 69 [AV.sl 2 (Seq.map T.encEn ([], []) a) Tip.none, AV.sl 2 (Seq.map T.encEn ([], []) b) Tip.none] [] Post := fun a b Post h => Go.Ab.ASpec.of_vc g69 Go.Proofs.Try.func69 (by kernel_rfl) (by kernel_rfl) (by kernel_rfl) (Go.Ab.kc (by kernel_rfl) h)
theorem v69_4 : ∀ (a b : List T.Ent) (i : Int) (n : Nat) (Post : AV → List AObj → Prop),
  condP (decide (i < (↑(List.length a) : Int)))
      (needP ((0 : Int) ≤ i ∧ i < (↑(List.length a) : Int))
        (needP ((0 : Int) ≤ i ∧ i < (↑(List.length b) : Int))
        (condP
        (!ByteArray.toList { data := List.toArray (Prod.fst (List.getD a (Int.toNat i) ([], []))) } == ByteArray.toList { data := List.toArray (Prod.fst (List.getD b (Int.toNat i) ([], []))) })
        (Post (AV.bool false) [])
        (needP ((0 : Int) ≤ i ∧ i < (↑(List.length a) : Int))
        (needP (allBytes (Seq.map encB (0 : UInt8) (Prod.snd (List.getD a (Int.toNat i) ([], [])))))
        (needP ((0 : Int) ≤ i ∧ i < (↑(List.length b) : Int))
        (needP (allBytes (Seq.map encB (0 : UInt8) (Prod.snd (List.getD b (Int.toNat i) ([], [])))))
        (condP
        (!ByteArray.toList (bytesOf (Seq.map encB (0 : UInt8) (Prod.snd (List.getD a (Int.toNat i) ([], []))))) ==
        ByteArray.toList (bytesOf (Seq.map encB (0 : UInt8) (Prod.snd (List.getD b (Int.toNat i) ([], []))))))
        (Post (AV.bool false) [])
        (AWP Try.prog 43 n c69_4
        [(0, AV.sl 2 (Seq.map T.encEn ([], []) a) Tip.none), (1, AV.sl 2 (Seq.map T.encEn ([], []) b) Tip.none),
        (5, AV.int IntKind.i64 (IntKind.wrap IntKind.i64 (i + (1 : Int))))]
        [] (q69_2 n Post))))))))))
      (Post (AV.bool true) []) →
    AWP Try.prog 43 n c69_4
      [(0, AV.sl 2 (Seq.map T.encEn ([], []) a) Tip.none), (1, AV.sl 2 (Seq.map T.encEn ([], []) b) Tip.none), (5, AV.int IntKind.i64 i)] [] (q69_2 n Post) := fun a b i n Post h => Go.Ab.AWP.loop' g69 (Cfg.live g69) c69_4 (by kernel_rfl) (by kernel_rfl) (Go.Ab.kc (by kernel_rfl) h)

-- 57
noncomputable def l57 : Nat → List Nat
  | _ => []
noncomputable def u57 : Nat → Bool
  | _ => false
noncomputable def m57 : Nat → Bool
  | _ => false
noncomputable def g57 : Cfg := { N := 24, live := l57, cut := u57, mu := m57, ret := rets }
noncomputable def c57 : Go.Code := Go.Ab.bodyOf Go.Proofs.Try.f57
theorem s57 : ∀ (Post : AV → List AObj → Prop),
  (ASpec Try.prog 59 [AV.sl 0 (Seq.raw []) Tip.nil, AV.str { data := #[(97 : UInt8)] }] [] fun (r : AV) (H' : List AObj) =>
      ∃ (x : T.Mani × Bool),
        r = AV.tup [AV.agg [AV.str { data := List.toArray (Prod.fst (Prod.fst x)) }, AV.sl 2 (Seq.map T.encR ((0 : Int), []) (Prod.snd (Prod.fst x))) Tip.none], AV.bool (Prod.snd x)] ∧
        H' = [] ∧
        ASpec Try.prog 61 [AV.sl 0 (Seq.raw []) Tip.nil, AV.str { data := #[(97 : UInt8)] }]
        [AObj.cells [AV.str { data := List.toArray (Prod.fst (Prod.fst x)) }, AV.sl 2 (Seq.map T.encR ((0 : Int), []) (Prod.snd (Prod.fst x))) Tip.none]] fun (r : AV) (H' : List AObj) =>
        ∃ (x_1 : List UInt8),
        r = AV.sl 1 (Seq.map encB (0 : UInt8) x_1) Tip.none ∧
        H' = [AObj.cells [AV.str { data := List.toArray (Prod.fst (Prod.fst x)) }, AV.sl 2 (Seq.map T.encR ((0 : Int), []) (Prod.snd (Prod.fst x))) Tip.none]] ∧
        needP (allBytes (Seq.map encB (0 : UInt8) x_1))
        (condP (ByteArray.toList (bytesOf (Seq.map encB (0 : UInt8) x_1)) == ByteArray.toList { data := #[(1 : UInt8), (97 : UInt8), (0 : UInt8)] })
        (condP (ByteArray.toList { data := List.toArray (Prod.fst (Prod.fst x)) } == ByteArray.toList { data := #[(97 : UInt8)] })
        (condP ((↑(List.length (Prod.snd (Prod.fst x))) : Int) == (0 : Int))
        (Post (AV.bool (Prod.snd x))
        [AObj.cells [AV.str { data := List.toArray (Prod.fst (Prod.fst x)) }, AV.sl 2 (Seq.map T.encR ((0 : Int), []) (Prod.snd (Prod.fst x))) Tip.none]])
        (Post (AV.bool false)
        [AObj.cells [AV.str { data := List.toArray (Prod.fst (Prod.fst x)) }, AV.sl 2 (Seq.map T.encR ((0 : Int), []) (Prod.snd (Prod.fst x))) Tip.none]]))
        (Post (AV.bool false)
        [AObj.cells [AV.str { data := List.toArray (Prod.fst (Prod.fst x)) }, AV.sl 2 (Seq.map T.encR ((0 : Int), []) (Prod.snd (Prod.fst x))) Tip.none]]))
        (Post (AV.bool false)
        [AObj.cells [AV.str { data := List.toArray (Prod.fst (Prod.fst x)) }, AV.sl 2 (Seq.map T.encR ((0 : Int), []) (Prod.snd (Prod.fst x))) Tip.none]]))) →
    ASpec Try.prog 57 [] [] Post := fun Post h => Go.Ab.ASpec.of_vc g57 Go.Proofs.Try.func57 (by kernel_rfl) (by kernel_rfl) (by kernel_rfl) (Go.Ab.kc (by kernel_rfl) h)

-- 7
noncomputable def l7 : Nat → List Nat
  | _ => []
noncomputable def u7 : Nat → Bool
  | _ => false
noncomputable def m7 : Nat → Bool
  | _ => false
noncomputable def g7 : Cfg := { N := 71, live := l7, cut := u7, mu := m7, ret := rets }
noncomputable def c7 : Go.Code := Go.Ab.bodyOf Go.Proofs.Try.f7
theorem s7 : ∀ (l : List T.Ent) (s : List UInt8) (Post : AV → List AObj → Prop),
  (ASpec Try.prog 37 [AV.sl 2 (Seq.map T.encEn ([], []) l) Tip.none] [] fun (r : AV) (H' : List AObj) =>
      ∃ (x : Bool),
        r = AV.bool x ∧
        H' = [] ∧
        condP x (ASpec Try.prog 57 [] [] fun (r : AV) (H' : List AObj) => ∃ (x : Unit), r = AV.bool true ∧ H' = [] ∧ Post (AV.bool true) [])
        (condP (decide ((↑(ByteArray.size { data := List.toArray s }) : Int) > (200 : Int)))
        (ASpec Try.prog 57 [] [] fun (r : AV) (H' : List AObj) => ∃ (x : Unit), r = AV.bool true ∧ H' = [] ∧ Post (AV.bool true) [])
        (ASpec Try.prog 58 [AV.sl 2 (Seq.map T.encEn ([], []) l) Tip.none] [] fun (r : AV) (H' : List AObj) =>
        ∃ (x : Bool),
        r = AV.bool x ∧
        H' = [] ∧
        ASpec Try.prog 38 [AV.sl 2 (Seq.map T.encEn ([], []) l) Tip.none] [] fun (r : AV) (H' : List AObj) =>
        ∃ (x_1 : Bool),
        r = AV.bool x_1 ∧
        H' = [] ∧
        condP (!x == x_1) (Post (AV.bool false) [])
        (ASpec Try.prog 38 [AV.sl 2 (Seq.map T.encEn ([], []) l) Tip.none] [] fun (r : AV) (H' : List AObj) =>
        ∃ (x : Bool),
        r = AV.bool x ∧
        H' = [] ∧
        condP (!x) (ASpec Try.prog 57 [] [] fun (r : AV) (H' : List AObj) => ∃ (x : Unit), r = AV.bool true ∧ H' = [] ∧ Post (AV.bool true) [])
        (ASpec Try.prog 39 [AV.str { data := List.toArray s }] [] fun (r : AV) (H' : List AObj) =>
        ∃ (x : Bool),
        r = AV.bool x ∧
        H' = [] ∧
        condP (!x) (ASpec Try.prog 57 [] [] fun (r : AV) (H' : List AObj) => ∃ (x : Unit), r = AV.bool true ∧ H' = [] ∧ Post (AV.bool true) [])
        (ASpec Try.prog 59 [AV.sl 2 (Seq.map T.encEn ([], []) l) Tip.none, AV.str { data := List.toArray s }] []
        fun (r : AV) (H' : List AObj) =>
        ∃ (x : T.Mani × Bool),
        r =
        AV.tup
        [AV.agg
        [AV.str { data := List.toArray (Prod.fst (Prod.fst x)) },
        AV.sl 2 (Seq.map T.encR ((0 : Int), []) (Prod.snd (Prod.fst x))) Tip.none],
        AV.bool (Prod.snd x)] ∧
        H' = [] ∧
        ASpec Try.prog 60 [AV.sl 2 (Seq.map T.encEn ([], []) l) Tip.none, AV.str { data := List.toArray s }]
        [AObj.cells
        [AV.str { data := List.toArray (Prod.fst (Prod.fst x)) },
        AV.sl 2 (Seq.map T.encR ((0 : Int), []) (Prod.snd (Prod.fst x))) Tip.none]]
        fun (r : AV) (H' : List AObj) =>
        ∃ (x_2 : T.Mani × Bool),
        r =
        AV.tup
        [AV.agg
        [AV.str { data := List.toArray (Prod.fst (Prod.fst x_2)) },
        AV.sl 2 (Seq.map T.encR ((0 : Int), []) (Prod.snd (Prod.fst x_2))) Tip.none],
        AV.bool (Prod.snd x_2)] ∧
        H' =
        [AObj.cells
        [AV.str { data := List.toArray (Prod.fst (Prod.fst x)) },
        AV.sl 2 (Seq.map T.encR ((0 : Int), []) (Prod.snd (Prod.fst x))) Tip.none]] ∧
        ASpec Try.prog 61 [AV.sl 2 (Seq.map T.encEn ([], []) l) Tip.none, AV.str { data := List.toArray s }]
        [AObj.cells
        [AV.str { data := List.toArray (Prod.fst (Prod.fst x)) },
        AV.sl 2 (Seq.map T.encR ((0 : Int), []) (Prod.snd (Prod.fst x))) Tip.none],
        AObj.cells
        [AV.str { data := List.toArray (Prod.fst (Prod.fst x_2)) },
        AV.sl 2 (Seq.map T.encR ((0 : Int), []) (Prod.snd (Prod.fst x_2))) Tip.none]]
        fun (r : AV) (H' : List AObj) =>
        ∃ (x_3 : List UInt8),
        r = AV.sl 1 (Seq.map encB (0 : UInt8) x_3) Tip.none ∧
        H' =
        [AObj.cells
        [AV.str { data := List.toArray (Prod.fst (Prod.fst x)) },
        AV.sl 2 (Seq.map T.encR ((0 : Int), []) (Prod.snd (Prod.fst x))) Tip.none],
        AObj.cells
        [AV.str { data := List.toArray (Prod.fst (Prod.fst x_2)) },
        AV.sl 2 (Seq.map T.encR ((0 : Int), []) (Prod.snd (Prod.fst x_2))) Tip.none]] ∧
        needP (allBytes (Seq.map encB (0 : UInt8) x_3))
        (ASpec Try.prog 47 [AV.sl 2 (Seq.map T.encEn ([], []) l) Tip.none, AV.str { data := List.toArray s }]
        [AObj.cells
        [AV.str { data := List.toArray (Prod.fst (Prod.fst x)) },
        AV.sl 2 (Seq.map T.encR ((0 : Int), []) (Prod.snd (Prod.fst x))) Tip.none],
        AObj.cells
        [AV.str { data := List.toArray (Prod.fst (Prod.fst x_2)) },
        AV.sl 2 (Seq.map T.encR ((0 : Int), []) (Prod.snd (Prod.fst x_2))) Tip.none]]
        fun (r : AV) (H' : List AObj) =>
        ∃ (x_4 : ByteArray),
        r = AV.str x_4 ∧
        H' =
        [AObj.cells
        [AV.str { data := List.toArray (Prod.fst (Prod.fst x)) },
        AV.sl 2 (Seq.map T.encR ((0 : Int), []) (Prod.snd (Prod.fst x))) Tip.none],
        AObj.cells
        [AV.str { data := List.toArray (Prod.fst (Prod.fst x_2)) },
        AV.sl 2 (Seq.map T.encR ((0 : Int), []) (Prod.snd (Prod.fst x_2))) Tip.none]] ∧
        condP (ByteArray.toList (bytesOf (Seq.map encB (0 : UInt8) x_3)) == ByteArray.toList x_4)
        (ASpec Try.prog 62
        [AV.agg
        [AV.str { data := List.toArray (Prod.fst (Prod.fst x)) },
        AV.sl 2 (Seq.map T.encR ((0 : Int), []) (Prod.snd (Prod.fst x))) Tip.none],
        AV.agg
        [AV.str { data := List.toArray (Prod.fst (Prod.fst x_2)) },
        AV.sl 2 (Seq.map T.encR ((0 : Int), []) (Prod.snd (Prod.fst x_2))) Tip.none]]
        [AObj.cells
        [AV.str { data := List.toArray (Prod.fst (Prod.fst x)) },
        AV.sl 2 (Seq.map T.encR ((0 : Int), []) (Prod.snd (Prod.fst x))) Tip.none],
        AObj.cells
        [AV.str { data := List.toArray (Prod.fst (Prod.fst x_2)) },
        AV.sl 2 (Seq.map T.encR ((0 : Int), []) (Prod.snd (Prod.fst x_2))) Tip.none]]
        fun (r : AV) (H' : List AObj) =>
        ∃ (x_5 : Bool),
        r = AV.bool x_5 ∧
        H' =
        [AObj.cells
        [AV.str { data := List.toArray (Prod.fst (Prod.fst x)) },
        AV.sl 2 (Seq.map T.encR ((0 : Int), []) (Prod.snd (Prod.fst x))) Tip.none],
        AObj.cells
        [AV.str { data := List.toArray (Prod.fst (Prod.fst x_2)) },
        AV.sl 2 (Seq.map T.encR ((0 : Int), []) (Prod.snd (Prod.fst x_2))) Tip.none]] ∧
        condP x_5
        (condP (Prod.snd x == Prod.snd x_2)
        (ASpec Try.prog 64 [AV.sl 2 (Seq.map T.encEn ([], []) l) Tip.none]
        [AObj.cells
        [AV.str { data := List.toArray (Prod.fst (Prod.fst x)) },
        AV.sl 2 (Seq.map T.encR ((0 : Int), []) (Prod.snd (Prod.fst x))) Tip.none],
        AObj.cells
        [AV.str { data := List.toArray (Prod.fst (Prod.fst x_2)) },
        AV.sl 2 (Seq.map T.encR ((0 : Int), []) (Prod.snd (Prod.fst x_2))) Tip.none]]
        fun (r : AV) (H' : List AObj) =>
        ∃ (x_6 : List (List UInt8)),
        r = AV.sl 1 (Seq.map T.encL [] x_6) Tip.none ∧
        H' =
        [AObj.cells
        [AV.str { data := List.toArray (Prod.fst (Prod.fst x)) },
        AV.sl 2 (Seq.map T.encR ((0 : Int), []) (Prod.snd (Prod.fst x)))
        Tip.none],
        AObj.cells
        [AV.str { data := List.toArray (Prod.fst (Prod.fst x_2)) },
        AV.sl 2 (Seq.map T.encR ((0 : Int), []) (Prod.snd (Prod.fst x_2)))
        Tip.none]] ∧
        ASpec Try.prog 65 [AV.sl 2 (Seq.map T.encEn ([], []) l) Tip.none]
        [AObj.cells
        [AV.str { data := List.toArray (Prod.fst (Prod.fst x)) },
        AV.sl 2 (Seq.map T.encR ((0 : Int), []) (Prod.snd (Prod.fst x)))
        Tip.none],
        AObj.cells
        [AV.str { data := List.toArray (Prod.fst (Prod.fst x_2)) },
        AV.sl 2 (Seq.map T.encR ((0 : Int), []) (Prod.snd (Prod.fst x_2)))
        Tip.none]]
        fun (r : AV) (H' : List AObj) =>
        ∃ (x_7 : List (List UInt8)),
        r = AV.sl 1 (Seq.map T.encL [] x_7) Tip.none ∧
        H' =
        [AObj.cells
        [AV.str { data := List.toArray (Prod.fst (Prod.fst x)) },
        AV.sl 2 (Seq.map T.encR ((0 : Int), []) (Prod.snd (Prod.fst x)))
        Tip.none],
        AObj.cells
        [AV.str { data := List.toArray (Prod.fst (Prod.fst x_2)) },
        AV.sl 2 (Seq.map T.encR ((0 : Int), []) (Prod.snd (Prod.fst x_2)))
        Tip.none]] ∧
        ASpec Try.prog 63
        [AV.sl 1 (Seq.map T.encL [] x_6) Tip.none,
        AV.sl 1 (Seq.map T.encL [] x_7) Tip.none]
        [AObj.cells
        [AV.str { data := List.toArray (Prod.fst (Prod.fst x)) },
        AV.sl 2 (Seq.map T.encR ((0 : Int), []) (Prod.snd (Prod.fst x)))
        Tip.none],
        AObj.cells
        [AV.str { data := List.toArray (Prod.fst (Prod.fst x_2)) },
        AV.sl 2 (Seq.map T.encR ((0 : Int), []) (Prod.snd (Prod.fst x_2)))
        Tip.none]]
        fun (r : AV) (H' : List AObj) =>
        ∃ (x_8 : Bool),
        r = AV.bool x_8 ∧
        H' =
        [AObj.cells
        [AV.str { data := List.toArray (Prod.fst (Prod.fst x)) },
        AV.sl 2
        (Seq.map T.encR ((0 : Int), []) (Prod.snd (Prod.fst x)))
        Tip.none],
        AObj.cells
        [AV.str { data := List.toArray (Prod.fst (Prod.fst x_2)) },
        AV.sl 2
        (Seq.map T.encR ((0 : Int), []) (Prod.snd (Prod.fst x_2)))
        Tip.none]] ∧
        condP x_8
        (ASpec Try.prog 57 []
        [AObj.cells
        [AV.str { data := List.toArray (Prod.fst (Prod.fst x)) },
        AV.sl 2
        (Seq.map T.encR ((0 : Int), []) (Prod.snd (Prod.fst x)))
        Tip.none],
        AObj.cells
        [AV.str { data := List.toArray (Prod.fst (Prod.fst x_2)) },
        AV.sl 2
        (Seq.map T.encR ((0 : Int), []) (Prod.snd (Prod.fst x_2)))
        Tip.none]]
        fun (r : AV) (H' : List AObj) =>
        ∃ (x_9 : Unit),
        r = AV.bool true ∧
        H' =
        [AObj.cells
        [AV.str { data := List.toArray (Prod.fst (Prod.fst x)) },
        AV.sl 2
        (Seq.map T.encR ((0 : Int), [])
        (Prod.snd (Prod.fst x)))
        Tip.none],
        AObj.cells
        [AV.str
        { data := List.toArray (Prod.fst (Prod.fst x_2)) },
        AV.sl 2
        (Seq.map T.encR ((0 : Int), [])
        (Prod.snd (Prod.fst x_2)))
        Tip.none]] ∧
        Post (AV.bool true)
        [AObj.cells
        [AV.str { data := List.toArray (Prod.fst (Prod.fst x)) },
        AV.sl 2
        (Seq.map T.encR ((0 : Int), [])
        (Prod.snd (Prod.fst x)))
        Tip.none],
        AObj.cells
        [AV.str
        { data := List.toArray (Prod.fst (Prod.fst x_2)) },
        AV.sl 2
        (Seq.map T.encR ((0 : Int), [])
        (Prod.snd (Prod.fst x_2)))
        Tip.none]])
        (Post (AV.bool false)
        [AObj.cells
        [AV.str { data := List.toArray (Prod.fst (Prod.fst x)) },
        AV.sl 2
        (Seq.map T.encR ((0 : Int), []) (Prod.snd (Prod.fst x)))
        Tip.none],
        AObj.cells
        [AV.str { data := List.toArray (Prod.fst (Prod.fst x_2)) },
        AV.sl 2
        (Seq.map T.encR ((0 : Int), []) (Prod.snd (Prod.fst x_2)))
        Tip.none]]))
        (Post (AV.bool false)
        [AObj.cells
        [AV.str { data := List.toArray (Prod.fst (Prod.fst x)) },
        AV.sl 2 (Seq.map T.encR ((0 : Int), []) (Prod.snd (Prod.fst x))) Tip.none],
        AObj.cells
        [AV.str { data := List.toArray (Prod.fst (Prod.fst x_2)) },
        AV.sl 2 (Seq.map T.encR ((0 : Int), []) (Prod.snd (Prod.fst x_2))) Tip.none]]))
        (Post (AV.bool false)
        [AObj.cells
        [AV.str { data := List.toArray (Prod.fst (Prod.fst x)) },
        AV.sl 2 (Seq.map T.encR ((0 : Int), []) (Prod.snd (Prod.fst x))) Tip.none],
        AObj.cells
        [AV.str { data := List.toArray (Prod.fst (Prod.fst x_2)) },
        AV.sl 2 (Seq.map T.encR ((0 : Int), []) (Prod.snd (Prod.fst x_2))) Tip.none]]))
        (Post (AV.bool false)
        [AObj.cells
        [AV.str { data := List.toArray (Prod.fst (Prod.fst x)) },
        AV.sl 2 (Seq.map T.encR ((0 : Int), []) (Prod.snd (Prod.fst x))) Tip.none],
        AObj.cells
        [AV.str { data := List.toArray (Prod.fst (Prod.fst x_2)) },
        AV.sl 2 (Seq.map T.encR ((0 : Int), []) (Prod.snd (Prod.fst x_2))) Tip.none]])))))))) →
    ASpec Try.prog 7 [AV.sl 2 (Seq.map T.encEn ([], []) l) Tip.none, AV.str { data := List.toArray s }] [] Post := fun l s Post h => Go.Ab.ASpec.of_vc g7 Go.Proofs.Try.func7 (by kernel_rfl) (by kernel_rfl) (by kernel_rfl) (Go.Ab.kc (by kernel_rfl) h)

-- 8
noncomputable def l8 : Nat → List Nat
  | 4 => [0, 1, 5]
  | 8 => [0, 1]
  | 14 => [0, 1, 6]
  | 17 => [0, 1, 6, 10, 11, 12, 13]
  | _ => []
noncomputable def u8 : Nat → Bool
  | 8 => true
  | 14 => true
  | _ => false
noncomputable def m8 : Nat → Bool
  | _ => false
noncomputable def g8 : Cfg := { N := 106, live := l8, cut := u8, mu := m8, ret := rets }
noncomputable def c8 : Go.Code := Go.Ab.bodyOf Go.Proofs.Try.f8
noncomputable def q8_0 : Nat → (AV → List AObj → Prop) → AQ := fun (n : Nat) (Post : AV → List AObj → Prop) => endQ Try.prog (resultsOf Try.f8) Post
noncomputable def c8_8 : Go.Code := codeSnd (codeSnd (codeSnd c8))
noncomputable def q8_1 : Nat → (AV → List AObj → Prop) → AQ := fun (n : Nat) (Post : AV → List AObj → Prop) => seqQ (fun (s' : Slots) (H' : List AObj) => AWP Try.prog (Cfg.N g8) n c8_8 (restrict s' (Cfg.live g8 8)) H' (q8_0 n Post)) (q8_0 n Post)
noncomputable def q8_2 : Nat → (AV → List AObj → Prop) → AQ := fun (n : Nat) (Post : AV → List AObj → Prop) => blockQ 0 (q8_1 n Post)
noncomputable def c8_4 : Go.Code := codeFst (codeSnd (codeFst (codeSnd (codeSnd c8))))
theorem s8 : ∀ (l : List T.Mani) (s : List UInt8) (Post : AV → List AObj → Prop),
  condP (decide ((↑(List.length l) : Int) > (30 : Int))) (ASpec Try.prog 57 [] [] fun (r : AV) (H' : List AObj) => ∃ (x : Unit), r = AV.bool true ∧ H' = [] ∧ Post (AV.bool true) [])
      (condP (decide ((↑(ByteArray.size { data := List.toArray s }) : Int) > (200 : Int)))
        (ASpec Try.prog 57 [] [] fun (r : AV) (H' : List AObj) => ∃ (x : Unit), r = AV.bool true ∧ H' = [] ∧ Post (AV.bool true) [])
        (AWP Try.prog 106 0 c8_4
        [(0, AV.sl 2 (Seq.map T.encM ([], []) l) Tip.none), (1, AV.str { data := List.toArray s }), (5, AV.int IntKind.i64 (0 : Int))] [] (q8_2 0 Post))) →
    ASpec Try.prog 8 [AV.sl 2 (Seq.map T.encM ([], []) l) Tip.none, AV.str { data := List.toArray s }] [] Post := fun l s Post h => Go.Ab.ASpec.of_vc g8 Go.Proofs.Try.func8 (by kernel_rfl) (by kernel_rfl) (by kernel_rfl) (Go.Ab.kc (by kernel_rfl) h)
theorem v8_4 : ∀ (l : List T.Mani) (s : List UInt8) (i : Int) (n : Nat) (Post : AV → List AObj → Prop),
  condP (decide (i < (↑(List.length l) : Int)))
      (needP ((0 : Int) ≤ i ∧ i < (↑(List.length l) : Int))
        (ASpec Try.prog 66
        [AV.agg
        [AV.str { data := List.toArray (Prod.fst (List.getD l (Int.toNat i) ([], []))) },
        AV.sl 2 (Seq.map T.encR ((0 : Int), []) (Prod.snd (List.getD l (Int.toNat i) ([], [])))) Tip.none]]
        [] fun (r : AV) (H' : List AObj) =>
        ∃ (x : Bool),
        r = AV.bool x ∧
        H' = [] ∧
        condP x (ASpec Try.prog 57 [] [] fun (r : AV) (H' : List AObj) => ∃ (x : Unit), r = AV.bool true ∧ H' = [] ∧ Post (AV.bool true) [])
        (AWP Try.prog 106 n c8_4
        [(0, AV.sl 2 (Seq.map T.encM ([], []) l) Tip.none), (1, AV.str { data := List.toArray s }),
        (5, AV.int IntKind.i64 (IntKind.wrap IntKind.i64 (i + (1 : Int))))]
        [] (q8_2 n Post))))
      (AWP Try.prog 106 n c8_8 [(0, AV.sl 2 (Seq.map T.encM ([], []) l) Tip.none), (1, AV.str { data := List.toArray s })] [] (q8_0 n Post)) →
    AWP Try.prog 106 n c8_4 [(0, AV.sl 2 (Seq.map T.encM ([], []) l) Tip.none), (1, AV.str { data := List.toArray s }), (5, AV.int IntKind.i64 i)] []
      (q8_2 n Post) := fun l s i n Post h => Go.Ab.AWP.loop' g8 (Cfg.live g8) c8_4 (by kernel_rfl) (by kernel_rfl) (Go.Ab.kc (by kernel_rfl) h)
noncomputable def c8_14 : Go.Code := codeSnd (codeSnd (codeSnd (codeSnd c8_8)))
theorem v8_8 : ∀ (l : List T.Mani) (s : List UInt8) (n : Nat) (Post : AV → List AObj → Prop),
  (ASpec Try.prog 67 [AV.sl 2 (Seq.map T.encM ([], []) l) Tip.none] [] fun (r : AV) (H' : List AObj) =>
      ∃ (x : List T.Ent × Bool),
        r = AV.tup [AV.sl 2 (Seq.map T.encEn ([], []) (Prod.fst x)) Tip.none, AV.bool (Prod.snd x)] ∧
        H' = [] ∧
        ASpec Try.prog 68 [AV.sl 2 (Seq.map T.encM ([], []) l) Tip.none] [] fun (r : AV) (H' : List AObj) =>
        ∃ (x_1 : List T.Ent × Bool),
        r = AV.tup [AV.sl 2 (Seq.map T.encEn ([], []) (Prod.fst x_1)) Tip.none, AV.bool (Prod.snd x_1)] ∧
        H' = [] ∧
        ASpec Try.prog 69 [AV.sl 2 (Seq.map T.encEn ([], []) (Prod.fst x)) Tip.none, AV.sl 2 (Seq.map T.encEn ([], []) (Prod.fst x_1)) Tip.none] []
        fun (r : AV) (H' : List AObj) =>
        ∃ (x_2 : Bool),
        r = AV.bool x_2 ∧
        H' = [] ∧
        condP (!x_2) (Post (AV.bool false) [])
        (condP (!Prod.snd x == Prod.snd x_1) (Post (AV.bool false) [])
        (condP (!Prod.snd x) (ASpec Try.prog 57 [] [] fun (r : AV) (H' : List AObj) => ∃ (x : Unit), r = AV.bool true ∧ H' = [] ∧ Post (AV.bool true) [])
        (ASpec Try.prog 39 [AV.str { data := List.toArray s }] [] fun (r : AV) (H' : List AObj) =>
        ∃ (x_3 : Bool),
        r = AV.bool x_3 ∧
        H' = [] ∧
        condP (!x_3) (ASpec Try.prog 57 [] [] fun (r : AV) (H' : List AObj) => ∃ (x : Unit), r = AV.bool true ∧ H' = [] ∧ Post (AV.bool true) [])
        (AWP Try.prog 106 n c8_14
        [(0, AV.sl 2 (Seq.map T.encM ([], []) l) Tip.none), (1, AV.str { data := List.toArray s }),
        (6, AV.sl 2 (Seq.map T.encEn ([], []) (Prod.fst x)) Tip.none)]
        [] (q8_0 n Post)))))) →
    AWP Try.prog 106 n c8_8 [(0, AV.sl 2 (Seq.map T.encM ([], []) l) Tip.none), (1, AV.str { data := List.toArray s })] [] (q8_0 n Post) := fun l s n Post h => Go.Ab.awp_sound g8 n _ _ _ _ (Go.Ab.kc (by kernel_rfl) h)
noncomputable def q8_3 : Nat → (AV → List AObj → Prop) → AQ := fun (n : Nat) (Post : AV → List AObj → Prop) => seqQ (fun (s' : Slots) (H' : List AObj) => awp Try.prog g8 n (codeSnd (codeSnd (codeSnd c8_14))) s' H' (q8_0 n Post)) (q8_0 n Post)
noncomputable def q8_4 : Nat → (AV → List AObj → Prop) → AQ := fun (n : Nat) (Post : AV → List AObj → Prop) => blockQ 2 (q8_3 n Post)
noncomputable def c8_17 : Go.Code := codeFst (codeSnd (codeFst (codeSnd (codeSnd c8_14))))
theorem v8_14 : ∀ (l : List T.Mani) (s : List UInt8) (d : List T.Ent) (n : Nat) (Post : AV → List AObj → Prop),
  (ASpec Try.prog 59 [AV.sl 2 (Seq.map T.encEn ([], []) d) Tip.none, AV.str { data := List.toArray s }] [] fun (r : AV) (H' : List AObj) =>
      ∃ (x : T.Mani × Bool),
        r = AV.tup [AV.agg [AV.str { data := List.toArray (Prod.fst (Prod.fst x)) }, AV.sl 2 (Seq.map T.encR ((0 : Int), []) (Prod.snd (Prod.fst x))) Tip.none], AV.bool (Prod.snd x)] ∧
        H' = [] ∧
        AWP Try.prog 106 n c8_17
        [(0, AV.sl 2 (Seq.map T.encM ([], []) l) Tip.none), (1, AV.str { data := List.toArray s }), (6, AV.sl 2 (Seq.map T.encEn ([], []) d) Tip.none),
        (10, AV.ptr 0 0), (11, AV.bool (Prod.snd x)), (12, AV.ptr 1 0), (13, AV.int IntKind.i64 (0 : Int))]
        [AObj.cells [AV.str { data := List.toArray (Prod.fst (Prod.fst x)) }, AV.sl 2 (Seq.map T.encR ((0 : Int), []) (Prod.snd (Prod.fst x))) Tip.none],
        AObj.cells [AV.str { data := List.toArray s }, AV.sl 0 (Seq.raw []) Tip.nil]]
        (q8_4 n Post)) →
    AWP Try.prog 106 n c8_14
      [(0, AV.sl 2 (Seq.map T.encM ([], []) l) Tip.none), (1, AV.str { data := List.toArray s }), (6, AV.sl 2 (Seq.map T.encEn ([], []) d) Tip.none)] []
      (q8_0 n Post) := fun l s d n Post h => Go.Ab.awp_sound g8 n _ _ _ _ (Go.Ab.kc (by kernel_rfl) h)
theorem v8_17 : ∀ (l : List T.Mani) (s : List UInt8) (d : List T.Ent) (m : T.Mani) (g : Bool) (w : T.Mani) (i : Int) (n : Nat) (Post : AV → List AObj → Prop),
  condP (decide (i < (↑(List.length l) : Int)))
      (needP ((0 : Int) ≤ i ∧ i < (↑(List.length l) : Int))
        (condP (ByteArray.toList { data := List.toArray (Prod.fst (List.getD l (Int.toNat i) ([], []))) } == ByteArray.toList { data := List.toArray s })
        (needP ((0 : Int) ≤ i ∧ i < (↑(List.length l) : Int))
        (AWP Try.prog 106 n c8_17
        [(0, AV.sl 2 (Seq.map T.encM ([], []) l) Tip.none), (1, AV.str { data := List.toArray s }), (6, AV.sl 2 (Seq.map T.encEn ([], []) d) Tip.none),
        (10, AV.ptr 0 0), (11, AV.bool g), (12, AV.ptr 1 0),
        (13, AV.int IntKind.i64 (IntKind.wrap IntKind.i64 (i + (1 : Int))))]
        [AObj.cells [AV.str { data := List.toArray (Prod.fst m) }, AV.sl 2 (Seq.map T.encR ((0 : Int), []) (Prod.snd m)) Tip.none],
        AObj.cells
        [AV.str { data := List.toArray (Prod.fst (List.getD l (Int.toNat i) ([], []))) },
        AV.sl 2 (Seq.map T.encR ((0 : Int), []) (Prod.snd (List.getD l (Int.toNat i) ([], [])))) Tip.none]]
        (q8_4 n Post)))
        (AWP Try.prog 106 n c8_17
        [(0, AV.sl 2 (Seq.map T.encM ([], []) l) Tip.none), (1, AV.str { data := List.toArray s }), (6, AV.sl 2 (Seq.map T.encEn ([], []) d) Tip.none),
        (10, AV.ptr 0 0), (11, AV.bool g), (12, AV.ptr 1 0), (13, AV.int IntKind.i64 (IntKind.wrap IntKind.i64 (i + (1 : Int))))]
        [AObj.cells [AV.str { data := List.toArray (Prod.fst m) }, AV.sl 2 (Seq.map T.encR ((0 : Int), []) (Prod.snd m)) Tip.none],
        AObj.cells [AV.str { data := List.toArray (Prod.fst w) }, AV.sl 2 (Seq.map T.encR ((0 : Int), []) (Prod.snd w)) Tip.none]]
        (q8_4 n Post))))
      (ASpec Try.prog 58 [AV.sl 2 (Seq.map T.encEn ([], []) d) Tip.none]
        [AObj.cells [AV.str { data := List.toArray (Prod.fst m) }, AV.sl 2 (Seq.map T.encR ((0 : Int), []) (Prod.snd m)) Tip.none],
        AObj.cells [AV.str { data := List.toArray (Prod.fst w) }, AV.sl 2 (Seq.map T.encR ((0 : Int), []) (Prod.snd w)) Tip.none]]
        fun (r : AV) (H' : List AObj) =>
        ∃ (x : Bool),
        r = AV.bool x ∧
        H' =
        [AObj.cells [AV.str { data := List.toArray (Prod.fst m) }, AV.sl 2 (Seq.map T.encR ((0 : Int), []) (Prod.snd m)) Tip.none],
        AObj.cells [AV.str { data := List.toArray (Prod.fst w) }, AV.sl 2 (Seq.map T.encR ((0 : Int), []) (Prod.snd w)) Tip.none]] ∧
        condP x
        (condP g
        (ASpec Try.prog 62
        [AV.agg [AV.str { data := List.toArray (Prod.fst m) }, AV.sl 2 (Seq.map T.encR ((0 : Int), []) (Prod.snd m)) Tip.none],
        AV.agg [AV.str { data := List.toArray (Prod.fst w) }, AV.sl 2 (Seq.map T.encR ((0 : Int), []) (Prod.snd w)) Tip.none]]
        [AObj.cells [AV.str { data := List.toArray (Prod.fst m) }, AV.sl 2 (Seq.map T.encR ((0 : Int), []) (Prod.snd m)) Tip.none],
        AObj.cells [AV.str { data := List.toArray (Prod.fst w) }, AV.sl 2 (Seq.map T.encR ((0 : Int), []) (Prod.snd w)) Tip.none]]
        fun (r : AV) (H' : List AObj) =>
        ∃ (x : Bool),
        r = AV.bool x ∧
        H' =
        [AObj.cells [AV.str { data := List.toArray (Prod.fst m) }, AV.sl 2 (Seq.map T.encR ((0 : Int), []) (Prod.snd m)) Tip.none],
        AObj.cells [AV.str { data := List.toArray (Prod.fst w) }, AV.sl 2 (Seq.map T.encR ((0 : Int), []) (Prod.snd w)) Tip.none]] ∧
        condP x
        (ASpec Try.prog 64 [AV.sl 2 (Seq.map T.encEn ([], []) d) Tip.none]
        [AObj.cells [AV.str { data := List.toArray (Prod.fst m) }, AV.sl 2 (Seq.map T.encR ((0 : Int), []) (Prod.snd m)) Tip.none],
        AObj.cells [AV.str { data := List.toArray (Prod.fst w) }, AV.sl 2 (Seq.map T.encR ((0 : Int), []) (Prod.snd w)) Tip.none]]
        fun (r : AV) (H' : List AObj) =>
        ∃ (x : List (List UInt8)),
        r = AV.sl 1 (Seq.map T.encL [] x) Tip.none ∧
        H' =
        [AObj.cells [AV.str { data := List.toArray (Prod.fst m) }, AV.sl 2 (Seq.map T.encR ((0 : Int), []) (Prod.snd m)) Tip.none],
        AObj.cells [AV.str { data := List.toArray (Prod.fst w) }, AV.sl 2 (Seq.map T.encR ((0 : Int), []) (Prod.snd w)) Tip.none]] ∧
        condP ((↑(List.length x) : Int) == (0 : Int))
        (ASpec Try.prog 57 []
        [AObj.cells [AV.str { data := List.toArray (Prod.fst m) }, AV.sl 2 (Seq.map T.encR ((0 : Int), []) (Prod.snd m)) Tip.none],
        AObj.cells [AV.str { data := List.toArray (Prod.fst w) }, AV.sl 2 (Seq.map T.encR ((0 : Int), []) (Prod.snd w)) Tip.none]]
        fun (r : AV) (H' : List AObj) =>
        ∃ (x : Unit),
        r = AV.bool true ∧
        H' =
        [AObj.cells [AV.str { data := List.toArray (Prod.fst m) }, AV.sl 2 (Seq.map T.encR ((0 : Int), []) (Prod.snd m)) Tip.none],
        AObj.cells [AV.str { data := List.toArray (Prod.fst w) }, AV.sl 2 (Seq.map T.encR ((0 : Int), []) (Prod.snd w)) Tip.none]] ∧
        Post (AV.bool true)
        [AObj.cells [AV.str { data := List.toArray (Prod.fst m) }, AV.sl 2 (Seq.map T.encR ((0 : Int), []) (Prod.snd m)) Tip.none],
        AObj.cells [AV.str { data := List.toArray (Prod.fst w) }, AV.sl 2 (Seq.map T.encR ((0 : Int), []) (Prod.snd w)) Tip.none]])
        (Post (AV.bool false)
        [AObj.cells [AV.str { data := List.toArray (Prod.fst m) }, AV.sl 2 (Seq.map T.encR ((0 : Int), []) (Prod.snd m)) Tip.none],
        AObj.cells [AV.str { data := List.toArray (Prod.fst w) }, AV.sl 2 (Seq.map T.encR ((0 : Int), []) (Prod.snd w)) Tip.none]]))
        (Post (AV.bool false)
        [AObj.cells [AV.str { data := List.toArray (Prod.fst m) }, AV.sl 2 (Seq.map T.encR ((0 : Int), []) (Prod.snd m)) Tip.none],
        AObj.cells [AV.str { data := List.toArray (Prod.fst w) }, AV.sl 2 (Seq.map T.encR ((0 : Int), []) (Prod.snd w)) Tip.none]]))
        (Post (AV.bool false)
        [AObj.cells [AV.str { data := List.toArray (Prod.fst m) }, AV.sl 2 (Seq.map T.encR ((0 : Int), []) (Prod.snd m)) Tip.none],
        AObj.cells [AV.str { data := List.toArray (Prod.fst w) }, AV.sl 2 (Seq.map T.encR ((0 : Int), []) (Prod.snd w)) Tip.none]]))
        (Post (AV.bool false)
        [AObj.cells [AV.str { data := List.toArray (Prod.fst m) }, AV.sl 2 (Seq.map T.encR ((0 : Int), []) (Prod.snd m)) Tip.none],
        AObj.cells [AV.str { data := List.toArray (Prod.fst w) }, AV.sl 2 (Seq.map T.encR ((0 : Int), []) (Prod.snd w)) Tip.none]])) →
    AWP Try.prog 106 n c8_17
      [(0, AV.sl 2 (Seq.map T.encM ([], []) l) Tip.none), (1, AV.str { data := List.toArray s }), (6, AV.sl 2 (Seq.map T.encEn ([], []) d) Tip.none),
        (10, AV.ptr 0 0), (11, AV.bool g), (12, AV.ptr 1 0), (13, AV.int IntKind.i64 i)]
      [AObj.cells (T.encM m), AObj.cells (T.encM w)] (q8_4 n Post) := fun l s d m g w i n Post h => Go.Ab.AWP.loop' g8 (Cfg.live g8) c8_17 (by kernel_rfl) (by kernel_rfl) (Go.Ab.kc (by kernel_rfl) h)

end
end Dp
end

section
/- Events as cells. -/

open Go Go.Ab Go.Proofs
namespace T
/-- kind, needs, ticks, ticket, body -/
abbrev Ev := Int × List Need × Int × Int × List UInt8
noncomputable def encE (x : Ev) : List AV := [.int .i64 x.1, .sl 2 (.map encN ([], []) x.2.1) .none, .int .i64 x.2.2.1, .int .i64 x.2.2.2.1, .sl 1 (.map encB 0 x.2.2.2.2) .none]
abbrev noEv : Ev := (0, [], 0, 0, [])
end T
end

section
/- A stand's parts as cells. -/

open Go Go.Ab Go.Proofs
namespace T
/-- ticket, name -/
abbrev Item := Int × List UInt8
noncomputable def encIt (x : Item) : List AV := [.int .i64 x.1, .str ⟨x.2.toArray⟩]
/-- an event that lies in an interface -/
noncomputable def encSn (x : Ev) : List AV := [.iface 68 (.agg (encE x))]
/-- kind, ticket, name of something that is done -/
abbrev Ac := Int × Int × List UInt8
noncomputable def encA (x : Ac) : List AV := [.int .i64 x.1, .int .i64 x.2.1, .str ⟨x.2.2.toArray⟩, .int .i64 0, .int .i64 0, .sl 0 (.raw []) .nil, .sl 0 (.raw []) .nil]
noncomputable def stO (D : List Ent) (W : List Item) (S : List Ev) (a b : Nat) : AObj := .cells [.sl 2 (.map encEn ([], []) D) .none, .sl 2 (.map encIt (0, []) W) (.tok a), .sl 1 (.map encSn noEv S) (.tok b)]
noncomputable def HS (D : List Ent) (W : List Item) (S : List Ev) : List AObj := [stO D W S 1 2, .tok, .tok]
noncomputable def HS2 (D : List Ent) (W : List Item) (S : List Ev) : List AObj := [stO D W S 3 2, .gone, .tok, .tok]
end T
end

section
/- Printed: what the code of functions 373, 324, 393, 372, 323, 263, 170, 253, 165, 154, 322, 261, 164, 39, 262, 325, 45 asks for, by the framework's own reading of it; each line is checked against the code. -/

set_option linter.unusedVariables false
set_option maxRecDepth 100000
set_option maxHeartbeats 4000000
open Go Go.Ab Go.Proofs
namespace S
noncomputable section

noncomputable def retS : List (Nat × Ret) := [
  (9032, ⟨Unit, fun _ _ _ => .bool true, fun _ H _ => H⟩),
  (9033, ⟨ByteArray × List UInt8 × Int, fun _ _ x => .tup [.str x.1, .sl 1 (.map encB 0 x.2.1) .none, .int .i64 x.2.2], fun _ H _ => H⟩),
  (45, ⟨ByteArray × ByteArray × Int, fun _ _ x => .tup [.str x.1, .str x.2.1, .int .i64 x.2.2], fun _ H _ => H⟩),
  (262, ⟨List UInt8, fun _ _ x => .sl 1 (.map encB 0 x) .none, fun _ H _ => H⟩),
  (325, ⟨ByteArray, fun _ _ x => .str x, fun _ H _ => H⟩),
  (39, ⟨Bool, fun _ _ x => .bool x, fun _ H _ => H⟩),
  (9090, ⟨List UInt8 × Bool, fun _ _ x => .tup [.sl 1 (.map encB 0 x.1) .none, .bool x.2], fun _ H _ => H⟩),
  (154, ⟨Bool, fun _ _ x => .bool x, fun _ H _ => H⟩),
  (170, ⟨ByteArray × Bool, fun _ _ x => .tup [.str x.1, .bool x.2], fun _ H _ => H⟩),
  (323, ⟨List UInt8, fun _ _ x => .sl 1 (.map encB 0 x) .none, fun _ H _ => H⟩),
  (263, ⟨ByteArray, fun _ _ x => .str x, fun _ H _ => H⟩),
  (164, ⟨List Int, fun _ _ x => .sl 1 (.map encI 0 x) .none, fun _ H _ => H⟩),
  (165, ⟨Int, fun _ _ x => .int .i64 x, fun _ H _ => H⟩),
  (372, ⟨Int, fun _ _ x => .int .u32 x, fun _ H _ => H⟩),
  (253, ⟨Int, fun _ _ x => .int .i64 x, fun _ H _ => H⟩),
  (324, ⟨Int, fun _ _ x => .int .i64 x, fun _ H _ => H⟩),
  (261, ⟨Int × Int, fun _ _ x => .tup [.int .i64 x.1, .int .i64 x.2], fun _ H _ => H⟩),
  (393, ⟨Int, fun _ _ x => .int .u32 x, fun _ H _ => H⟩),
  (373, ⟨Int, fun _ _ x => .int .i64 x, fun _ H _ => H⟩),
  (322, ⟨Int, fun _ _ x => .int .i64 x, fun _ H _ => H⟩)]
noncomputable def rets : FuncId → List Ret := lookupR (retS ++ V.retL)

-- 373
noncomputable def l373 : Nat → List Nat
  | 3 => [0, 1, 5, 6]
  | 6 => [0, 1, 5, 6]
  | _ => []
noncomputable def u373 : Nat → Bool
  | 6 => true
  | _ => false
noncomputable def m373 : Nat → Bool
  | _ => false
noncomputable def g373 : Cfg := { N := 24, live := l373, cut := u373, mu := m373, ret := rets }
noncomputable def c373 : Go.Code := Go.Ab.bodyOf Go.Proofs.Try.f373
noncomputable def q373_0 : Nat → (AV → List AObj → Prop) → AQ := fun (n : Nat) (Post : AV → List AObj → Prop) => endQ Try.prog (resultsOf Try.f373) Post
noncomputable def q373_1 : Nat → (AV → List AObj → Prop) → AQ := fun (n : Nat) (Post : AV → List AObj → Prop) => seqQ (fun (s' : Slots) (H' : List AObj) => awp Try.prog g373 n (codeSnd (codeSnd (codeSnd (codeSnd c373)))) s' H' (q373_0 n Post)) (q373_0 n Post)
noncomputable def q373_2 : Nat → (AV → List AObj → Prop) → AQ := fun (n : Nat) (Post : AV → List AObj → Prop) => blockQ 0 (q373_1 n Post)
noncomputable def c373_3 : Go.Code := codeFst (codeFst (codeSnd (codeSnd (codeSnd c373))))
theorem s373 : ∀ (a b : Int) (Post : AV → List AObj → Prop),
  AWP Try.prog 24 0 c373_3 [(0, AV.int IntKind.i64 a), (1, AV.int IntKind.i64 b), (5, AV.int IntKind.i64 (0 : Int)), (6, AV.int IntKind.i64 (1 : Int))]
      [] (q373_2 0 Post) →
    ASpec Try.prog 373 [AV.int IntKind.i64 a, AV.int IntKind.i64 b] [] Post := fun a b Post h => Go.Ab.ASpec.of_vc g373 Go.Proofs.Try.func373 (by kernel_rfl) (by kernel_rfl) (by kernel_rfl) (Go.Ab.kc (by kernel_rfl) h)
noncomputable def q373_3 : Nat → (AV → List AObj → Prop) → AQ := fun (n : Nat) (Post : AV → List AObj → Prop) => loopQ Try.prog 24 n c373_3 (q373_2 n Post) (Cfg.live g373)
noncomputable def q373_4 : Nat → (AV → List AObj → Prop) → AQ := fun (n : Nat) (Post : AV → List AObj → Prop) => blockQ 1 (q373_3 n Post)
noncomputable def c373_6 : Go.Code := codeSnd (codeFst (codeSnd (codeFst c373_3)))
theorem v373_3 : ∀ (a b n w : Int) (n_1 : Nat) (Post : AV → List AObj → Prop),
  condP (decide (w < (256 : Int)))
      (needP ((2 : Int) ≠ (0 : Int))
        (needP ((2 : Int) ≠ (0 : Int))
        (condP (Int.tmod a (2 : Int) != Int.tmod b (2 : Int))
        (AWP Try.prog 24 n_1 c373_6
        [(0, AV.int IntKind.i64 a), (1, AV.int IntKind.i64 b), (5, AV.int IntKind.i64 (IntKind.wrap IntKind.i64 (n + w))), (6, AV.int IntKind.i64 w)] []
        (q373_4 n_1 Post))
        (AWP Try.prog 24 n_1 c373_6 [(0, AV.int IntKind.i64 a), (1, AV.int IntKind.i64 b), (5, AV.int IntKind.i64 n), (6, AV.int IntKind.i64 w)] []
        (q373_4 n_1 Post)))))
      (Post (AV.int IntKind.i64 n) []) →
    AWP Try.prog 24 n_1 c373_3 [(0, AV.int IntKind.i64 a), (1, AV.int IntKind.i64 b), (5, AV.int IntKind.i64 n), (6, AV.int IntKind.i64 w)] [] (q373_2 n_1 Post) := fun a b n w n Post h => Go.Ab.AWP.loop' g373 (Cfg.live g373) c373_3 (by kernel_rfl) (by kernel_rfl) (Go.Ab.kc (by kernel_rfl) h)
theorem v373_6 : ∀ (a b n w : Int) (n_1 : Nat) (Post : AV → List AObj → Prop),
  needP ((2 : Int) ≠ (0 : Int))
      (needP ((2 : Int) ≠ (0 : Int))
        (AWP Try.prog 24 n_1 c373_3
        [(0, AV.int IntKind.i64 (IntKind.wrap IntKind.i64 (Int.tdiv a (2 : Int)))), (1, AV.int IntKind.i64 (IntKind.wrap IntKind.i64 (Int.tdiv b (2 : Int)))),
        (5, AV.int IntKind.i64 n), (6, AV.int IntKind.i64 (IntKind.wrap IntKind.i64 (w * (2 : Int))))]
        [] (q373_2 n_1 Post))) →
    AWP Try.prog 24 n_1 c373_6 [(0, AV.int IntKind.i64 a), (1, AV.int IntKind.i64 b), (5, AV.int IntKind.i64 n), (6, AV.int IntKind.i64 w)] [] (q373_4 n_1 Post) := fun a b n w n Post h => Go.Ab.awp_sound g373 n _ _ _ _ (Go.Ab.kc (by kernel_rfl) h)

-- 324
noncomputable def l324 : Nat → List Nat
  | 3 => [0, 3, 4]
  | _ => []
noncomputable def u324 : Nat → Bool
  | _ => false
noncomputable def m324 : Nat → Bool
  | _ => false
noncomputable def g324 : Cfg := { N := 28, live := l324, cut := u324, mu := m324, ret := rets }
noncomputable def c324 : Go.Code := Go.Ab.bodyOf Go.Proofs.Try.f324
noncomputable def q324_0 : Nat → (AV → List AObj → Prop) → AQ := fun (n : Nat) (Post : AV → List AObj → Prop) => endQ Try.prog (resultsOf Try.f324) Post
noncomputable def q324_1 : Nat → (AV → List AObj → Prop) → AQ := fun (n : Nat) (Post : AV → List AObj → Prop) => seqQ (fun (s' : Slots) (H' : List AObj) => awp Try.prog g324 n (codeSnd (codeSnd (codeSnd c324))) s' H' (q324_0 n Post)) (q324_0 n Post)
noncomputable def q324_2 : Nat → (AV → List AObj → Prop) → AQ := fun (n : Nat) (Post : AV → List AObj → Prop) => blockQ 0 (q324_1 n Post)
noncomputable def c324_3 : Go.Code := codeFst (codeSnd (codeFst (codeSnd (codeSnd c324))))
theorem s324 : ∀ (s : ByteArray) (Post : AV → List AObj → Prop),
  AWP Try.prog 28 0 c324_3 [(0, AV.str s), (3, AV.int IntKind.i64 (2166136261 : Int)), (4, AV.int IntKind.i64 (0 : Int))] [] (q324_2 0 Post) →
    ASpec Try.prog 324 [AV.str s] [] Post := fun s Post h => Go.Ab.ASpec.of_vc g324 Go.Proofs.Try.func324 (by kernel_rfl) (by kernel_rfl) (by kernel_rfl) (Go.Ab.kc (by kernel_rfl) h)
theorem v324_3 : ∀ (s : ByteArray) (n i : Int) (n_1 : Nat) (Post : AV → List AObj → Prop),
  condP (decide (i < (↑(ByteArray.size s) : Int)))
      (needP ((256 : Int) ≠ (0 : Int))
        (needP ((0 : Int) ≤ i ∧ i < (↑(ByteArray.size s) : Int))
        (ASpec Try.prog 373
        [AV.int IntKind.i64 (Int.tmod n (256 : Int)), AV.int IntKind.i64 (IntKind.wrap IntKind.i64 (↑(UInt8.toNat (List.getD (Array.toList (ByteArray.data s)) (Int.toNat i) (0 : UInt8))) : Int))]
        [] fun (r : AV) (H' : List AObj) =>
        ∃ (x : Int),
        r = AV.int IntKind.i64 x ∧
        H' = [] ∧
        needP ((4294967296 : Int) ≠ (0 : Int))
        (AWP Try.prog 28 n_1 c324_3
        [(0, AV.str s),
        (3,
        AV.int IntKind.i64
        (Int.tmod (IntKind.wrap IntKind.i64 (IntKind.wrap IntKind.i64 (IntKind.wrap IntKind.i64 (n - Int.tmod n (256 : Int)) + x) * (16777619 : Int))) (4294967296 : Int))),
        (4, AV.int IntKind.i64 (IntKind.wrap IntKind.i64 (i + (1 : Int))))]
        [] (q324_2 n_1 Post)))))
      (Post (AV.int IntKind.i64 n) []) →
    AWP Try.prog 28 n_1 c324_3 [(0, AV.str s), (3, AV.int IntKind.i64 n), (4, AV.int IntKind.i64 i)] [] (q324_2 n_1 Post) := fun s n i n Post h => Go.Ab.AWP.loop' g324 (Cfg.live g324) c324_3 (by kernel_rfl) (by kernel_rfl) (Go.Ab.kc (by kernel_rfl) h)

-- 393
noncomputable def l393 : Nat → List Nat
  | 2 => [0, 7, 8, 9]
  | _ => []
noncomputable def u393 : Nat → Bool
  | _ => false
noncomputable def m393 : Nat → Bool
  | _ => false
noncomputable def g393 : Cfg := { N := 20, live := l393, cut := u393, mu := m393, ret := rets }
noncomputable def c393 : Go.Code := Go.Ab.bodyOf Go.Proofs.Try.f393
noncomputable def q393_0 : Nat → (AV → List AObj → Prop) → AQ := fun (n : Nat) (Post : AV → List AObj → Prop) => endQ Try.prog (resultsOf Try.f393) Post
noncomputable def q393_1 : Nat → (AV → List AObj → Prop) → AQ := fun (n : Nat) (Post : AV → List AObj → Prop) => seqQ (fun (s' : Slots) (H' : List AObj) => awp Try.prog g393 n (codeSnd (codeSnd c393)) s' H' (q393_0 n Post)) (q393_0 n Post)
noncomputable def q393_2 : Nat → (AV → List AObj → Prop) → AQ := fun (n : Nat) (Post : AV → List AObj → Prop) => blockQ 0 (q393_1 n Post)
noncomputable def c393_2 : Go.Code := codeFst (codeSnd (codeFst (codeSnd c393)))
theorem s393 : ∀ (x : Int) (bs : List UInt8) (Post : AV → List AObj → Prop),
  AWP Try.prog 20 0 c393_2
      [(0, AV.int IntKind.u32 x), (7, AV.sl 1 (Seq.map encB (0 : UInt8) bs) Tip.none), (8, AV.int IntKind.i64 (↑(List.length bs) : Int)),
        (9, AV.int IntKind.i64 (0 : Int))]
      [] (q393_2 0 Post) →
    ASpec Try.prog 393 [AV.int IntKind.u32 x, AV.sl 1 (Seq.map encB (0 : UInt8) bs) Tip.none] [] Post := fun x bs Post h => Go.Ab.ASpec.of_vc g393 Go.Proofs.Try.func393 (by kernel_rfl) (by kernel_rfl) (by kernel_rfl) (Go.Ab.kc (by kernel_rfl) h)
theorem v393_2 : ∀ (x : Int) (bs : List UInt8) (n i : Int) (n_1 : Nat) (Post : AV → List AObj → Prop),
  condP (decide (i < n))
      (needP ((0 : Int) ≤ i ∧ i < (↑(List.length bs) : Int))
        (AWP Try.prog 20 n_1 c393_2
        [(0,
        AV.int IntKind.u32
        (IntKind.wrap IntKind.u32
        (IntKind.wrap IntKind.u32
        (↑(BitVec.toNat (BitVec.ofInt 32 x ^^^ BitVec.ofInt 32 (IntKind.wrap IntKind.u32 (↑(UInt8.toNat (List.getD bs (Int.toNat i) (0 : UInt8))) : Int)))) : Int) *
        (16777619 : Int)))),
        (7, AV.sl 1 (Seq.map encB (0 : UInt8) bs) Tip.none), (8, AV.int IntKind.i64 n), (9, AV.int IntKind.i64 (IntKind.wrap IntKind.i64 (i + (1 : Int))))]
        [] (q393_2 n_1 Post)))
      (Post (AV.int IntKind.u32 x) []) →
    AWP Try.prog 20 n_1 c393_2
      [(0, AV.int IntKind.u32 x), (7, AV.sl 1 (Seq.map encB (0 : UInt8) bs) Tip.none), (8, AV.int IntKind.i64 n), (9, AV.int IntKind.i64 i)] []
      (q393_2 n_1 Post) := fun x bs n i n Post h => Go.Ab.AWP.loop' g393 (Cfg.live g393) c393_2 (by kernel_rfl) (by kernel_rfl) (Go.Ab.kc (by kernel_rfl) h)

-- 372
noncomputable def l372 : Nat → List Nat
  | _ => []
noncomputable def u372 : Nat → Bool
  | _ => false
noncomputable def m372 : Nat → Bool
  | _ => false
noncomputable def g372 : Cfg := { N := 5, live := l372, cut := u372, mu := m372, ret := rets }
noncomputable def c372 : Go.Code := Go.Ab.bodyOf Go.Proofs.Try.f372
theorem s372 : ∀ (bs : List UInt8) (Post : AV → List AObj → Prop),
  (ASpec Try.prog 393 [AV.int IntKind.u32 (2166136261 : Int), AV.sl 1 (Seq.map encB (0 : UInt8) bs) Tip.none] [] fun (r : AV) (H' : List AObj) =>
      ∃ (x : Int), r = AV.int IntKind.u32 x ∧ H' = [] ∧ Post (AV.int IntKind.u32 x) []) →
    ASpec Try.prog 372 [AV.sl 1 (Seq.map encB (0 : UInt8) bs) Tip.none] [] Post := fun bs Post h => Go.Ab.ASpec.of_vc g372 Go.Proofs.Try.func372 (by kernel_rfl) (by kernel_rfl) (by kernel_rfl) (Go.Ab.kc (by kernel_rfl) h)

-- 323
noncomputable def l323 : Nat → List Nat
  | _ => []
noncomputable def u323 : Nat → Bool
  | _ => false
noncomputable def m323 : Nat → Bool
  | _ => false
noncomputable def g323 : Cfg := { N := 28, live := l323, cut := u323, mu := m323, ret := rets }
noncomputable def c323 : Go.Code := Go.Ab.bodyOf Go.Proofs.Try.f323
theorem s323 : ∀ (bs : List UInt8) (Post : AV → List AObj → Prop),
  (ASpec Try.prog 372 [AV.sl 1 (Seq.map encB (0 : UInt8) bs) Tip.none] [] fun (r : AV) (H' : List AObj) =>
      ∃ (x : Int),
        r = AV.int IntKind.u32 x ∧
        H' = [] ∧
        needP
        ((0 : Int) ≤ (0 : Int) ∧
        (0 : Int) ≤ IntKind.wrap IntKind.i64 ((↑(List.length bs) : Int) + (4 : Int)) ∧
        IntKind.wrap IntKind.i64 ((↑(List.length bs) : Int) + (4 : Int)) ≤ (9223372036854775807 : Int) ∧
        (1 : Int) * IntKind.wrap IntKind.i64 ((↑(List.length bs) : Int) + (4 : Int)) ≤ (281474976710656 : Int))
        (needP (∀ (x : UInt8), List.all (encB x) oneAV = true)
        (needP ((0 + List.length bs) * 1 ≤ 140737488351232)
        (needP ((0 : Int) ≤ (24 : Int))
        (needP ((0 : Int) ≤ (16 : Int))
        (needP ((0 : Int) ≤ (8 : Int))
        (needP ((0 + List.length bs + 4) * 1 ≤ 140737488351232)
        (Post
        (AV.sl 1
        (Seq.app (Seq.app (Seq.raw []) (Seq.map encB (0 : UInt8) bs))
        (Seq.raw
        [[AV.int IntKind.u8 (IntKind.wrap IntKind.u8 (Int.fdiv x (16777216 : Int)))], [AV.int IntKind.u8 (IntKind.wrap IntKind.u8 (Int.fdiv x (65536 : Int)))],
        [AV.int IntKind.u8 (IntKind.wrap IntKind.u8 (Int.fdiv x (256 : Int)))], [AV.int IntKind.u8 (IntKind.wrap IntKind.u8 x)]]))
        (Tip.tok 2))
        [AObj.gone, AObj.gone, AObj.tok])))))))) →
    ASpec Try.prog 323 [AV.sl 1 (Seq.map encB (0 : UInt8) bs) Tip.none] [] Post := fun bs Post h => Go.Ab.ASpec.of_vc g323 Go.Proofs.Try.func323 (by kernel_rfl) (by kernel_rfl) (by kernel_rfl) (Go.Ab.kc (by kernel_rfl) h)

-- 263
noncomputable def l263 : Nat → List Nat
  | _ => []
noncomputable def u263 : Nat → Bool
  | _ => false
noncomputable def m263 : Nat → Bool
  | _ => false
noncomputable def g263 : Cfg := { N := 24, live := l263, cut := u263, mu := m263, ret := rets }
noncomputable def c263 : Go.Code := Go.Ab.bodyOf Go.Proofs.Try.f263
theorem s263 : ∀ (s : ByteArray) (Post : AV → List AObj → Prop),
  (ASpec Try.prog 324 [AV.str s] [] fun (r : AV) (H' : List AObj) =>
      ∃ (x : Int),
        r = AV.int IntKind.i64 x ∧
        H' = [] ∧
        needP ((16777216 : Int) ≠ (0 : Int))
        (needP ((65536 : Int) ≠ (0 : Int))
        (needP ((256 : Int) ≠ (0 : Int))
        (needP ((256 : Int) ≠ (0 : Int))
        (needP ((256 : Int) ≠ (0 : Int))
        (needP ((256 : Int) ≠ (0 : Int))
        (needP
        (allBytes
        (Seq.raw
        [[AV.int IntKind.u8 (IntKind.wrap IntKind.u8 (IntKind.wrap IntKind.i64 (Int.tdiv x (16777216 : Int))))],
        [AV.int IntKind.u8 (IntKind.wrap IntKind.u8 (Int.tmod (IntKind.wrap IntKind.i64 (Int.tdiv x (65536 : Int))) (256 : Int)))],
        [AV.int IntKind.u8 (IntKind.wrap IntKind.u8 (Int.tmod (IntKind.wrap IntKind.i64 (Int.tdiv x (256 : Int))) (256 : Int)))],
        [AV.int IntKind.u8 (IntKind.wrap IntKind.u8 (Int.tmod x (256 : Int)))]]))
        (needP
        ((↑(ByteArray.size s +
        ByteArray.size
        (bytesOf
        (Seq.raw
        [[AV.int IntKind.u8 (IntKind.wrap IntKind.u8 (IntKind.wrap IntKind.i64 (Int.tdiv x (16777216 : Int))))],
        [AV.int IntKind.u8 (IntKind.wrap IntKind.u8 (Int.tmod (IntKind.wrap IntKind.i64 (Int.tdiv x (65536 : Int))) (256 : Int)))],
        [AV.int IntKind.u8 (IntKind.wrap IntKind.u8 (Int.tmod (IntKind.wrap IntKind.i64 (Int.tdiv x (256 : Int))) (256 : Int)))],
        [AV.int IntKind.u8 (IntKind.wrap IntKind.u8 (Int.tmod x (256 : Int)))]]))) :
        Int) ≤
        (9223372036854775807 : Int))
        (Post
        (AV.str
        (s ++
        bytesOf
        (Seq.raw
        [[AV.int IntKind.u8 (IntKind.wrap IntKind.u8 (IntKind.wrap IntKind.i64 (Int.tdiv x (16777216 : Int))))],
        [AV.int IntKind.u8 (IntKind.wrap IntKind.u8 (Int.tmod (IntKind.wrap IntKind.i64 (Int.tdiv x (65536 : Int))) (256 : Int)))],
        [AV.int IntKind.u8 (IntKind.wrap IntKind.u8 (Int.tmod (IntKind.wrap IntKind.i64 (Int.tdiv x (256 : Int))) (256 : Int)))],
        [AV.int IntKind.u8 (IntKind.wrap IntKind.u8 (Int.tmod x (256 : Int)))]])))
        []))))))))) →
    ASpec Try.prog 263 [AV.str s] [] Post := fun s Post h => Go.Ab.ASpec.of_vc g263 Go.Proofs.Try.func263 (by kernel_rfl) (by kernel_rfl) (by kernel_rfl) (Go.Ab.kc (by kernel_rfl) h)

-- 170
noncomputable def l170 : Nat → List Nat
  | _ => []
noncomputable def u170 : Nat → Bool
  | _ => false
noncomputable def m170 : Nat → Bool
  | _ => false
noncomputable def g170 : Cfg := { N := 21, live := l170, cut := u170, mu := m170, ret := rets }
noncomputable def c170 : Go.Code := Go.Ab.bodyOf Go.Proofs.Try.f170
theorem s170 : ∀ (s : ByteArray) (Post : AV → List AObj → Prop),
  condP (decide (IntKind.wrap IntKind.i64 ((↑(ByteArray.size s) : Int) - (4 : Int)) < (0 : Int))) (Post (AV.tup [AV.str { data := #[] }, AV.bool false]) [])
      (needP ((0 : Int) ≤ IntKind.wrap IntKind.i64 ((↑(ByteArray.size s) : Int) - (4 : Int)) ∧ IntKind.wrap IntKind.i64 ((↑(ByteArray.size s) : Int) - (4 : Int)) ≤ (↑(ByteArray.size s) : Int))
        (ASpec Try.prog 263 [AV.str (ByteArray.extract s 0 (Int.toNat (IntKind.wrap IntKind.i64 ((↑(ByteArray.size s) : Int) - (4 : Int)))))] [] fun (r : AV) (H' : List AObj) =>
        ∃ (x : ByteArray),
        r = AV.str x ∧
        H' = [] ∧
        condP (!ByteArray.toList x == ByteArray.toList s) (Post (AV.tup [AV.str { data := #[] }, AV.bool false]) [])
        (needP
        ((0 : Int) ≤ IntKind.wrap IntKind.i64 ((↑(ByteArray.size s) : Int) - (4 : Int)) ∧ IntKind.wrap IntKind.i64 ((↑(ByteArray.size s) : Int) - (4 : Int)) ≤ (↑(ByteArray.size s) : Int))
        (Post (AV.tup [AV.str (ByteArray.extract s 0 (Int.toNat (IntKind.wrap IntKind.i64 ((↑(ByteArray.size s) : Int) - (4 : Int))))), AV.bool true]) [])))) →
    ASpec Try.prog 170 [AV.str s] [] Post := fun s Post h => Go.Ab.ASpec.of_vc g170 Go.Proofs.Try.func170 (by kernel_rfl) (by kernel_rfl) (by kernel_rfl) (Go.Ab.kc (by kernel_rfl) h)

-- 253
noncomputable def l253 : Nat → List Nat
  | _ => []
noncomputable def u253 : Nat → Bool
  | _ => false
noncomputable def m253 : Nat → Bool
  | _ => false
noncomputable def g253 : Cfg := { N := 27, live := l253, cut := u253, mu := m253, ret := rets }
noncomputable def c253 : Go.Code := Go.Ab.bodyOf Go.Proofs.Try.f253
theorem s253 : ∀ (c : Int) (Post : AV → List AObj → Prop),
  condP (decide (c ≥ (97 : Int)))
      (condP (decide (c ≤ (122 : Int))) (Post (AV.int IntKind.i64 (0 : Int)) [])
        (condP (decide (c ≥ (945 : Int)))
        (condP (decide (c ≤ (969 : Int))) (Post (AV.int IntKind.i64 (1 : Int)) [])
        (condP (decide (c ≥ (48 : Int)))
        (condP (decide (c ≤ (57 : Int))) (Post (AV.int IntKind.i64 (2 : Int)) []) (condP (c == (45 : Int)) (Post (AV.int IntKind.i64 (3 : Int)) []) (Post (AV.int IntKind.i64 (4 : Int)) [])))
        (condP (c == (45 : Int)) (Post (AV.int IntKind.i64 (3 : Int)) []) (Post (AV.int IntKind.i64 (4 : Int)) []))))
        (condP (decide (c ≥ (48 : Int)))
        (condP (decide (c ≤ (57 : Int))) (Post (AV.int IntKind.i64 (2 : Int)) []) (condP (c == (45 : Int)) (Post (AV.int IntKind.i64 (3 : Int)) []) (Post (AV.int IntKind.i64 (4 : Int)) [])))
        (condP (c == (45 : Int)) (Post (AV.int IntKind.i64 (3 : Int)) []) (Post (AV.int IntKind.i64 (4 : Int)) [])))))
      (condP (decide (c ≥ (945 : Int)))
        (condP (decide (c ≤ (969 : Int))) (Post (AV.int IntKind.i64 (1 : Int)) [])
        (condP (decide (c ≥ (48 : Int)))
        (condP (decide (c ≤ (57 : Int))) (Post (AV.int IntKind.i64 (2 : Int)) []) (condP (c == (45 : Int)) (Post (AV.int IntKind.i64 (3 : Int)) []) (Post (AV.int IntKind.i64 (4 : Int)) [])))
        (condP (c == (45 : Int)) (Post (AV.int IntKind.i64 (3 : Int)) []) (Post (AV.int IntKind.i64 (4 : Int)) []))))
        (condP (decide (c ≥ (48 : Int)))
        (condP (decide (c ≤ (57 : Int))) (Post (AV.int IntKind.i64 (2 : Int)) []) (condP (c == (45 : Int)) (Post (AV.int IntKind.i64 (3 : Int)) []) (Post (AV.int IntKind.i64 (4 : Int)) [])))
        (condP (c == (45 : Int)) (Post (AV.int IntKind.i64 (3 : Int)) []) (Post (AV.int IntKind.i64 (4 : Int)) [])))) →
    ASpec Try.prog 253 [AV.int IntKind.i32 c] [] Post := fun c Post h => Go.Ab.ASpec.of_vc g253 Go.Proofs.Try.func253 (by kernel_rfl) (by kernel_rfl) (by kernel_rfl) (Go.Ab.kc (by kernel_rfl) h)

-- 165
noncomputable def l165 : Nat → List Nat
  | _ => []
noncomputable def u165 : Nat → Bool
  | _ => false
noncomputable def m165 : Nat → Bool
  | _ => false
noncomputable def g165 : Cfg := { N := 23, live := l165, cut := u165, mu := m165, ret := rets }
noncomputable def c165 : Go.Code := Go.Ab.bodyOf Go.Proofs.Try.f165
theorem s165 : ∀ (c : Int) (Post : AV → List AObj → Prop),
  condP (decide (c ≥ (97 : Int)))
      (condP (decide (c ≤ (122 : Int))) (Post (AV.int IntKind.i64 (0 : Int)) [])
        (condP (decide (c ≥ (945 : Int)))
        (condP (decide (c ≤ (969 : Int))) (Post (AV.int IntKind.i64 (1 : Int)) [])
        (condP (decide (c ≥ (48 : Int)))
        (condP (decide (c ≤ (57 : Int))) (Post (AV.int IntKind.i64 (2 : Int)) []) (condP (c == (45 : Int)) (Post (AV.int IntKind.i64 (3 : Int)) []) (Post (AV.int IntKind.i64 (4 : Int)) [])))
        (condP (c == (45 : Int)) (Post (AV.int IntKind.i64 (3 : Int)) []) (Post (AV.int IntKind.i64 (4 : Int)) []))))
        (condP (decide (c ≥ (48 : Int)))
        (condP (decide (c ≤ (57 : Int))) (Post (AV.int IntKind.i64 (2 : Int)) []) (condP (c == (45 : Int)) (Post (AV.int IntKind.i64 (3 : Int)) []) (Post (AV.int IntKind.i64 (4 : Int)) [])))
        (condP (c == (45 : Int)) (Post (AV.int IntKind.i64 (3 : Int)) []) (Post (AV.int IntKind.i64 (4 : Int)) [])))))
      (condP (decide (c ≥ (945 : Int)))
        (condP (decide (c ≤ (969 : Int))) (Post (AV.int IntKind.i64 (1 : Int)) [])
        (condP (decide (c ≥ (48 : Int)))
        (condP (decide (c ≤ (57 : Int))) (Post (AV.int IntKind.i64 (2 : Int)) []) (condP (c == (45 : Int)) (Post (AV.int IntKind.i64 (3 : Int)) []) (Post (AV.int IntKind.i64 (4 : Int)) [])))
        (condP (c == (45 : Int)) (Post (AV.int IntKind.i64 (3 : Int)) []) (Post (AV.int IntKind.i64 (4 : Int)) []))))
        (condP (decide (c ≥ (48 : Int)))
        (condP (decide (c ≤ (57 : Int))) (Post (AV.int IntKind.i64 (2 : Int)) []) (condP (c == (45 : Int)) (Post (AV.int IntKind.i64 (3 : Int)) []) (Post (AV.int IntKind.i64 (4 : Int)) [])))
        (condP (c == (45 : Int)) (Post (AV.int IntKind.i64 (3 : Int)) []) (Post (AV.int IntKind.i64 (4 : Int)) [])))) →
    ASpec Try.prog 165 [AV.int IntKind.i64 c] [] Post := fun c Post h => Go.Ab.ASpec.of_vc g165 Go.Proofs.Try.func165 (by kernel_rfl) (by kernel_rfl) (by kernel_rfl) (Go.Ab.kc (by kernel_rfl) h)

-- 154
noncomputable def l154 : Nat → List Nat
  | 3 => [3, 8]
  | _ => []
noncomputable def u154 : Nat → Bool
  | _ => false
noncomputable def m154 : Nat → Bool
  | _ => false
noncomputable def g154 : Cfg := { N := 32, live := l154, cut := u154, mu := m154, ret := rets }
noncomputable def c154 : Go.Code := Go.Ab.bodyOf Go.Proofs.Try.f154
noncomputable def q154_0 : Nat → (AV → List AObj → Prop) → AQ := fun (n : Nat) (Post : AV → List AObj → Prop) => endQ Try.prog (resultsOf Try.f154) Post
noncomputable def q154_1 : Nat → (AV → List AObj → Prop) → AQ := fun (n : Nat) (Post : AV → List AObj → Prop) => seqQ (fun (s' : Slots) (H' : List AObj) => awp Try.prog g154 n (codeSnd (codeSnd (codeSnd c154))) s' H' (q154_0 n Post)) (q154_0 n Post)
noncomputable def q154_2 : Nat → (AV → List AObj → Prop) → AQ := fun (n : Nat) (Post : AV → List AObj → Prop) => blockQ 0 (q154_1 n Post)
noncomputable def c154_3 : Go.Code := codeFst (codeSnd (codeFst (codeSnd (codeSnd c154))))
theorem s154 : ∀ (s : ByteArray) (Post : AV → List AObj → Prop),
  AWP Try.prog 32 0 c154_3 [(3, AV.int IntKind.i64 (0 : Int)), (8, AV.ptr 0 0)] [AObj.siter s 0] (q154_2 0 Post) →
    ASpec Try.prog 154 [AV.str s] [] Post := fun s Post h => Go.Ab.ASpec.of_vc g154 Go.Proofs.Try.func154 (by kernel_rfl) (by kernel_rfl) (by kernel_rfl) (Go.Ab.kc (by kernel_rfl) h)
theorem v154_3 : ∀ (s : ByteArray) (pos : Nat) (n : Int) (n_1 : Nat) (Post : AV → List AObj → Prop),
  condP (decide (pos < ByteArray.size s))
      (ASpec Try.prog 253 [AV.int IntKind.i32 (↑(Prod.fst (Utf8.decode s pos)) : Int)] [AObj.siter s (pos + Prod.snd (Utf8.decode s pos))] fun (r : AV) (H' : List AObj) =>
        ∃ (x : Int),
        r = AV.int IntKind.i64 x ∧
        H' = [AObj.siter s (pos + Prod.snd (Utf8.decode s pos))] ∧
        condP (decide (x > (3 : Int))) (Post (AV.bool false) [AObj.siter s (pos + Prod.snd (Utf8.decode s pos))])
        (condP (n == (0 : Int))
        (condP (decide (x > (1 : Int))) (Post (AV.bool false) [AObj.siter s (pos + Prod.snd (Utf8.decode s pos))])
        (condP (n == (12 : Int)) (Post (AV.bool false) [AObj.siter s (pos + Prod.snd (Utf8.decode s pos))])
        (AWP Try.prog 32 n_1 c154_3 [(3, AV.int IntKind.i64 (IntKind.wrap IntKind.i64 (n + (1 : Int)))), (8, AV.ptr 0 0)]
        [AObj.siter s (pos + Prod.snd (Utf8.decode s pos))] (q154_2 n_1 Post))))
        (condP (n == (12 : Int)) (Post (AV.bool false) [AObj.siter s (pos + Prod.snd (Utf8.decode s pos))])
        (AWP Try.prog 32 n_1 c154_3 [(3, AV.int IntKind.i64 (IntKind.wrap IntKind.i64 (n + (1 : Int)))), (8, AV.ptr 0 0)]
        [AObj.siter s (pos + Prod.snd (Utf8.decode s pos))] (q154_2 n_1 Post)))))
      (Post (AV.bool (decide (n > (0 : Int)))) [AObj.siter s pos]) →
    AWP Try.prog 32 n_1 c154_3 [(3, AV.int IntKind.i64 n), (8, AV.ptr 0 0)] [AObj.siter s pos] (q154_2 n_1 Post) := fun s pos n n Post h => Go.Ab.AWP.loop' g154 (Cfg.live g154) c154_3 (by kernel_rfl) (by kernel_rfl) (Go.Ab.kc (by kernel_rfl) h)

-- 322
noncomputable def l322 : Nat → List Nat
  | 5 => [0, 1, 5, 6]
  | 7 => [0, 1, 5, 6]
  | 9 => [0, 1, 5, 6]
  | 11 => [0, 1, 5, 6]
  | 12 => [0, 1, 5, 6, 7]
  | 16 => [0, 1, 5, 6]
  | _ => []
noncomputable def u322 : Nat → Bool
  | 5 => true
  | 7 => true
  | 9 => true
  | 11 => true
  | 16 => true
  | _ => false
noncomputable def m322 : Nat → Bool
  | _ => false
noncomputable def g322 : Cfg := { N := 96, live := l322, cut := u322, mu := m322, ret := rets }
noncomputable def c322 : Go.Code := Go.Ab.bodyOf Go.Proofs.Try.f322
noncomputable def q322_0 : Nat → (AV → List AObj → Prop) → AQ := fun (n : Nat) (Post : AV → List AObj → Prop) => endQ Try.prog (resultsOf Try.f322) Post
noncomputable def c322_5 : Go.Code := codeSnd (codeSnd (codeSnd (codeSnd c322)))
theorem s322 : ∀ (s : ByteArray) (p : Int) (Post : AV → List AObj → Prop),
  needP ((0 : Int) ≤ p ∧ p < (↑(ByteArray.size s) : Int))
      (condP (decide (IntKind.wrap IntKind.i64 (↑(UInt8.toNat (List.getD (Array.toList (ByteArray.data s)) (Int.toNat p) (0 : UInt8))) : Int) ≥ (194 : Int)))
        (condP (decide (IntKind.wrap IntKind.i64 (↑(UInt8.toNat (List.getD (Array.toList (ByteArray.data s)) (Int.toNat p) (0 : UInt8))) : Int) ≤ (223 : Int)))
        (AWP Try.prog 96 0 c322_5
        [(0, AV.str s), (1, AV.int IntKind.i64 p), (5, AV.int IntKind.i64 (2 : Int)),
        (6, AV.int IntKind.i64 (IntKind.wrap IntKind.i64 (↑(UInt8.toNat (List.getD (Array.toList (ByteArray.data s)) (Int.toNat p) (0 : UInt8))) : Int)))]
        [] (q322_0 0 Post))
        (AWP Try.prog 96 0 c322_5
        [(0, AV.str s), (1, AV.int IntKind.i64 p), (5, AV.int IntKind.i64 (0 : Int)),
        (6, AV.int IntKind.i64 (IntKind.wrap IntKind.i64 (↑(UInt8.toNat (List.getD (Array.toList (ByteArray.data s)) (Int.toNat p) (0 : UInt8))) : Int)))]
        [] (q322_0 0 Post)))
        (AWP Try.prog 96 0 c322_5
        [(0, AV.str s), (1, AV.int IntKind.i64 p), (5, AV.int IntKind.i64 (0 : Int)),
        (6, AV.int IntKind.i64 (IntKind.wrap IntKind.i64 (↑(UInt8.toNat (List.getD (Array.toList (ByteArray.data s)) (Int.toNat p) (0 : UInt8))) : Int)))]
        [] (q322_0 0 Post))) →
    ASpec Try.prog 322 [AV.str s, AV.int IntKind.i64 p] [] Post := fun s p Post h => Go.Ab.ASpec.of_vc g322 Go.Proofs.Try.func322 (by kernel_rfl) (by kernel_rfl) (by kernel_rfl) (Go.Ab.kc (by kernel_rfl) h)
noncomputable def c322_7 : Go.Code := codeSnd c322_5
theorem v322_5 : ∀ (s : ByteArray) (p n c : Int) (n_1 : Nat) (Post : AV → List AObj → Prop),
  condP (decide (c ≥ (224 : Int)))
      (condP (decide (c ≤ (239 : Int)))
        (AWP Try.prog 96 n_1 c322_7 [(0, AV.str s), (1, AV.int IntKind.i64 p), (5, AV.int IntKind.i64 (3 : Int)), (6, AV.int IntKind.i64 c)] []
        (q322_0 n_1 Post))
        (AWP Try.prog 96 n_1 c322_7 [(0, AV.str s), (1, AV.int IntKind.i64 p), (5, AV.int IntKind.i64 n), (6, AV.int IntKind.i64 c)] [] (q322_0 n_1 Post)))
      (AWP Try.prog 96 n_1 c322_7 [(0, AV.str s), (1, AV.int IntKind.i64 p), (5, AV.int IntKind.i64 n), (6, AV.int IntKind.i64 c)] [] (q322_0 n_1 Post)) →
    AWP Try.prog 96 n_1 c322_5 [(0, AV.str s), (1, AV.int IntKind.i64 p), (5, AV.int IntKind.i64 n), (6, AV.int IntKind.i64 c)] [] (q322_0 n_1 Post) := fun s p n c n Post h => Go.Ab.awp_sound g322 n _ _ _ _ (Go.Ab.kc (by kernel_rfl) h)
noncomputable def c322_9 : Go.Code := codeSnd c322_7
theorem v322_7 : ∀ (s : ByteArray) (p n c : Int) (n_1 : Nat) (Post : AV → List AObj → Prop),
  condP (decide (c ≥ (240 : Int)))
      (condP (decide (c ≤ (244 : Int)))
        (AWP Try.prog 96 n_1 c322_9 [(0, AV.str s), (1, AV.int IntKind.i64 p), (5, AV.int IntKind.i64 (4 : Int)), (6, AV.int IntKind.i64 c)] []
        (q322_0 n_1 Post))
        (AWP Try.prog 96 n_1 c322_9 [(0, AV.str s), (1, AV.int IntKind.i64 p), (5, AV.int IntKind.i64 n), (6, AV.int IntKind.i64 c)] [] (q322_0 n_1 Post)))
      (AWP Try.prog 96 n_1 c322_9 [(0, AV.str s), (1, AV.int IntKind.i64 p), (5, AV.int IntKind.i64 n), (6, AV.int IntKind.i64 c)] [] (q322_0 n_1 Post)) →
    AWP Try.prog 96 n_1 c322_7 [(0, AV.str s), (1, AV.int IntKind.i64 p), (5, AV.int IntKind.i64 n), (6, AV.int IntKind.i64 c)] [] (q322_0 n_1 Post) := fun s p n c n Post h => Go.Ab.awp_sound g322 n _ _ _ _ (Go.Ab.kc (by kernel_rfl) h)
noncomputable def c322_11 : Go.Code := codeSnd c322_9
theorem v322_9 : ∀ (s : ByteArray) (p n c : Int) (n_1 : Nat) (Post : AV → List AObj → Prop),
  condP (n == (0 : Int)) (Post (AV.int IntKind.i64 (0 : Int)) [])
      (condP (decide (IntKind.wrap IntKind.i64 ((↑(ByteArray.size s) : Int) - p) < n)) (Post (AV.int IntKind.i64 (0 : Int)) [])
        (AWP Try.prog 96 n_1 c322_11 [(0, AV.str s), (1, AV.int IntKind.i64 p), (5, AV.int IntKind.i64 n), (6, AV.int IntKind.i64 c)] [] (q322_0 n_1 Post))) →
    AWP Try.prog 96 n_1 c322_9 [(0, AV.str s), (1, AV.int IntKind.i64 p), (5, AV.int IntKind.i64 n), (6, AV.int IntKind.i64 c)] [] (q322_0 n_1 Post) := fun s p n c n Post h => Go.Ab.awp_sound g322 n _ _ _ _ (Go.Ab.kc (by kernel_rfl) h)
noncomputable def c322_16 : Go.Code := codeSnd c322_11
noncomputable def q322_1 : Nat → (AV → List AObj → Prop) → AQ := fun (n : Nat) (Post : AV → List AObj → Prop) => seqQ (fun (s' : Slots) (H' : List AObj) => AWP Try.prog (Cfg.N g322) n c322_16 (restrict s' (Cfg.live g322 16)) H' (q322_0 n Post)) (q322_0 n Post)
noncomputable def q322_2 : Nat → (AV → List AObj → Prop) → AQ := fun (n : Nat) (Post : AV → List AObj → Prop) => blockQ 0 (q322_1 n Post)
noncomputable def c322_12 : Go.Code := codeFst (codeSnd (codeFst c322_11))
theorem v322_11 : ∀ (s : ByteArray) (p n c : Int) (n_1 : Nat) (Post : AV → List AObj → Prop),
  AWP Try.prog 96 n_1 c322_12
      [(0, AV.str s), (1, AV.int IntKind.i64 p), (5, AV.int IntKind.i64 n), (6, AV.int IntKind.i64 c), (7, AV.int IntKind.i64 (1 : Int))] [] (q322_2 n_1 Post) →
    AWP Try.prog 96 n_1 c322_11 [(0, AV.str s), (1, AV.int IntKind.i64 p), (5, AV.int IntKind.i64 n), (6, AV.int IntKind.i64 c)] [] (q322_0 n_1 Post) := fun s p n c n Post h => Go.Ab.awp_sound g322 n _ _ _ _ (Go.Ab.kc (by kernel_rfl) h)
theorem v322_16 : ∀ (s : ByteArray) (p n c : Int) (n_1 : Nat) (Post : AV → List AObj → Prop),
  needP ((0 : Int) ≤ IntKind.wrap IntKind.i64 (p + (1 : Int)) ∧ IntKind.wrap IntKind.i64 (p + (1 : Int)) < (↑(ByteArray.size s) : Int))
      (condP (c == (224 : Int))
        (condP (decide (IntKind.wrap IntKind.i64 (↑(UInt8.toNat (List.getD (Array.toList (ByteArray.data s)) (Int.toNat (IntKind.wrap IntKind.i64 (p + (1 : Int)))) (0 : UInt8))) : Int) < (160 : Int)))
        (Post (AV.int IntKind.i64 (0 : Int)) [])
        (condP (c == (237 : Int))
        (condP
        (decide (IntKind.wrap IntKind.i64 (↑(UInt8.toNat (List.getD (Array.toList (ByteArray.data s)) (Int.toNat (IntKind.wrap IntKind.i64 (p + (1 : Int)))) (0 : UInt8))) : Int) > (159 : Int)))
        (Post (AV.int IntKind.i64 (0 : Int)) [])
        (condP (c == (240 : Int))
        (condP
        (decide
        (IntKind.wrap IntKind.i64 (↑(UInt8.toNat (List.getD (Array.toList (ByteArray.data s)) (Int.toNat (IntKind.wrap IntKind.i64 (p + (1 : Int)))) (0 : UInt8))) : Int) < (144 : Int)))
        (Post (AV.int IntKind.i64 (0 : Int)) [])
        (condP (c == (244 : Int))
        (condP
        (decide
        (IntKind.wrap IntKind.i64 (↑(UInt8.toNat (List.getD (Array.toList (ByteArray.data s)) (Int.toNat (IntKind.wrap IntKind.i64 (p + (1 : Int)))) (0 : UInt8))) : Int) >
        (143 : Int)))
        (Post (AV.int IntKind.i64 (0 : Int)) []) (Post (AV.int IntKind.i64 n) []))
        (Post (AV.int IntKind.i64 n) [])))
        (condP (c == (244 : Int))
        (condP
        (decide
        (IntKind.wrap IntKind.i64 (↑(UInt8.toNat (List.getD (Array.toList (ByteArray.data s)) (Int.toNat (IntKind.wrap IntKind.i64 (p + (1 : Int)))) (0 : UInt8))) : Int) > (143 : Int)))
        (Post (AV.int IntKind.i64 (0 : Int)) []) (Post (AV.int IntKind.i64 n) []))
        (Post (AV.int IntKind.i64 n) []))))
        (condP (c == (240 : Int))
        (condP
        (decide
        (IntKind.wrap IntKind.i64 (↑(UInt8.toNat (List.getD (Array.toList (ByteArray.data s)) (Int.toNat (IntKind.wrap IntKind.i64 (p + (1 : Int)))) (0 : UInt8))) : Int) < (144 : Int)))
        (Post (AV.int IntKind.i64 (0 : Int)) [])
        (condP (c == (244 : Int))
        (condP
        (decide
        (IntKind.wrap IntKind.i64 (↑(UInt8.toNat (List.getD (Array.toList (ByteArray.data s)) (Int.toNat (IntKind.wrap IntKind.i64 (p + (1 : Int)))) (0 : UInt8))) : Int) > (143 : Int)))
        (Post (AV.int IntKind.i64 (0 : Int)) []) (Post (AV.int IntKind.i64 n) []))
        (Post (AV.int IntKind.i64 n) [])))
        (condP (c == (244 : Int))
        (condP
        (decide
        (IntKind.wrap IntKind.i64 (↑(UInt8.toNat (List.getD (Array.toList (ByteArray.data s)) (Int.toNat (IntKind.wrap IntKind.i64 (p + (1 : Int)))) (0 : UInt8))) : Int) > (143 : Int)))
        (Post (AV.int IntKind.i64 (0 : Int)) []) (Post (AV.int IntKind.i64 n) []))
        (Post (AV.int IntKind.i64 n) [])))))
        (condP (c == (237 : Int))
        (condP
        (decide (IntKind.wrap IntKind.i64 (↑(UInt8.toNat (List.getD (Array.toList (ByteArray.data s)) (Int.toNat (IntKind.wrap IntKind.i64 (p + (1 : Int)))) (0 : UInt8))) : Int) > (159 : Int)))
        (Post (AV.int IntKind.i64 (0 : Int)) [])
        (condP (c == (240 : Int))
        (condP
        (decide
        (IntKind.wrap IntKind.i64 (↑(UInt8.toNat (List.getD (Array.toList (ByteArray.data s)) (Int.toNat (IntKind.wrap IntKind.i64 (p + (1 : Int)))) (0 : UInt8))) : Int) < (144 : Int)))
        (Post (AV.int IntKind.i64 (0 : Int)) [])
        (condP (c == (244 : Int))
        (condP
        (decide
        (IntKind.wrap IntKind.i64 (↑(UInt8.toNat (List.getD (Array.toList (ByteArray.data s)) (Int.toNat (IntKind.wrap IntKind.i64 (p + (1 : Int)))) (0 : UInt8))) : Int) > (143 : Int)))
        (Post (AV.int IntKind.i64 (0 : Int)) []) (Post (AV.int IntKind.i64 n) []))
        (Post (AV.int IntKind.i64 n) [])))
        (condP (c == (244 : Int))
        (condP
        (decide
        (IntKind.wrap IntKind.i64 (↑(UInt8.toNat (List.getD (Array.toList (ByteArray.data s)) (Int.toNat (IntKind.wrap IntKind.i64 (p + (1 : Int)))) (0 : UInt8))) : Int) > (143 : Int)))
        (Post (AV.int IntKind.i64 (0 : Int)) []) (Post (AV.int IntKind.i64 n) []))
        (Post (AV.int IntKind.i64 n) []))))
        (condP (c == (240 : Int))
        (condP
        (decide (IntKind.wrap IntKind.i64 (↑(UInt8.toNat (List.getD (Array.toList (ByteArray.data s)) (Int.toNat (IntKind.wrap IntKind.i64 (p + (1 : Int)))) (0 : UInt8))) : Int) < (144 : Int)))
        (Post (AV.int IntKind.i64 (0 : Int)) [])
        (condP (c == (244 : Int))
        (condP
        (decide
        (IntKind.wrap IntKind.i64 (↑(UInt8.toNat (List.getD (Array.toList (ByteArray.data s)) (Int.toNat (IntKind.wrap IntKind.i64 (p + (1 : Int)))) (0 : UInt8))) : Int) > (143 : Int)))
        (Post (AV.int IntKind.i64 (0 : Int)) []) (Post (AV.int IntKind.i64 n) []))
        (Post (AV.int IntKind.i64 n) [])))
        (condP (c == (244 : Int))
        (condP
        (decide
        (IntKind.wrap IntKind.i64 (↑(UInt8.toNat (List.getD (Array.toList (ByteArray.data s)) (Int.toNat (IntKind.wrap IntKind.i64 (p + (1 : Int)))) (0 : UInt8))) : Int) > (143 : Int)))
        (Post (AV.int IntKind.i64 (0 : Int)) []) (Post (AV.int IntKind.i64 n) []))
        (Post (AV.int IntKind.i64 n) []))))) →
    AWP Try.prog 96 n_1 c322_16 [(0, AV.str s), (1, AV.int IntKind.i64 p), (5, AV.int IntKind.i64 n), (6, AV.int IntKind.i64 c)] [] (q322_0 n_1 Post) := fun s p n c n Post h => Go.Ab.awp_sound g322 n _ _ _ _ (Go.Ab.kc (by kernel_rfl) h)
theorem v322_12 : ∀ (s : ByteArray) (p n c i : Int) (n_1 : Nat) (Post : AV → List AObj → Prop),
  condP (decide (i < n))
      (needP ((0 : Int) ≤ IntKind.wrap IntKind.i64 (p + i) ∧ IntKind.wrap IntKind.i64 (p + i) < (↑(ByteArray.size s) : Int))
        (condP (decide ((↑(UInt8.toNat (List.getD (Array.toList (ByteArray.data s)) (Int.toNat (IntKind.wrap IntKind.i64 (p + i))) (0 : UInt8))) : Int) < (128 : Int)))
        (Post (AV.int IntKind.i64 (0 : Int)) [])
        (needP ((0 : Int) ≤ IntKind.wrap IntKind.i64 (p + i) ∧ IntKind.wrap IntKind.i64 (p + i) < (↑(ByteArray.size s) : Int))
        (condP (decide ((↑(UInt8.toNat (List.getD (Array.toList (ByteArray.data s)) (Int.toNat (IntKind.wrap IntKind.i64 (p + i))) (0 : UInt8))) : Int) > (191 : Int)))
        (Post (AV.int IntKind.i64 (0 : Int)) [])
        (AWP Try.prog 96 n_1 c322_12
        [(0, AV.str s), (1, AV.int IntKind.i64 p), (5, AV.int IntKind.i64 n), (6, AV.int IntKind.i64 c),
        (7, AV.int IntKind.i64 (IntKind.wrap IntKind.i64 (i + (1 : Int))))]
        [] (q322_2 n_1 Post))))))
      (AWP Try.prog 96 n_1 c322_16 [(0, AV.str s), (1, AV.int IntKind.i64 p), (5, AV.int IntKind.i64 n), (6, AV.int IntKind.i64 c)] [] (q322_0 n_1 Post)) →
    AWP Try.prog 96 n_1 c322_12
      [(0, AV.str s), (1, AV.int IntKind.i64 p), (5, AV.int IntKind.i64 n), (6, AV.int IntKind.i64 c), (7, AV.int IntKind.i64 i)] [] (q322_2 n_1 Post) := fun s p n c i n Post h => Go.Ab.AWP.loop' g322 (Cfg.live g322) c322_12 (by kernel_rfl) (by kernel_rfl) (Go.Ab.kc (by kernel_rfl) h)

-- 261
noncomputable def l261 : Nat → List Nat
  | 9 => [0, 1, 6, 7]
  | 11 => [0, 1, 6, 7]
  | 12 => [0, 1, 6, 7, 8]
  | _ => []
noncomputable def u261 : Nat → Bool
  | 9 => true
  | 11 => true
  | _ => false
noncomputable def m261 : Nat → Bool
  | _ => false
noncomputable def g261 : Cfg := { N := 58, live := l261, cut := u261, mu := m261, ret := rets }
noncomputable def c261 : Go.Code := Go.Ab.bodyOf Go.Proofs.Try.f261
noncomputable def q261_0 : Nat → (AV → List AObj → Prop) → AQ := fun (n : Nat) (Post : AV → List AObj → Prop) => endQ Try.prog (resultsOf Try.f261) Post
noncomputable def c261_9 : Go.Code := codeSnd (codeSnd (codeSnd (codeSnd (codeSnd (codeSnd c261)))))
theorem s261 : ∀ (s : ByteArray) (p : Int) (Post : AV → List AObj → Prop),
  needP ((0 : Int) ≤ p ∧ p < (↑(ByteArray.size s) : Int))
      (condP (decide ((↑(UInt8.toNat (List.getD (Array.toList (ByteArray.data s)) (Int.toNat p) (0 : UInt8))) : Int) < (128 : Int)))
        (needP ((0 : Int) ≤ p ∧ p < (↑(ByteArray.size s) : Int))
        (Post (AV.tup [AV.int IntKind.i64 (IntKind.wrap IntKind.i64 (↑(UInt8.toNat (List.getD (Array.toList (ByteArray.data s)) (Int.toNat p) (0 : UInt8))) : Int)), AV.int IntKind.i64 (1 : Int)])
        []))
        (ASpec Try.prog 322 [AV.str s, AV.int IntKind.i64 p] [] fun (r : AV) (H' : List AObj) =>
        ∃ (x : Int),
        r = AV.int IntKind.i64 x ∧
        H' = [] ∧
        condP (x == (0 : Int)) (Post (AV.tup [AV.int IntKind.i64 (65533 : Int), AV.int IntKind.i64 (1 : Int)]) [])
        (needP ((0 : Int) ≤ p ∧ p < (↑(ByteArray.size s) : Int))
        (needP ((32 : Int) ≠ (0 : Int))
        (condP (x == (3 : Int))
        (needP ((0 : Int) ≤ p ∧ p < (↑(ByteArray.size s) : Int))
        (needP ((16 : Int) ≠ (0 : Int))
        (AWP Try.prog 58 0 c261_9
        [(0, AV.str s), (1, AV.int IntKind.i64 p), (6, AV.int IntKind.i64 x),
        (7,
        AV.int IntKind.i64 (Int.tmod (IntKind.wrap IntKind.i64 (↑(UInt8.toNat (List.getD (Array.toList (ByteArray.data s)) (Int.toNat p) (0 : UInt8))) : Int)) (16 : Int)))]
        [] (q261_0 0 Post))))
        (AWP Try.prog 58 0 c261_9
        [(0, AV.str s), (1, AV.int IntKind.i64 p), (6, AV.int IntKind.i64 x),
        (7,
        AV.int IntKind.i64 (Int.tmod (IntKind.wrap IntKind.i64 (↑(UInt8.toNat (List.getD (Array.toList (ByteArray.data s)) (Int.toNat p) (0 : UInt8))) : Int)) (32 : Int)))]
        [] (q261_0 0 Post))))))) →
    ASpec Try.prog 261 [AV.str s, AV.int IntKind.i64 p] [] Post := fun s p Post h => Go.Ab.ASpec.of_vc g261 Go.Proofs.Try.func261 (by kernel_rfl) (by kernel_rfl) (by kernel_rfl) (Go.Ab.kc (by kernel_rfl) h)
noncomputable def c261_11 : Go.Code := codeSnd c261_9
theorem v261_9 : ∀ (s : ByteArray) (p n x : Int) (n_1 : Nat) (Post : AV → List AObj → Prop),
  condP (n == (4 : Int))
      (needP ((0 : Int) ≤ p ∧ p < (↑(ByteArray.size s) : Int))
        (needP ((8 : Int) ≠ (0 : Int))
        (AWP Try.prog 58 n_1 c261_11
        [(0, AV.str s), (1, AV.int IntKind.i64 p), (6, AV.int IntKind.i64 n),
        (7, AV.int IntKind.i64 (Int.tmod (IntKind.wrap IntKind.i64 (↑(UInt8.toNat (List.getD (Array.toList (ByteArray.data s)) (Int.toNat p) (0 : UInt8))) : Int)) (8 : Int)))]
        [] (q261_0 n_1 Post))))
      (AWP Try.prog 58 n_1 c261_11 [(0, AV.str s), (1, AV.int IntKind.i64 p), (6, AV.int IntKind.i64 n), (7, AV.int IntKind.i64 x)] [] (q261_0 n_1 Post)) →
    AWP Try.prog 58 n_1 c261_9 [(0, AV.str s), (1, AV.int IntKind.i64 p), (6, AV.int IntKind.i64 n), (7, AV.int IntKind.i64 x)] [] (q261_0 n_1 Post) := fun s p n x n Post h => Go.Ab.awp_sound g261 n _ _ _ _ (Go.Ab.kc (by kernel_rfl) h)
noncomputable def q261_1 : Nat → (AV → List AObj → Prop) → AQ := fun (n : Nat) (Post : AV → List AObj → Prop) => seqQ (fun (s' : Slots) (H' : List AObj) => awp Try.prog g261 n (codeSnd c261_11) s' H' (q261_0 n Post)) (q261_0 n Post)
noncomputable def q261_2 : Nat → (AV → List AObj → Prop) → AQ := fun (n : Nat) (Post : AV → List AObj → Prop) => blockQ 0 (q261_1 n Post)
noncomputable def c261_12 : Go.Code := codeFst (codeSnd (codeFst c261_11))
theorem v261_11 : ∀ (s : ByteArray) (p n x : Int) (n_1 : Nat) (Post : AV → List AObj → Prop),
  AWP Try.prog 58 n_1 c261_12
      [(0, AV.str s), (1, AV.int IntKind.i64 p), (6, AV.int IntKind.i64 n), (7, AV.int IntKind.i64 x), (8, AV.int IntKind.i64 (1 : Int))] [] (q261_2 n_1 Post) →
    AWP Try.prog 58 n_1 c261_11 [(0, AV.str s), (1, AV.int IntKind.i64 p), (6, AV.int IntKind.i64 n), (7, AV.int IntKind.i64 x)] [] (q261_0 n_1 Post) := fun s p n x n Post h => Go.Ab.awp_sound g261 n _ _ _ _ (Go.Ab.kc (by kernel_rfl) h)
theorem v261_12 : ∀ (s : ByteArray) (p n x i : Int) (n_1 : Nat) (Post : AV → List AObj → Prop),
  condP (decide (i < n))
      (needP ((0 : Int) ≤ IntKind.wrap IntKind.i64 (p + i) ∧ IntKind.wrap IntKind.i64 (p + i) < (↑(ByteArray.size s) : Int))
        (needP ((64 : Int) ≠ (0 : Int))
        (AWP Try.prog 58 n_1 c261_12
        [(0, AV.str s), (1, AV.int IntKind.i64 p), (6, AV.int IntKind.i64 n),
        (7,
        AV.int IntKind.i64
        (IntKind.wrap IntKind.i64
        (IntKind.wrap IntKind.i64 (x * (64 : Int)) +
        Int.tmod (IntKind.wrap IntKind.i64 (↑(UInt8.toNat (List.getD (Array.toList (ByteArray.data s)) (Int.toNat (IntKind.wrap IntKind.i64 (p + i))) (0 : UInt8))) : Int)) (64 : Int)))),
        (8, AV.int IntKind.i64 (IntKind.wrap IntKind.i64 (i + (1 : Int))))]
        [] (q261_2 n_1 Post))))
      (Post (AV.tup [AV.int IntKind.i64 x, AV.int IntKind.i64 n]) []) →
    AWP Try.prog 58 n_1 c261_12
      [(0, AV.str s), (1, AV.int IntKind.i64 p), (6, AV.int IntKind.i64 n), (7, AV.int IntKind.i64 x), (8, AV.int IntKind.i64 i)] [] (q261_2 n_1 Post) := fun s p n x i n Post h => Go.Ab.AWP.loop' g261 (Cfg.live g261) c261_12 (by kernel_rfl) (by kernel_rfl) (Go.Ab.kc (by kernel_rfl) h)

-- 164
noncomputable def l164 : Nat → List Nat
  | 3 => [0, 3, 4]
  | _ => []
noncomputable def u164 : Nat → Bool
  | _ => false
noncomputable def m164 : Nat → Bool
  | _ => false
noncomputable def g164 : Cfg := { N := 25, live := l164, cut := u164, mu := m164, ret := rets }
noncomputable def c164 : Go.Code := Go.Ab.bodyOf Go.Proofs.Try.f164
noncomputable def q164_0 : Nat → (AV → List AObj → Prop) → AQ := fun (n : Nat) (Post : AV → List AObj → Prop) => endQ Try.prog (resultsOf Try.f164) Post
noncomputable def q164_1 : Nat → (AV → List AObj → Prop) → AQ := fun (n : Nat) (Post : AV → List AObj → Prop) => seqQ (fun (s' : Slots) (H' : List AObj) => awp Try.prog g164 n (codeSnd (codeSnd (codeSnd (codeSnd c164)))) s' H' (q164_0 n Post)) (q164_0 n Post)
noncomputable def q164_2 : Nat → (AV → List AObj → Prop) → AQ := fun (n : Nat) (Post : AV → List AObj → Prop) => blockQ 0 (q164_1 n Post)
noncomputable def c164_3 : Go.Code := codeFst (codeFst (codeSnd (codeSnd (codeSnd c164))))
theorem s164 : ∀ (s : ByteArray) (Post : AV → List AObj → Prop),
  AWP Try.prog 25 0 c164_3 [(0, AV.str s), (3, AV.sl 0 (Seq.raw []) Tip.nil), (4, AV.int IntKind.i64 (0 : Int))] [] (q164_2 0 Post) →
    ASpec Try.prog 164 [AV.str s] [] Post := fun s Post h => Go.Ab.ASpec.of_vc g164 Go.Proofs.Try.func164 (by kernel_rfl) (by kernel_rfl) (by kernel_rfl) (Go.Ab.kc (by kernel_rfl) h)
theorem v164_3 : ∀ (s : ByteArray) (l : List Int) (p : Int) (n : Nat) (Post : AV → List AObj → Prop),
  condP (decide (p < (↑(ByteArray.size s) : Int)))
      (ASpec Try.prog 261 [AV.str s, AV.int IntKind.i64 p] [AObj.tok] fun (r : AV) (H' : List AObj) =>
        ∃ (x : Int × Int),
        r = AV.tup [AV.int IntKind.i64 (Prod.fst x), AV.int IntKind.i64 (Prod.snd x)] ∧
        H' = [AObj.tok] ∧
        needP ((List.length l + 1) * 8 ≤ 140737488351232)
        (AWP Try.prog 25 n c164_3
        [(0, AV.str s), (3, AV.sl 1 (Seq.app (Seq.map encI (0 : Int) l) (Seq.raw [[AV.int IntKind.i64 (Prod.fst x)]])) (Tip.tok 1)),
        (4, AV.int IntKind.i64 (IntKind.wrap IntKind.i64 (p + Prod.snd x)))]
        [AObj.gone, AObj.tok] (q164_2 n Post)))
      (Post (AV.sl 1 (Seq.map encI (0 : Int) l) (Tip.tok 0)) [AObj.tok]) →
    AWP Try.prog 25 n c164_3 [(0, AV.str s), (3, AV.sl 1 (Seq.map encI (0 : Int) l) (Tip.tok 0)), (4, AV.int IntKind.i64 p)] [AObj.tok] (q164_2 n Post) := fun s l p n Post h => Go.Ab.AWP.loop' g164 (Cfg.live g164) c164_3 (by kernel_rfl) (by kernel_rfl) (Go.Ab.kc (by kernel_rfl) h)

-- 39
noncomputable def l39 : Nat → List Nat
  | 5 => [3, 4]
  | _ => []
noncomputable def u39 : Nat → Bool
  | _ => false
noncomputable def m39 : Nat → Bool
  | _ => false
noncomputable def g39 : Cfg := { N := 42, live := l39, cut := u39, mu := m39, ret := rets }
noncomputable def c39 : Go.Code := Go.Ab.bodyOf Go.Proofs.Try.f39
noncomputable def q39_0 : Nat → (AV → List AObj → Prop) → AQ := fun (n : Nat) (Post : AV → List AObj → Prop) => endQ Try.prog (resultsOf Try.f39) Post
noncomputable def q39_1 : Nat → (AV → List AObj → Prop) → AQ := fun (n : Nat) (Post : AV → List AObj → Prop) => seqQ (fun (s' : Slots) (H' : List AObj) => awp Try.prog g39 n (codeSnd (codeSnd (codeSnd (codeSnd c39)))) s' H' (q39_0 n Post)) (q39_0 n Post)
noncomputable def q39_2 : Nat → (AV → List AObj → Prop) → AQ := fun (n : Nat) (Post : AV → List AObj → Prop) => blockQ 0 (q39_1 n Post)
noncomputable def c39_5 : Go.Code := codeFst (codeSnd (codeFst (codeSnd (codeSnd (codeSnd c39)))))
theorem s39 : ∀ (s : ByteArray) (Post : AV → List AObj → Prop),
  condP (decide ((↑(ByteArray.size s) : Int) > (100 : Int))) (Post (AV.bool false) [])
      (ASpec Try.prog 164 [AV.str s] [] fun (r : AV) (H' : List AObj) =>
        ∃ (x : List Int),
        r = AV.sl 1 (Seq.map encI (0 : Int) x) Tip.none ∧
        H' = [] ∧ AWP Try.prog 42 0 c39_5 [(3, AV.sl 1 (Seq.map encI (0 : Int) x) Tip.none), (4, AV.int IntKind.i64 (0 : Int))] [] (q39_2 0 Post)) →
    ASpec Try.prog 39 [AV.str s] [] Post := fun s Post h => Go.Ab.ASpec.of_vc g39 Go.Proofs.Try.func39 (by kernel_rfl) (by kernel_rfl) (by kernel_rfl) (Go.Ab.kc (by kernel_rfl) h)
theorem v39_5 : ∀ (l : List Int) (i : Int) (n : Nat) (Post : AV → List AObj → Prop),
  condP (decide (i < (↑(List.length l) : Int)))
      (needP ((0 : Int) ≤ i ∧ i < (↑(List.length l) : Int))
        (ASpec Try.prog 165 [AV.int IntKind.i64 (List.getD l (Int.toNat i) (0 : Int))] [] fun (r : AV) (H' : List AObj) =>
        ∃ (x : Int),
        r = AV.int IntKind.i64 x ∧
        H' = [] ∧
        condP (x == (4 : Int)) (Post (AV.bool false) [])
        (condP (i == (0 : Int))
        (needP ((0 : Int) ≤ i ∧ i < (↑(List.length l) : Int))
        (ASpec Try.prog 165 [AV.int IntKind.i64 (List.getD l (Int.toNat i) (0 : Int))] [] fun (r : AV) (H' : List AObj) =>
        ∃ (x : Int),
        r = AV.int IntKind.i64 x ∧
        H' = [] ∧
        condP (decide (x > (1 : Int))) (Post (AV.bool false) [])
        (AWP Try.prog 42 n c39_5
        [(3, AV.sl 1 (Seq.map encI (0 : Int) l) Tip.none), (4, AV.int IntKind.i64 (IntKind.wrap IntKind.i64 (i + (1 : Int))))] [] (q39_2 n Post))))
        (AWP Try.prog 42 n c39_5 [(3, AV.sl 1 (Seq.map encI (0 : Int) l) Tip.none), (4, AV.int IntKind.i64 (IntKind.wrap IntKind.i64 (i + (1 : Int))))] []
        (q39_2 n Post)))))
      (condP (decide ((↑(List.length l) : Int) ≥ (1 : Int))) (Post (AV.bool (decide ((↑(List.length l) : Int) ≤ (12 : Int)))) []) (Post (AV.bool false) [])) →
    AWP Try.prog 42 n c39_5 [(3, AV.sl 1 (Seq.map encI (0 : Int) l) Tip.none), (4, AV.int IntKind.i64 i)] [] (q39_2 n Post) := fun l i n Post h => Go.Ab.AWP.loop' g39 (Cfg.live g39) c39_5 (by kernel_rfl) (by kernel_rfl) (Go.Ab.kc (by kernel_rfl) h)

-- 262
noncomputable def l262 : Nat → List Nat
  | _ => []
noncomputable def u262 : Nat → Bool
  | _ => false
noncomputable def m262 : Nat → Bool
  | _ => false
noncomputable def g262 : Cfg := { N := 19, live := l262, cut := u262, mu := m262, ret := rets }
noncomputable def c262 : Go.Code := Go.Ab.bodyOf Go.Proofs.Try.f262
theorem s262 : ∀ (s : ByteArray) (bs : List UInt8) (Post : AV → List AObj → Prop),
  (ASpec Try.prog 154 [AV.str s] [] fun (r : AV) (H' : List AObj) =>
      ∃ (x : Bool),
        r = AV.bool x ∧
        H' = [] ∧
        condP (!x) (Post (AV.sl 0 (Seq.raw []) Tip.nil) [])
        (condP (decide ((↑(List.length bs) : Int) > (8192 : Int))) (Post (AV.sl 0 (Seq.raw []) Tip.nil) [])
        (needP (allBytes (Seq.map encB (0 : UInt8) bs))
        (ASpec Try.prog 141 [AV.sl 0 (Seq.raw []) Tip.nil, AV.str s] [] fun (r : AV) (H' : List AObj) =>
        ∃ (x : List UInt8),
        r = AV.sl 1 (Seq.map encB (0 : UInt8) x) (Tip.tok 0) ∧
        H' = [AObj.tok] ∧
        ASpec Try.prog 141 [AV.sl 1 (Seq.map encB (0 : UInt8) x) (Tip.tok 0), AV.str (bytesOf (Seq.map encB (0 : UInt8) bs))] [AObj.tok]
        fun (r : AV) (H' : List AObj) =>
        ∃ (x : List UInt8),
        r = AV.sl 1 (Seq.map encB (0 : UInt8) x) (Tip.tok 1) ∧
        H' = [AObj.tok, AObj.tok] ∧
        ASpec Try.prog 323 [AV.sl 1 (Seq.map encB (0 : UInt8) x) (Tip.tok 1)] [AObj.tok, AObj.tok] fun (r : AV) (H' : List AObj) =>
        ∃ (x : List UInt8),
        r = AV.sl 1 (Seq.map encB (0 : UInt8) x) Tip.none ∧
        H' = [AObj.tok, AObj.tok] ∧ Post (AV.sl 1 (Seq.map encB (0 : UInt8) x) Tip.none) [AObj.tok, AObj.tok])))) →
    ASpec Try.prog 262 [AV.str s, AV.sl 1 (Seq.map encB (0 : UInt8) bs) Tip.none] [] Post := fun s bs Post h => Go.Ab.ASpec.of_vc g262 Go.Proofs.Try.func262 (by kernel_rfl) (by kernel_rfl) (by kernel_rfl) (Go.Ab.kc (by kernel_rfl) h)

-- 325
noncomputable def l325 : Nat → List Nat
  | _ => []
noncomputable def u325 : Nat → Bool
  | _ => false
noncomputable def m325 : Nat → Bool
  | _ => false
noncomputable def g325 : Cfg := { N := 19, live := l325, cut := u325, mu := m325, ret := rets }
noncomputable def c325 : Go.Code := Go.Ab.bodyOf Go.Proofs.Try.f325
theorem s325 : ∀ (s t : ByteArray) (Post : AV → List AObj → Prop),
  (ASpec Try.prog 39 [AV.str s] [] fun (r : AV) (H' : List AObj) =>
      ∃ (x : Bool),
        r = AV.bool x ∧
        H' = [] ∧
        condP (!x) (Post (AV.str { data := #[] }) [])
        (condP (decide ((↑(ByteArray.size t) : Int) > (8192 : Int))) (Post (AV.str { data := #[] }) [])
        (ASpec Try.prog 151 [AV.str s] [] fun (r : AV) (H' : List AObj) =>
        ∃ (x : ByteArray),
        r = AV.str x ∧
        H' = [] ∧
        ASpec Try.prog 151 [AV.str t] [] fun (r : AV) (H' : List AObj) =>
        ∃ (x_1 : ByteArray),
        r = AV.str x_1 ∧
        H' = [] ∧
        needP ((↑(ByteArray.size x + ByteArray.size x_1) : Int) ≤ (9223372036854775807 : Int))
        (ASpec Try.prog 263 [AV.str (x ++ x_1)] [] fun (r : AV) (H' : List AObj) => ∃ (x : ByteArray), r = AV.str x ∧ H' = [] ∧ Post (AV.str x) [])))) →
    ASpec Try.prog 325 [AV.str s, AV.str t] [] Post := fun s t Post h => Go.Ab.ASpec.of_vc g325 Go.Proofs.Try.func325 (by kernel_rfl) (by kernel_rfl) (by kernel_rfl) (Go.Ab.kc (by kernel_rfl) h)

-- 45
noncomputable def l45 : Nat → List Nat
  | 10 => [8, 9, 10]
  | _ => []
noncomputable def u45 : Nat → Bool
  | 10 => true
  | _ => false
noncomputable def m45 : Nat → Bool
  | _ => false
noncomputable def g45 : Cfg := { N := 39, live := l45, cut := u45, mu := m45, ret := rets }
noncomputable def c45 : Go.Code := Go.Ab.bodyOf Go.Proofs.Try.f45
noncomputable def q45_0 : Nat → (AV → List AObj → Prop) → AQ := fun (n : Nat) (Post : AV → List AObj → Prop) => endQ Try.prog (resultsOf Try.f45) Post
noncomputable def c45_10 : Go.Code := codeSnd (codeSnd (codeSnd (codeSnd (codeSnd (codeSnd (codeSnd (codeSnd c45)))))))
theorem s45 : ∀ (s : ByteArray) (Post : AV → List AObj → Prop),
  (ASpec Try.prog 170 [AV.str s] [] fun (r : AV) (H' : List AObj) =>
      ∃ (x : ByteArray × Bool),
        r = AV.tup [AV.str (Prod.fst x), AV.bool (Prod.snd x)] ∧
        H' = [] ∧
        condP (!Prod.snd x) (Post (AV.tup [AV.str { data := #[] }, AV.str { data := #[] }, AV.int IntKind.i64 (8 : Int)]) [])
        (ASpec Try.prog 148 [AV.ptr 0 0, AV.int IntKind.i64 (24 : Int)] [AObj.cells [AV.str (Prod.fst x), AV.int IntKind.i64 (0 : Int)]] fun (r : AV) (H' : List AObj) =>
        ∃ (x : ByteArray × ByteArray × Int),
        r = AV.str (Prod.fst x) ∧
        H' = [AObj.cells [AV.str (Prod.fst (Prod.snd x)), AV.int IntKind.i64 (Prod.snd (Prod.snd x))]] ∧
        ASpec Try.prog 148 [AV.ptr 0 0, AV.int IntKind.i64 (8192 : Int)] [AObj.cells [AV.str (Prod.fst (Prod.snd x)), AV.int IntKind.i64 (Prod.snd (Prod.snd x))]]
        fun (r : AV) (H' : List AObj) =>
        ∃ (x_1 : ByteArray × ByteArray × Int),
        r = AV.str (Prod.fst x_1) ∧
        H' = [AObj.cells [AV.str (Prod.fst (Prod.snd x_1)), AV.int IntKind.i64 (Prod.snd (Prod.snd x_1))]] ∧
        ASpec Try.prog 149 [AV.ptr 0 0] [AObj.cells [AV.str (Prod.fst (Prod.snd x_1)), AV.int IntKind.i64 (Prod.snd (Prod.snd x_1))]]
        fun (r : AV) (H' : List AObj) =>
        ∃ (x_2 : Int),
        r = AV.int IntKind.i64 x_2 ∧
        H' = [AObj.cells [AV.str (Prod.fst (Prod.snd x_1)), AV.int IntKind.i64 (Prod.snd (Prod.snd x_1))]] ∧
        condP (x_2 == (0 : Int))
        (ASpec Try.prog 39 [AV.str (Prod.fst x)] [AObj.cells [AV.str (Prod.fst (Prod.snd x_1)), AV.int IntKind.i64 (Prod.snd (Prod.snd x_1))]]
        fun (r : AV) (H' : List AObj) =>
        ∃ (x_3 : Bool),
        r = AV.bool x_3 ∧
        H' = [AObj.cells [AV.str (Prod.fst (Prod.snd x_1)), AV.int IntKind.i64 (Prod.snd (Prod.snd x_1))]] ∧
        condP (!x_3)
        (AWP Try.prog 39 0 c45_10
        [(8, AV.str (Prod.fst x)), (9, AV.str (Prod.fst x_1)), (10, AV.int IntKind.i64 (3 : Int))]
        [AObj.cells [AV.str (Prod.fst (Prod.snd x_1)), AV.int IntKind.i64 (Prod.snd (Prod.snd x_1))]] (q45_0 0 Post))
        (AWP Try.prog 39 0 c45_10 [(8, AV.str (Prod.fst x)), (9, AV.str (Prod.fst x_1)), (10, AV.int IntKind.i64 x_2)]
        [AObj.cells [AV.str (Prod.fst (Prod.snd x_1)), AV.int IntKind.i64 (Prod.snd (Prod.snd x_1))]] (q45_0 0 Post)))
        (AWP Try.prog 39 0 c45_10 [(8, AV.str (Prod.fst x)), (9, AV.str (Prod.fst x_1)), (10, AV.int IntKind.i64 x_2)]
        [AObj.cells [AV.str (Prod.fst (Prod.snd x_1)), AV.int IntKind.i64 (Prod.snd (Prod.snd x_1))]] (q45_0 0 Post)))) →
    ASpec Try.prog 45 [AV.str s] [] Post := fun s Post h => Go.Ab.ASpec.of_vc g45 Go.Proofs.Try.func45 (by kernel_rfl) (by kernel_rfl) (by kernel_rfl) (Go.Ab.kc (by kernel_rfl) h)
theorem v45_10 : ∀ (x y : ByteArray) (e : Int) (n : Nat) (Post : AV → List AObj → Prop),
  condP (e != (0 : Int)) (Post (AV.tup [AV.str { data := #[] }, AV.str { data := #[] }, AV.int IntKind.i64 e]) []) (Post (AV.tup [AV.str x, AV.str y, AV.int IntKind.i64 (0 : Int)]) []) →
    AWP Try.prog 39 n c45_10 [(8, AV.str x), (9, AV.str y), (10, AV.int IntKind.i64 e)] [] (q45_0 n Post) := fun x y e n Post h => Go.Ab.awp_sound g45 n _ _ _ _ (Go.Ab.kc (by kernel_rfl) h)

end
end S
end
