/- Q6: several of this proof's own texts, one behind the other: what each proves stands at its head. -/
import Derived.Test.YtbjcdgepclmmjaaProg
import Derived.Test.YtbjcdgepclmmjaaQ5
import Derived.Test.YtbjcdgepclmmjaaA3
import Derived.Test.YtbjcdgepclmmjaaA4
import Derived.Test.YtbjcdgepclmmjaaChecked
import Derived.KernelRfl
import Derived.JoinedOf
section
/- Printed: what the code of functions 284, 191, 192, 187, 281, 73, 416, 417, 418, 193, 74, 195, 75, 76, 9 asks for, by the framework's own reading of it; each line is checked against the code. -/

set_option linter.unusedVariables false
set_option maxRecDepth 100000
set_option maxHeartbeats 4000000
open Go Go.Ab Go.Proofs
namespace EB
noncomputable section

noncomputable def retEB : List (Nat × Ret) := [
  (9, ⟨Unit, fun _ _ _ => .bool true, fun _ H _ => H⟩),
  (284, ⟨List T.Need × Int × Int, fun _ _ x => .sl 2 (.map T.encN ([], []) x.1) .none, fun a H x => V.upd3 a H x.2.1 x.2.2⟩),
  (191, ⟨T.Ev × Int × Int, fun _ _ x => .agg (T.encE x.1), fun a H x => V.upd3 a H x.2.1 x.2.2⟩),
  (193, ⟨List T.Need × ByteArray × Int, fun _ _ x => .sl 2 (.map T.encN ([], []) x.1) .none, fun a H x => V.upd2 a H x.2.1 x.2.2⟩),
  (73, ⟨List T.Ev × Int, fun _ _ x => .tup [.sl 5 (.map T.encE T.noEv x.1) .none, .int .i64 x.2], fun _ H _ => H⟩),
  (74, ⟨List T.Ev × Int, fun _ _ x => .tup [.sl 5 (.map T.encE T.noEv x.1) .none, .int .i64 x.2], fun _ H _ => H⟩),
  (75, ⟨ByteArray, fun _ _ x => .str x, fun _ H _ => H⟩),
  (195, ⟨ByteArray, fun _ _ x => .str x, fun _ H _ => H⟩),
  (192, ⟨Bool, fun _ _ x => .bool x, fun _ H _ => H⟩),
  (76, ⟨Bool, fun _ _ x => .bool x, fun _ H _ => H⟩)]
noncomputable def rets : FuncId → List Ret := lookupR (retEB ++ E.retE ++ C.retC ++ V.retL)

-- 284
noncomputable def l284 : Nat → List Nat
  | 3 => [0, 3, 4]
  | 7 => [0, 3, 4, 5, 6]
  | _ => []
noncomputable def u284 : Nat → Bool
  | _ => false
noncomputable def m284 : Nat → Bool
  | _ => false
noncomputable def g284 : Cfg := { N := 51, live := l284, cut := u284, mu := m284, ret := rets }
noncomputable def c284 : Go.Code := Go.Ab.bodyOf Go.Proofs.Try.f284
noncomputable def q284_0 : Nat → (AV → List AObj → Prop) → AQ := fun (n : Nat) (Post : AV → List AObj → Prop) => endQ Try.prog (resultsOf Try.f284) Post
noncomputable def q284_1 : Nat → (AV → List AObj → Prop) → AQ := fun (n : Nat) (Post : AV → List AObj → Prop) => seqQ (fun (s' : Slots) (H' : List AObj) => awp Try.prog g284 n (codeSnd (codeSnd (codeSnd c284))) s' H' (q284_0 n Post)) (q284_0 n Post)
noncomputable def q284_2 : Nat → (AV → List AObj → Prop) → AQ := fun (n : Nat) (Post : AV → List AObj → Prop) => blockQ 0 (q284_1 n Post)
noncomputable def c284_3 : Go.Code := codeFst (codeSnd (codeFst (codeSnd (codeSnd c284))))
noncomputable def q284_3 : Nat → (AV → List AObj → Prop) → AQ := fun (n : Nat) (Post : AV → List AObj → Prop) => loopQ Try.prog 51 n c284_3 (q284_2 n Post) (Cfg.live g284)
noncomputable def q284_4 : Nat → (AV → List AObj → Prop) → AQ := fun (n : Nat) (Post : AV → List AObj → Prop) => seqQ (fun (s' : Slots) (H' : List AObj) => awp Try.prog g284 n (codeSnd (codeSnd (codeFst c284_3))) s' H' (q284_3 n Post)) (q284_3 n Post)
noncomputable def q284_5 : Nat → (AV → List AObj → Prop) → AQ := fun (n : Nat) (Post : AV → List AObj → Prop) => blockQ 1 (q284_4 n Post)
noncomputable def q284_6 : Nat → (AV → List AObj → Prop) → AQ := fun (n : Nat) (Post : AV → List AObj → Prop) => seqQ (fun (s' : Slots) (H' : List AObj) => awp Try.prog g284 n (codeSnd (codeSnd (codeFst (codeFst (codeSnd (codeFst c284_3)))))) s' H' (q284_5 n Post)) (q284_5 n Post)
noncomputable def q284_7 : Nat → (AV → List AObj → Prop) → AQ := fun (n : Nat) (Post : AV → List AObj → Prop) => blockQ 2 (q284_6 n Post)
noncomputable def c284_7 : Go.Code := codeFst (codeSnd (codeFst (codeSnd (codeFst (codeFst (codeSnd (codeFst c284_3)))))))
theorem v284_3 : ∀ (bs : List UInt8) (p e : Int) (acc : List T.Need) (n : Int) (n_1 : Nat) (Post : AV → List AObj → Prop),
  condP (decide (n > (0 : Int)))
      (ASpec Try.prog 144 [AV.ptr 0 0] [AObj.cells [AV.sl 1 (Seq.map encB (0 : UInt8) bs) Tip.none, AV.int IntKind.i64 p, AV.int IntKind.i64 e], AObj.tok]
        fun (r : AV) (H' : List AObj) =>
        ∃ (x : Int),
        r = AV.int IntKind.i64 x ∧
        H' = [AObj.cells [AV.sl 1 (Seq.map encB (0 : UInt8) bs) Tip.none, AV.int IntKind.i64 p, AV.int IntKind.i64 e], AObj.tok] ∧
        condP (x == (0 : Int))
        (ASpec Try.prog 145 [AV.ptr 0 0, AV.int IntKind.i64 (24 : Int)]
        [AObj.cells [AV.sl 1 (Seq.map encB (0 : UInt8) bs) Tip.none, AV.int IntKind.i64 p, AV.int IntKind.i64 e], AObj.tok] fun (r : AV) (H' : List AObj) =>
        ∃ (x : ByteArray × Int × Int),
        r = AV.str (Prod.fst x) ∧
        H' = [AObj.cells [AV.sl 1 (Seq.map encB (0 : UInt8) bs) Tip.none, AV.int IntKind.i64 (Prod.fst (Prod.snd x)), AV.int IntKind.i64 (Prod.snd (Prod.snd x))], AObj.tok] ∧
        ASpec Try.prog 143 [AV.ptr 0 0, AV.int IntKind.i64 (6 : Int)]
        [AObj.cells [AV.sl 1 (Seq.map encB (0 : UInt8) bs) Tip.none, AV.int IntKind.i64 (Prod.fst (Prod.snd x)), AV.int IntKind.i64 (Prod.snd (Prod.snd x))], AObj.tok,
        AObj.cells [AV.str (Prod.fst x), AV.sl 0 (Seq.raw []) Tip.nil]]
        fun (r : AV) (H' : List AObj) =>
        ∃ (x_1 : Int × Int × Int),
        r = AV.int IntKind.i64 (Prod.fst x_1) ∧
        H' =
        [AObj.cells [AV.sl 1 (Seq.map encB (0 : UInt8) bs) Tip.none, AV.int IntKind.i64 (Prod.fst (Prod.snd x_1)), AV.int IntKind.i64 (Prod.snd (Prod.snd x_1))],
        AObj.tok, AObj.cells [AV.str (Prod.fst x), AV.sl 0 (Seq.raw []) Tip.nil]] ∧
        AWP Try.prog 51 n_1 c284_7
        [(0, AV.ptr 0 0), (3, AV.sl 2 (Seq.map T.encN ([], []) acc) (Tip.tok 1)), (4, AV.int IntKind.i64 n),
        (5, AV.ptr 2 0), (6, AV.int IntKind.i64 (Prod.fst x_1))]
        [AObj.cells [AV.sl 1 (Seq.map encB (0 : UInt8) bs) Tip.none, AV.int IntKind.i64 (Prod.fst (Prod.snd x_1)), AV.int IntKind.i64 (Prod.snd (Prod.snd x_1))],
        AObj.tok, AObj.cells [AV.str (Prod.fst x), AV.sl 0 (Seq.raw []) Tip.nil]]
        (q284_7 n_1 Post))
        (Post (AV.sl 2 (Seq.map T.encN ([], []) acc) (Tip.tok 1))
        [AObj.cells [AV.sl 1 (Seq.map encB (0 : UInt8) bs) Tip.none, AV.int IntKind.i64 p, AV.int IntKind.i64 e], AObj.tok]))
      (Post (AV.sl 2 (Seq.map T.encN ([], []) acc) (Tip.tok 1))
        [AObj.cells [AV.sl 1 (Seq.map encB (0 : UInt8) bs) Tip.none, AV.int IntKind.i64 p, AV.int IntKind.i64 e], AObj.tok]) →
    AWP Try.prog 51 n_1 c284_3 [(0, AV.ptr 0 0), (3, AV.sl 2 (Seq.map T.encN ([], []) acc) (Tip.tok 1)), (4, AV.int IntKind.i64 n)]
      [V.rd bs p e, AObj.tok] (q284_2 n_1 Post) := fun bs p e acc n n Post h => Go.Ab.AWP.loop' g284 (Cfg.live g284) c284_3 (by kernel_rfl) (by kernel_rfl) (Go.Ab.kc (by kernel_rfl) h)
theorem v284_7 : ∀ (bs : List UInt8) (p e : Int) (acc : List T.Need) (n : Int) (nm : ByteArray) (sp : List T.Span) (k : Int) (n_1 : Nat) (Post : AV → List AObj → Prop),
  condP (decide (k > (0 : Int)))
      (ASpec Try.prog 144 [AV.ptr 0 0]
        [AObj.cells [AV.sl 1 (Seq.map encB (0 : UInt8) bs) Tip.none, AV.int IntKind.i64 p, AV.int IntKind.i64 e], AObj.tok,
        AObj.cells [AV.str nm, AV.sl 2 (Seq.map T.encS ((0 : Int), (0 : Int)) sp) (Tip.tok 3)], AObj.tok]
        fun (r : AV) (H' : List AObj) =>
        ∃ (x : Int),
        r = AV.int IntKind.i64 x ∧
        H' =
        [AObj.cells [AV.sl 1 (Seq.map encB (0 : UInt8) bs) Tip.none, AV.int IntKind.i64 p, AV.int IntKind.i64 e], AObj.tok,
        AObj.cells [AV.str nm, AV.sl 2 (Seq.map T.encS ((0 : Int), (0 : Int)) sp) (Tip.tok 3)], AObj.tok] ∧
        condP (x == (0 : Int))
        (ASpec Try.prog 143 [AV.ptr 0 0, AV.int IntKind.i64 (1000000000 : Int)]
        [AObj.cells [AV.sl 1 (Seq.map encB (0 : UInt8) bs) Tip.none, AV.int IntKind.i64 p, AV.int IntKind.i64 e], AObj.tok,
        AObj.cells [AV.str nm, AV.sl 2 (Seq.map T.encS ((0 : Int), (0 : Int)) sp) (Tip.tok 3)], AObj.tok]
        fun (r : AV) (H' : List AObj) =>
        ∃ (x : Int × Int × Int),
        r = AV.int IntKind.i64 (Prod.fst x) ∧
        H' =
        [AObj.cells [AV.sl 1 (Seq.map encB (0 : UInt8) bs) Tip.none, AV.int IntKind.i64 (Prod.fst (Prod.snd x)), AV.int IntKind.i64 (Prod.snd (Prod.snd x))], AObj.tok,
        AObj.cells [AV.str nm, AV.sl 2 (Seq.map T.encS ((0 : Int), (0 : Int)) sp) (Tip.tok 3)], AObj.tok] ∧
        ASpec Try.prog 143 [AV.ptr 0 0, AV.int IntKind.i64 (1000000000 : Int)]
        [AObj.cells [AV.sl 1 (Seq.map encB (0 : UInt8) bs) Tip.none, AV.int IntKind.i64 (Prod.fst (Prod.snd x)), AV.int IntKind.i64 (Prod.snd (Prod.snd x))], AObj.tok,
        AObj.cells [AV.str nm, AV.sl 2 (Seq.map T.encS ((0 : Int), (0 : Int)) sp) (Tip.tok 3)], AObj.tok]
        fun (r : AV) (H' : List AObj) =>
        ∃ (x_1 : Int × Int × Int),
        r = AV.int IntKind.i64 (Prod.fst x_1) ∧
        H' =
        [AObj.cells [AV.sl 1 (Seq.map encB (0 : UInt8) bs) Tip.none, AV.int IntKind.i64 (Prod.fst (Prod.snd x_1)), AV.int IntKind.i64 (Prod.snd (Prod.snd x_1))],
        AObj.tok, AObj.cells [AV.str nm, AV.sl 2 (Seq.map T.encS ((0 : Int), (0 : Int)) sp) (Tip.tok 3)], AObj.tok] ∧
        (AV.sl 2 (Seq.map T.encS ((0 : Int), (0 : Int)) sp) (Tip.tok 3) = AV.sl 2 (Seq.map T.encS ((0 : Int), (0 : Int)) sp) (Tip.tok 3) ∧
        [AObj.cells [AV.sl 1 (Seq.map encB (0 : UInt8) bs) Tip.none, AV.int IntKind.i64 (Prod.fst (Prod.snd x_1)), AV.int IntKind.i64 (Prod.snd (Prod.snd x_1))],
        AObj.tok, AObj.cells [AV.str nm, AV.sl 2 (Seq.map T.encS ((0 : Int), (0 : Int)) sp) (Tip.tok 3)], AObj.tok] =
        [AObj.cells [AV.sl 1 (Seq.map encB (0 : UInt8) bs) Tip.none, AV.int IntKind.i64 (Prod.fst (Prod.snd x_1)), AV.int IntKind.i64 (Prod.snd (Prod.snd x_1))],
        AObj.tok, AObj.cells [AV.str nm, AV.sl 2 (Seq.map T.encS ((0 : Int), (0 : Int)) sp) (Tip.tok 3)], AObj.tok]) ∧
        needP ((List.length sp + 1) * 16 ≤ 140737488351232)
        (AWP Try.prog 51 n_1 c284_7
        [(0, AV.ptr 0 0), (3, AV.sl 2 (Seq.map T.encN ([], []) acc) (Tip.tok 1)), (4, AV.int IntKind.i64 n),
        (5, AV.ptr 2 0), (6, AV.int IntKind.i64 (IntKind.wrap IntKind.i64 (k - (1 : Int))))]
        [AObj.cells [AV.sl 1 (Seq.map encB (0 : UInt8) bs) Tip.none, AV.int IntKind.i64 (Prod.fst (Prod.snd x_1)), AV.int IntKind.i64 (Prod.snd (Prod.snd x_1))],
        AObj.tok,
        AObj.cells
        [AV.str nm,
        AV.sl 2
        (Seq.app (Seq.map T.encS ((0 : Int), (0 : Int)) sp)
        (Seq.raw [[AV.int IntKind.i64 (Prod.fst x), AV.int IntKind.i64 (IntKind.wrap IntKind.i64 (Prod.fst x + Prod.fst x_1))]]))
        (Tip.tok 4)],
        AObj.gone, AObj.tok]
        (q284_7 n_1 Post)))
        (needP ((List.length acc + 1) * 40 ≤ 140737488351232)
        (AWP Try.prog 51 n_1 c284_3
        [(0, AV.ptr 0 0),
        (3,
        AV.sl 2 (Seq.app (Seq.map T.encN ([], []) acc) (Seq.raw [[AV.str nm, AV.sl 2 (Seq.map T.encS ((0 : Int), (0 : Int)) sp) (Tip.tok 3)]]))
        (Tip.tok 4)),
        (4, AV.int IntKind.i64 (IntKind.wrap IntKind.i64 (n - (1 : Int))))]
        [AObj.cells [AV.sl 1 (Seq.map encB (0 : UInt8) bs) Tip.none, AV.int IntKind.i64 p, AV.int IntKind.i64 e], AObj.gone,
        AObj.cells [AV.str nm, AV.sl 2 (Seq.map T.encS ((0 : Int), (0 : Int)) sp) (Tip.tok 3)], AObj.tok, AObj.tok]
        (q284_2 n_1 Post))))
      (needP ((List.length acc + 1) * 40 ≤ 140737488351232)
        (AWP Try.prog 51 n_1 c284_3
        [(0, AV.ptr 0 0),
        (3,
        AV.sl 2 (Seq.app (Seq.map T.encN ([], []) acc) (Seq.raw [[AV.str nm, AV.sl 2 (Seq.map T.encS ((0 : Int), (0 : Int)) sp) (Tip.tok 3)]])) (Tip.tok 4)),
        (4, AV.int IntKind.i64 (IntKind.wrap IntKind.i64 (n - (1 : Int))))]
        [AObj.cells [AV.sl 1 (Seq.map encB (0 : UInt8) bs) Tip.none, AV.int IntKind.i64 p, AV.int IntKind.i64 e], AObj.gone,
        AObj.cells [AV.str nm, AV.sl 2 (Seq.map T.encS ((0 : Int), (0 : Int)) sp) (Tip.tok 3)], AObj.tok, AObj.tok]
        (q284_2 n_1 Post))) →
    AWP Try.prog 51 n_1 c284_7
      [(0, AV.ptr 0 0), (3, AV.sl 2 (Seq.map T.encN ([], []) acc) (Tip.tok 1)), (4, AV.int IntKind.i64 n),
        (5, AV.ptr 2 0), (6, AV.int IntKind.i64 k)]
      [V.rd bs p e, AObj.tok, AObj.cells [AV.str nm, AV.sl 2 (Seq.map T.encS ((0 : Int), (0 : Int)) sp) (Tip.tok 3)], AObj.tok] (q284_7 n_1 Post) := fun bs p e acc n nm sp k n Post h => Go.Ab.AWP.loop' g284 (Cfg.live g284) c284_7 (by kernel_rfl) (by kernel_rfl) (Go.Ab.kc (by kernel_rfl) h)

-- 191
noncomputable def l416 : Nat → List Nat
  | 3 => [1, 18, 19, 20]
  | 7 => [1, 18, 19, 20, 34, 35, 36]
  | _ => []
noncomputable def u416 : Nat → Bool
  | _ => false
noncomputable def m416 : Nat → Bool
  | _ => false
noncomputable def g416 : Cfg := { N := 53, live := l416, cut := u416, mu := m416, ret := rets }
noncomputable def c416 : Go.Code := Go.Ab.bodyOf Go.Proofs.Try.f416
noncomputable def q416_0 : Nat → (AV → List AObj → Prop) → AQ := fun (n : Nat) (Post : AV → List AObj → Prop) => endQ Try.prog (resultsOf Try.f416) Post
noncomputable def q416_1 : Nat → (AV → List AObj → Prop) → AQ := fun (n : Nat) (Post : AV → List AObj → Prop) => seqQ (fun (s' : Slots) (H' : List AObj) => awp Try.prog g416 n (codeSnd (codeSnd (codeSnd c416))) s' H' (q416_0 n Post)) (q416_0 n Post)
noncomputable def q416_2 : Nat → (AV → List AObj → Prop) → AQ := fun (n : Nat) (Post : AV → List AObj → Prop) => blockQ 0 (q416_1 n Post)
noncomputable def c416_3 : Go.Code := codeFst (codeSnd (codeFst (codeSnd (codeSnd c416))))
noncomputable def q416_3 : Nat → (AV → List AObj → Prop) → AQ := fun (n : Nat) (Post : AV → List AObj → Prop) => loopQ Try.prog 53 n c416_3 (q416_2 n Post) (Cfg.live g416)
noncomputable def q416_4 : Nat → (AV → List AObj → Prop) → AQ := fun (n : Nat) (Post : AV → List AObj → Prop) => seqQ (fun (s' : Slots) (H' : List AObj) => awp Try.prog g416 n (codeSnd (codeSnd (codeSnd (codeFst c416_3)))) s' H' (q416_3 n Post)) (q416_3 n Post)
noncomputable def q416_5 : Nat → (AV → List AObj → Prop) → AQ := fun (n : Nat) (Post : AV → List AObj → Prop) => blockQ 1 (q416_4 n Post)
noncomputable def q416_6 : Nat → (AV → List AObj → Prop) → AQ := fun (n : Nat) (Post : AV → List AObj → Prop) => blockQ 2 (q416_5 n Post)
noncomputable def c416_7 : Go.Code := codeFst (codeSnd (codeSnd (codeSnd (codeFst (codeFst (codeSnd (codeSnd (codeFst c416_3))))))))
theorem v416_3 : ∀ (b : List UInt8) (l : List T.Need) (n i : Int) (n_1 : Nat) (Post : AV → List AObj → Prop),
  condP (decide (i < n))
      (needP ((0 : Int) ≤ i ∧ i < (↑(List.length l) : Int))
        (ASpec Try.prog 141 [AV.sl 1 (Seq.map encB (0 : UInt8) b) Tip.none, AV.str { data := List.toArray (Prod.fst (List.getD l (Int.toNat i) ([], []))) }]
        [AObj.cells
        [AV.str { data := List.toArray (Prod.fst (List.getD l (Int.toNat i) ([], []))) },
        AV.sl 2 (Seq.map T.encS ((0 : Int), (0 : Int)) (Prod.snd (List.getD l (Int.toNat i) ([], [])))) Tip.none]]
        fun (r : AV) (H' : List AObj) =>
        ∃ (x : List UInt8),
        r = AV.sl 1 (Seq.map encB (0 : UInt8) x) (Tip.tok 1) ∧
        H' =
        [AObj.cells
        [AV.str { data := List.toArray (Prod.fst (List.getD l (Int.toNat i) ([], []))) },
        AV.sl 2 (Seq.map T.encS ((0 : Int), (0 : Int)) (Prod.snd (List.getD l (Int.toNat i) ([], [])))) Tip.none],
        AObj.tok] ∧
        (AV.int IntKind.i64 (↑(List.length (Prod.snd (List.getD l (Int.toNat i) ([], [])))) : Int) = AV.int IntKind.i64 (↑(List.length (Prod.snd (List.getD l (Int.toNat i) ([], [])))) : Int) ∧
        [AObj.cells
        [AV.str { data := List.toArray (Prod.fst (List.getD l (Int.toNat i) ([], []))) },
        AV.sl 2 (Seq.map T.encS ((0 : Int), (0 : Int)) (Prod.snd (List.getD l (Int.toNat i) ([], [])))) Tip.none],
        AObj.tok] =
        [AObj.cells
        [AV.str { data := List.toArray (Prod.fst (List.getD l (Int.toNat i) ([], []))) },
        AV.sl 2 (Seq.map T.encS ((0 : Int), (0 : Int)) (Prod.snd (List.getD l (Int.toNat i) ([], [])))) Tip.none],
        AObj.tok]) ∧
        (AV.sl 2 (Seq.map T.encS ((0 : Int), (0 : Int)) (Prod.snd (List.getD l (Int.toNat i) ([], [])))) Tip.none =
        AV.sl 2 (Seq.map T.encS ((0 : Int), (0 : Int)) (Prod.snd (List.getD l (Int.toNat i) ([], [])))) Tip.none ∧
        [AObj.cells
        [AV.str { data := List.toArray (Prod.fst (List.getD l (Int.toNat i) ([], []))) },
        AV.sl 2 (Seq.map T.encS ((0 : Int), (0 : Int)) (Prod.snd (List.getD l (Int.toNat i) ([], [])))) Tip.none],
        AObj.tok] =
        [AObj.cells
        [AV.str { data := List.toArray (Prod.fst (List.getD l (Int.toNat i) ([], []))) },
        AV.sl 2 (Seq.map T.encS ((0 : Int), (0 : Int)) (Prod.snd (List.getD l (Int.toNat i) ([], [])))) Tip.none],
        AObj.tok]) ∧
        ASpec Try.prog 140
        [AV.sl 1 (Seq.map encB (0 : UInt8) x) (Tip.tok 1),
        AV.sl 1 (Seq.raw [[AV.int IntKind.i64 (↑(List.length (Prod.snd (List.getD l (Int.toNat i) ([], [])))) : Int)]]) Tip.full]
        [AObj.cells
        [AV.str { data := List.toArray (Prod.fst (List.getD l (Int.toNat i) ([], []))) },
        AV.sl 2 (Seq.map T.encS ((0 : Int), (0 : Int)) (Prod.snd (List.getD l (Int.toNat i) ([], [])))) Tip.none],
        AObj.tok]
        fun (r : AV) (H' : List AObj) =>
        ∃ (x : List UInt8),
        r = AV.sl 1 (Seq.map encB (0 : UInt8) x) (Tip.tok 2) ∧
        H' =
        [AObj.cells
        [AV.str { data := List.toArray (Prod.fst (List.getD l (Int.toNat i) ([], []))) },
        AV.sl 2 (Seq.map T.encS ((0 : Int), (0 : Int)) (Prod.snd (List.getD l (Int.toNat i) ([], [])))) Tip.none],
        AObj.tok, AObj.tok] ∧
        AWP Try.prog 53 n_1 c416_7
        [(1, AV.sl 1 (Seq.map encB (0 : UInt8) x) (Tip.tok 2)), (18, AV.sl 2 (Seq.map T.encN ([], []) l) Tip.none),
        (19, AV.int IntKind.i64 n), (20, AV.int IntKind.i64 i),
        (34, AV.sl 2 (Seq.map T.encS ((0 : Int), (0 : Int)) (Prod.snd (List.getD l (Int.toNat i) ([], [])))) Tip.none),
        (35, AV.int IntKind.i64 (↑(List.length (Prod.snd (List.getD l (Int.toNat i) ([], [])))) : Int)), (36, AV.int IntKind.i64 (0 : Int))]
        [AObj.cells
        [AV.str { data := List.toArray (Prod.fst (List.getD l (Int.toNat i) ([], []))) },
        AV.sl 2 (Seq.map T.encS ((0 : Int), (0 : Int)) (Prod.snd (List.getD l (Int.toNat i) ([], [])))) Tip.none],
        AObj.tok, AObj.tok]
        (q416_6 n_1 Post)))
      (Post (AV.sl 1 (Seq.map encB (0 : UInt8) b) Tip.none) []) →
    AWP Try.prog 53 n_1 c416_3
      [(1, AV.sl 1 (Seq.map encB (0 : UInt8) b) Tip.none), (18, AV.sl 2 (Seq.map T.encN ([], []) l) Tip.none), (19, AV.int IntKind.i64 n),
        (20, AV.int IntKind.i64 i)]
      [] (q416_2 n_1 Post) := fun b l n i n Post h => Go.Ab.AWP.loop' g416 (Cfg.live g416) c416_3 (by kernel_rfl) (by kernel_rfl) (Go.Ab.kc (by kernel_rfl) h)
theorem v416_7 : ∀ (b : List UInt8) (l : List T.Need) (n i : Int) (ss : List T.Span) (n2 i2 : Int) (n_1 : Nat) (Post : AV → List AObj → Prop),
  condP (decide (i2 < n2))
      (needP ((0 : Int) ≤ i2 ∧ i2 < (↑(List.length ss) : Int))
        (ASpec Try.prog 140
        [AV.sl 1 (Seq.map encB (0 : UInt8) b) Tip.none,
        AV.sl 1
        (Seq.raw
        [[AV.int IntKind.i64 (Prod.fst (List.getD ss (Int.toNat i2) ((0 : Int), (0 : Int))))],
        [AV.int IntKind.i64 (IntKind.wrap IntKind.i64 (Prod.snd (List.getD ss (Int.toNat i2) ((0 : Int), (0 : Int))) - Prod.fst (List.getD ss (Int.toNat i2) ((0 : Int), (0 : Int)))))]])
        Tip.full]
        [AObj.cells [AV.int IntKind.i64 (Prod.fst (List.getD ss (Int.toNat i2) ((0 : Int), (0 : Int)))), AV.int IntKind.i64 (Prod.snd (List.getD ss (Int.toNat i2) ((0 : Int), (0 : Int))))]]
        fun (r : AV) (H' : List AObj) =>
        ∃ (x : List UInt8),
        r = AV.sl 1 (Seq.map encB (0 : UInt8) x) (Tip.tok 1) ∧
        H' =
        [AObj.cells [AV.int IntKind.i64 (Prod.fst (List.getD ss (Int.toNat i2) ((0 : Int), (0 : Int)))), AV.int IntKind.i64 (Prod.snd (List.getD ss (Int.toNat i2) ((0 : Int), (0 : Int))))],
        AObj.tok] ∧
        AWP Try.prog 53 n_1 c416_7
        [(1, AV.sl 1 (Seq.map encB (0 : UInt8) x) (Tip.tok 1)), (18, AV.sl 2 (Seq.map T.encN ([], []) l) Tip.none),
        (19, AV.int IntKind.i64 n), (20, AV.int IntKind.i64 i), (34, AV.sl 2 (Seq.map T.encS ((0 : Int), (0 : Int)) ss) Tip.none),
        (35, AV.int IntKind.i64 n2), (36, AV.int IntKind.i64 (IntKind.wrap IntKind.i64 (i2 + (1 : Int))))]
        [AObj.cells [AV.int IntKind.i64 (Prod.fst (List.getD ss (Int.toNat i2) ((0 : Int), (0 : Int)))), AV.int IntKind.i64 (Prod.snd (List.getD ss (Int.toNat i2) ((0 : Int), (0 : Int))))],
        AObj.tok]
        (q416_6 n_1 Post)))
      (AWP Try.prog 53 n_1 c416_3
        [(1, AV.sl 1 (Seq.map encB (0 : UInt8) b) Tip.none), (18, AV.sl 2 (Seq.map T.encN ([], []) l) Tip.none), (19, AV.int IntKind.i64 n),
        (20, AV.int IntKind.i64 (IntKind.wrap IntKind.i64 (i + (1 : Int))))]
        [] (q416_2 n_1 Post)) →
    AWP Try.prog 53 n_1 c416_7
      [(1, AV.sl 1 (Seq.map encB (0 : UInt8) b) Tip.none), (18, AV.sl 2 (Seq.map T.encN ([], []) l) Tip.none), (19, AV.int IntKind.i64 n),
        (20, AV.int IntKind.i64 i), (34, AV.sl 2 (Seq.map T.encS ((0 : Int), (0 : Int)) ss) Tip.none), (35, AV.int IntKind.i64 n2), (36, AV.int IntKind.i64 i2)]
      [] (q416_6 n_1 Post) := fun b l n i ss n2 i2 n Post h => Go.Ab.AWP.loop' g416 (Cfg.live g416) c416_7 (by kernel_rfl) (by kernel_rfl) (Go.Ab.kc (by kernel_rfl) h)

-- 417
end
end EB
end

section
/- Printed: what the code of functions 184, 264, 172, 270, 271, 273, 272, 276, 275, 274, 181, 326, 277 asks for, by the framework's own reading of it; each line is checked against the code. -/

set_option linter.unusedVariables false
set_option maxRecDepth 100000
set_option maxHeartbeats 4000000
open Go Go.Ab Go.Proofs
namespace W
noncomputable section

noncomputable def updC (args : List AV) (H : List AObj) (p e : Int) : List AObj := match args with
  | .ptr c _ :: _ => match H[c]? with
    | some (.cells [.ptr id off]) => V.upd3 [.ptr id off] H p e
    | _ => H
  | _ => H
noncomputable def tl (args : List AV) : List AV := match args with
  | _ :: r => r
  | _ => []
noncomputable def retW : List (Nat × Ret) := [
  (9039, ⟨Unit, fun _ _ _ => .bool true, fun _ H _ => H⟩),
  (181, ⟨T.Mani × Int, fun _ _ x => .tup [.agg (T.encM x.1), .int .i64 x.2], fun _ H _ => H⟩),
  (277, ⟨T.Mani × Int, fun _ _ x => .tup [.agg (T.encM x.1), .int .i64 x.2], fun _ H _ => H⟩),
  (184, ⟨List UInt8, fun _ _ x => .sl 1 (.map encB 0 x) .none, fun _ H _ => H⟩),
  (172, ⟨ByteArray, fun _ _ x => .str x, fun _ H _ => H⟩),
  (270, ⟨ByteArray × Int × Int, fun _ _ x => .str x.1, fun a H x => updC a H x.2.1 x.2.2⟩),
  (271, ⟨T.Span × Int × Int, fun _ _ x => .agg (T.encS x.1), fun a H x => updC a H x.2.1 x.2.2⟩),
  (272, ⟨T.Need × Int × Int, fun _ _ x => .agg (T.encN x.1), fun a H x => updC (tl a) H x.2.1 x.2.2⟩),
  (275, ⟨T.Rel × Int × Int, fun _ _ x => .agg (T.encR x.1), fun a H x => updC a H x.2.1 x.2.2⟩),
  (273, ⟨List T.Span × Int × Int, fun _ _ x => .sl 2 (.map T.encS (0, 0) x.1) .none, fun a H x => V.upd3 a H x.2.1 x.2.2⟩),
  (276, ⟨List T.Need × Int × Int, fun _ _ x => .sl 2 (.map T.encN ([], []) x.1) .none, fun a H x => V.upd3 a H x.2.1 x.2.2⟩),
  (274, ⟨List T.Rel × Int × Int, fun _ _ x => .sl 2 (.map T.encR (0, []) x.1) .none, fun a H x => V.upd3 a H x.2.1 x.2.2⟩),
  (326, ⟨List T.Need × ByteArray × Int, fun _ _ x => .sl 2 (.map T.encN ([], []) x.1) .none, fun a H x => V.upd2 a H x.2.1 x.2.2⟩),
  (264, ⟨ByteArray, fun _ _ x => .str x, fun _ H _ => H⟩)]
noncomputable def rets : FuncId → List Ret := lookupR (retW ++ C.retC ++ V.retL)

-- 184
noncomputable def l184 : Nat → List Nat
  | 5 => [3, 22, 23, 24]
  | 9 => [3, 22, 23, 24, 37, 38, 39]
  | 13 => [3, 22, 23, 24, 37, 38, 39, 53, 54, 55]
  | _ => []
noncomputable def u184 : Nat → Bool
  | _ => false
noncomputable def m184 : Nat → Bool
  | _ => false
noncomputable def g184 : Cfg := { N := 73, live := l184, cut := u184, mu := m184, ret := rets }
noncomputable def c184 : Go.Code := Go.Ab.bodyOf Go.Proofs.Try.f184
noncomputable def q184_0 : Nat → (AV → List AObj → Prop) → AQ := fun (n : Nat) (Post : AV → List AObj → Prop) => endQ Try.prog (resultsOf Try.f184) Post
noncomputable def q184_1 : Nat → (AV → List AObj → Prop) → AQ := fun (n : Nat) (Post : AV → List AObj → Prop) => seqQ (fun (s' : Slots) (H' : List AObj) => awp Try.prog g184 n (codeSnd (codeSnd (codeSnd (codeSnd c184)))) s' H' (q184_0 n Post)) (q184_0 n Post)
noncomputable def q184_2 : Nat → (AV → List AObj → Prop) → AQ := fun (n : Nat) (Post : AV → List AObj → Prop) => blockQ 0 (q184_1 n Post)
noncomputable def c184_5 : Go.Code := codeFst (codeSnd (codeFst (codeSnd (codeSnd (codeSnd c184)))))
theorem s184 : ∀ (m : T.Mani) (Post : AV → List AObj → Prop),
  (ASpec Try.prog 185 [AV.agg [AV.str { data := List.toArray (Prod.fst m) }, AV.sl 2 (Seq.map T.encR ((0 : Int), []) (Prod.snd m)) Tip.none]]
      [AObj.cells [AV.str { data := List.toArray (Prod.fst m) }, AV.sl 2 (Seq.map T.encR ((0 : Int), []) (Prod.snd m)) Tip.none]] fun (r : AV) (H' : List AObj) =>
      ∃ (x : Bool),
        r = AV.bool x ∧
        H' = [AObj.cells [AV.str { data := List.toArray (Prod.fst m) }, AV.sl 2 (Seq.map T.encR ((0 : Int), []) (Prod.snd m)) Tip.none]] ∧
        condP (!x) (Post (AV.sl 0 (Seq.raw []) Tip.nil) [AObj.cells [AV.str { data := List.toArray (Prod.fst m) }, AV.sl 2 (Seq.map T.encR ((0 : Int), []) (Prod.snd m)) Tip.none]])
        (ASpec Try.prog 141 [AV.sl 0 (Seq.raw []) Tip.nil, AV.str { data := List.toArray (Prod.fst m) }]
        [AObj.cells [AV.str { data := List.toArray (Prod.fst m) }, AV.sl 2 (Seq.map T.encR ((0 : Int), []) (Prod.snd m)) Tip.none]] fun (r : AV) (H' : List AObj) =>
        ∃ (x : List UInt8),
        r = AV.sl 1 (Seq.map encB (0 : UInt8) x) (Tip.tok 1) ∧
        H' = [AObj.cells [AV.str { data := List.toArray (Prod.fst m) }, AV.sl 2 (Seq.map T.encR ((0 : Int), []) (Prod.snd m)) Tip.none], AObj.tok] ∧
        (AV.int IntKind.i64 (↑(List.length (Prod.snd m)) : Int) = AV.int IntKind.i64 (↑(List.length (Prod.snd m)) : Int) ∧
        [AObj.cells [AV.str { data := List.toArray (Prod.fst m) }, AV.sl 2 (Seq.map T.encR ((0 : Int), []) (Prod.snd m)) Tip.none], AObj.tok] =
        [AObj.cells [AV.str { data := List.toArray (Prod.fst m) }, AV.sl 2 (Seq.map T.encR ((0 : Int), []) (Prod.snd m)) Tip.none], AObj.tok]) ∧
        (AV.sl 2 (Seq.map T.encR ((0 : Int), []) (Prod.snd m)) Tip.none = AV.sl 2 (Seq.map T.encR ((0 : Int), []) (Prod.snd m)) Tip.none ∧
        [AObj.cells [AV.str { data := List.toArray (Prod.fst m) }, AV.sl 2 (Seq.map T.encR ((0 : Int), []) (Prod.snd m)) Tip.none], AObj.tok] =
        [AObj.cells [AV.str { data := List.toArray (Prod.fst m) }, AV.sl 2 (Seq.map T.encR ((0 : Int), []) (Prod.snd m)) Tip.none], AObj.tok]) ∧
        ASpec Try.prog 140
        [AV.sl 1 (Seq.map encB (0 : UInt8) x) (Tip.tok 1), AV.sl 1 (Seq.raw [[AV.int IntKind.i64 (↑(List.length (Prod.snd m)) : Int)]]) Tip.full]
        [AObj.cells [AV.str { data := List.toArray (Prod.fst m) }, AV.sl 2 (Seq.map T.encR ((0 : Int), []) (Prod.snd m)) Tip.none], AObj.tok]
        fun (r : AV) (H' : List AObj) =>
        ∃ (x : List UInt8),
        r = AV.sl 1 (Seq.map encB (0 : UInt8) x) (Tip.tok 2) ∧
        H' = [AObj.cells [AV.str { data := List.toArray (Prod.fst m) }, AV.sl 2 (Seq.map T.encR ((0 : Int), []) (Prod.snd m)) Tip.none], AObj.tok, AObj.tok] ∧
        AWP Try.prog 73 0 c184_5
        [(3, AV.sl 1 (Seq.map encB (0 : UInt8) x) (Tip.tok 2)),
        (22, AV.sl 2 (Seq.map T.encR ((0 : Int), []) (Prod.snd m)) Tip.none), (23, AV.int IntKind.i64 (↑(List.length (Prod.snd m)) : Int)),
        (24, AV.int IntKind.i64 (0 : Int))]
        [AObj.cells [AV.str { data := List.toArray (Prod.fst m) }, AV.sl 2 (Seq.map T.encR ((0 : Int), []) (Prod.snd m)) Tip.none], AObj.tok, AObj.tok]
        (q184_2 0 Post))) →
    ASpec Try.prog 184 [AV.agg (T.encM m)] [] Post := fun m Post h => Go.Ab.ASpec.of_vc g184 Go.Proofs.Try.func184 (by kernel_rfl) (by kernel_rfl) (by kernel_rfl) (Go.Ab.kc (by kernel_rfl) h)
noncomputable def q184_3 : Nat → (AV → List AObj → Prop) → AQ := fun (n : Nat) (Post : AV → List AObj → Prop) => loopQ Try.prog 73 n c184_5 (q184_2 n Post) (Cfg.live g184)
noncomputable def q184_4 : Nat → (AV → List AObj → Prop) → AQ := fun (n : Nat) (Post : AV → List AObj → Prop) => seqQ (fun (s' : Slots) (H' : List AObj) => awp Try.prog g184 n (codeSnd (codeSnd (codeSnd (codeFst c184_5)))) s' H' (q184_3 n Post)) (q184_3 n Post)
noncomputable def q184_5 : Nat → (AV → List AObj → Prop) → AQ := fun (n : Nat) (Post : AV → List AObj → Prop) => blockQ 1 (q184_4 n Post)
noncomputable def q184_6 : Nat → (AV → List AObj → Prop) → AQ := fun (n : Nat) (Post : AV → List AObj → Prop) => blockQ 2 (q184_5 n Post)
noncomputable def c184_9 : Go.Code := codeFst (codeSnd (codeSnd (codeSnd (codeFst (codeFst (codeSnd (codeSnd (codeFst c184_5))))))))
theorem v184_5 : ∀ (b : List UInt8) (rs : List T.Rel) (n i : Int) (n_1 : Nat) (Post : AV → List AObj → Prop),
  condP (decide (i < n))
      (needP ((0 : Int) ≤ i ∧ i < (↑(List.length rs) : Int))
        (ASpec Try.prog 140
        [AV.sl 1 (Seq.map encB (0 : UInt8) b) Tip.none,
        AV.sl 1
        (Seq.raw
        [[AV.int IntKind.i64 (Prod.fst (List.getD rs (Int.toNat i) ((0 : Int), [])))], [AV.int IntKind.i64 (↑(List.length (Prod.snd (List.getD rs (Int.toNat i) ((0 : Int), [])))) : Int)]])
        Tip.full]
        [AObj.cells
        [AV.int IntKind.i64 (Prod.fst (List.getD rs (Int.toNat i) ((0 : Int), []))), AV.sl 2 (Seq.map T.encN ([], []) (Prod.snd (List.getD rs (Int.toNat i) ((0 : Int), [])))) Tip.none]]
        fun (r : AV) (H' : List AObj) =>
        ∃ (x : List UInt8),
        r = AV.sl 1 (Seq.map encB (0 : UInt8) x) (Tip.tok 1) ∧
        H' =
        [AObj.cells
        [AV.int IntKind.i64 (Prod.fst (List.getD rs (Int.toNat i) ((0 : Int), []))),
        AV.sl 2 (Seq.map T.encN ([], []) (Prod.snd (List.getD rs (Int.toNat i) ((0 : Int), [])))) Tip.none],
        AObj.tok] ∧
        AWP Try.prog 73 n_1 c184_9
        [(3, AV.sl 1 (Seq.map encB (0 : UInt8) x) (Tip.tok 1)), (22, AV.sl 2 (Seq.map T.encR ((0 : Int), []) rs) Tip.none),
        (23, AV.int IntKind.i64 n), (24, AV.int IntKind.i64 i),
        (37, AV.sl 2 (Seq.map T.encN ([], []) (Prod.snd (List.getD rs (Int.toNat i) ((0 : Int), [])))) Tip.none),
        (38, AV.int IntKind.i64 (↑(List.length (Prod.snd (List.getD rs (Int.toNat i) ((0 : Int), [])))) : Int)), (39, AV.int IntKind.i64 (0 : Int))]
        [AObj.cells
        [AV.int IntKind.i64 (Prod.fst (List.getD rs (Int.toNat i) ((0 : Int), []))),
        AV.sl 2 (Seq.map T.encN ([], []) (Prod.snd (List.getD rs (Int.toNat i) ((0 : Int), [])))) Tip.none],
        AObj.tok]
        (q184_6 n_1 Post)))
      (Post (AV.sl 1 (Seq.map encB (0 : UInt8) b) Tip.none) []) →
    AWP Try.prog 73 n_1 c184_5
      [(3, AV.sl 1 (Seq.map encB (0 : UInt8) b) Tip.none), (22, AV.sl 2 (Seq.map T.encR ((0 : Int), []) rs) Tip.none), (23, AV.int IntKind.i64 n),
        (24, AV.int IntKind.i64 i)]
      [] (q184_2 n_1 Post) := fun b rs n i n Post h => Go.Ab.AWP.loop' g184 (Cfg.live g184) c184_5 (by kernel_rfl) (by kernel_rfl) (Go.Ab.kc (by kernel_rfl) h)
noncomputable def q184_7 : Nat → (AV → List AObj → Prop) → AQ := fun (n : Nat) (Post : AV → List AObj → Prop) => loopQ Try.prog 73 n c184_9 (q184_6 n Post) (Cfg.live g184)
noncomputable def q184_8 : Nat → (AV → List AObj → Prop) → AQ := fun (n : Nat) (Post : AV → List AObj → Prop) => seqQ (fun (s' : Slots) (H' : List AObj) => awp Try.prog g184 n (codeSnd (codeSnd (codeSnd (codeFst c184_9)))) s' H' (q184_7 n Post)) (q184_7 n Post)
noncomputable def q184_9 : Nat → (AV → List AObj → Prop) → AQ := fun (n : Nat) (Post : AV → List AObj → Prop) => blockQ 3 (q184_8 n Post)
noncomputable def q184_10 : Nat → (AV → List AObj → Prop) → AQ := fun (n : Nat) (Post : AV → List AObj → Prop) => blockQ 4 (q184_9 n Post)
noncomputable def c184_13 : Go.Code := codeFst (codeSnd (codeSnd (codeSnd (codeFst (codeFst (codeSnd (codeSnd (codeFst c184_9))))))))
theorem v184_9 : ∀ (b : List UInt8) (rs : List T.Rel) (n i : Int) (ns : List T.Need) (n2 i2 : Int) (n_1 : Nat) (Post : AV → List AObj → Prop),
  condP (decide (i2 < n2))
      (needP ((0 : Int) ≤ i2 ∧ i2 < (↑(List.length ns) : Int))
        (ASpec Try.prog 141 [AV.sl 1 (Seq.map encB (0 : UInt8) b) Tip.none, AV.str { data := List.toArray (Prod.fst (List.getD ns (Int.toNat i2) ([], []))) }]
        [AObj.cells
        [AV.str { data := List.toArray (Prod.fst (List.getD ns (Int.toNat i2) ([], []))) },
        AV.sl 2 (Seq.map T.encS ((0 : Int), (0 : Int)) (Prod.snd (List.getD ns (Int.toNat i2) ([], [])))) Tip.none]]
        fun (r : AV) (H' : List AObj) =>
        ∃ (x : List UInt8),
        r = AV.sl 1 (Seq.map encB (0 : UInt8) x) (Tip.tok 1) ∧
        H' =
        [AObj.cells
        [AV.str { data := List.toArray (Prod.fst (List.getD ns (Int.toNat i2) ([], []))) },
        AV.sl 2 (Seq.map T.encS ((0 : Int), (0 : Int)) (Prod.snd (List.getD ns (Int.toNat i2) ([], [])))) Tip.none],
        AObj.tok] ∧
        (AV.int IntKind.i64 (↑(List.length (Prod.snd (List.getD ns (Int.toNat i2) ([], [])))) : Int) =
        AV.int IntKind.i64 (↑(List.length (Prod.snd (List.getD ns (Int.toNat i2) ([], [])))) : Int) ∧
        [AObj.cells
        [AV.str { data := List.toArray (Prod.fst (List.getD ns (Int.toNat i2) ([], []))) },
        AV.sl 2 (Seq.map T.encS ((0 : Int), (0 : Int)) (Prod.snd (List.getD ns (Int.toNat i2) ([], [])))) Tip.none],
        AObj.tok] =
        [AObj.cells
        [AV.str { data := List.toArray (Prod.fst (List.getD ns (Int.toNat i2) ([], []))) },
        AV.sl 2 (Seq.map T.encS ((0 : Int), (0 : Int)) (Prod.snd (List.getD ns (Int.toNat i2) ([], [])))) Tip.none],
        AObj.tok]) ∧
        (AV.sl 2 (Seq.map T.encS ((0 : Int), (0 : Int)) (Prod.snd (List.getD ns (Int.toNat i2) ([], [])))) Tip.none =
        AV.sl 2 (Seq.map T.encS ((0 : Int), (0 : Int)) (Prod.snd (List.getD ns (Int.toNat i2) ([], [])))) Tip.none ∧
        [AObj.cells
        [AV.str { data := List.toArray (Prod.fst (List.getD ns (Int.toNat i2) ([], []))) },
        AV.sl 2 (Seq.map T.encS ((0 : Int), (0 : Int)) (Prod.snd (List.getD ns (Int.toNat i2) ([], [])))) Tip.none],
        AObj.tok] =
        [AObj.cells
        [AV.str { data := List.toArray (Prod.fst (List.getD ns (Int.toNat i2) ([], []))) },
        AV.sl 2 (Seq.map T.encS ((0 : Int), (0 : Int)) (Prod.snd (List.getD ns (Int.toNat i2) ([], [])))) Tip.none],
        AObj.tok]) ∧
        ASpec Try.prog 140
        [AV.sl 1 (Seq.map encB (0 : UInt8) x) (Tip.tok 1),
        AV.sl 1 (Seq.raw [[AV.int IntKind.i64 (↑(List.length (Prod.snd (List.getD ns (Int.toNat i2) ([], [])))) : Int)]]) Tip.full]
        [AObj.cells
        [AV.str { data := List.toArray (Prod.fst (List.getD ns (Int.toNat i2) ([], []))) },
        AV.sl 2 (Seq.map T.encS ((0 : Int), (0 : Int)) (Prod.snd (List.getD ns (Int.toNat i2) ([], [])))) Tip.none],
        AObj.tok]
        fun (r : AV) (H' : List AObj) =>
        ∃ (x : List UInt8),
        r = AV.sl 1 (Seq.map encB (0 : UInt8) x) (Tip.tok 2) ∧
        H' =
        [AObj.cells
        [AV.str { data := List.toArray (Prod.fst (List.getD ns (Int.toNat i2) ([], []))) },
        AV.sl 2 (Seq.map T.encS ((0 : Int), (0 : Int)) (Prod.snd (List.getD ns (Int.toNat i2) ([], [])))) Tip.none],
        AObj.tok, AObj.tok] ∧
        AWP Try.prog 73 n_1 c184_13
        [(3, AV.sl 1 (Seq.map encB (0 : UInt8) x) (Tip.tok 2)), (22, AV.sl 2 (Seq.map T.encR ((0 : Int), []) rs) Tip.none),
        (23, AV.int IntKind.i64 n), (24, AV.int IntKind.i64 i), (37, AV.sl 2 (Seq.map T.encN ([], []) ns) Tip.none),
        (38, AV.int IntKind.i64 n2), (39, AV.int IntKind.i64 i2),
        (53, AV.sl 2 (Seq.map T.encS ((0 : Int), (0 : Int)) (Prod.snd (List.getD ns (Int.toNat i2) ([], [])))) Tip.none),
        (54, AV.int IntKind.i64 (↑(List.length (Prod.snd (List.getD ns (Int.toNat i2) ([], [])))) : Int)), (55, AV.int IntKind.i64 (0 : Int))]
        [AObj.cells
        [AV.str { data := List.toArray (Prod.fst (List.getD ns (Int.toNat i2) ([], []))) },
        AV.sl 2 (Seq.map T.encS ((0 : Int), (0 : Int)) (Prod.snd (List.getD ns (Int.toNat i2) ([], [])))) Tip.none],
        AObj.tok, AObj.tok]
        (q184_10 n_1 Post)))
      (AWP Try.prog 73 n_1 c184_5
        [(3, AV.sl 1 (Seq.map encB (0 : UInt8) b) Tip.none), (22, AV.sl 2 (Seq.map T.encR ((0 : Int), []) rs) Tip.none), (23, AV.int IntKind.i64 n),
        (24, AV.int IntKind.i64 (IntKind.wrap IntKind.i64 (i + (1 : Int))))]
        [] (q184_2 n_1 Post)) →
    AWP Try.prog 73 n_1 c184_9
      [(3, AV.sl 1 (Seq.map encB (0 : UInt8) b) Tip.none), (22, AV.sl 2 (Seq.map T.encR ((0 : Int), []) rs) Tip.none), (23, AV.int IntKind.i64 n),
        (24, AV.int IntKind.i64 i), (37, AV.sl 2 (Seq.map T.encN ([], []) ns) Tip.none), (38, AV.int IntKind.i64 n2), (39, AV.int IntKind.i64 i2)]
      [] (q184_6 n_1 Post) := fun b rs n i ns n2 i2 n Post h => Go.Ab.AWP.loop' g184 (Cfg.live g184) c184_9 (by kernel_rfl) (by kernel_rfl) (Go.Ab.kc (by kernel_rfl) h)
theorem v184_13 : ∀ (b : List UInt8) (rs : List T.Rel) (n i : Int) (ns : List T.Need) (n2 i2 : Int) (ss : List T.Span) (n3 i3 : Int) (n_1 : Nat) (Post : AV → List AObj → Prop),
  condP (decide (i3 < n3))
      (needP ((0 : Int) ≤ i3 ∧ i3 < (↑(List.length ss) : Int))
        (ASpec Try.prog 140
        [AV.sl 1 (Seq.map encB (0 : UInt8) b) Tip.none,
        AV.sl 1
        (Seq.raw
        [[AV.int IntKind.i64 (Prod.fst (List.getD ss (Int.toNat i3) ((0 : Int), (0 : Int))))],
        [AV.int IntKind.i64 (IntKind.wrap IntKind.i64 (Prod.snd (List.getD ss (Int.toNat i3) ((0 : Int), (0 : Int))) - Prod.fst (List.getD ss (Int.toNat i3) ((0 : Int), (0 : Int)))))]])
        Tip.full]
        [AObj.cells [AV.int IntKind.i64 (Prod.fst (List.getD ss (Int.toNat i3) ((0 : Int), (0 : Int)))), AV.int IntKind.i64 (Prod.snd (List.getD ss (Int.toNat i3) ((0 : Int), (0 : Int))))]]
        fun (r : AV) (H' : List AObj) =>
        ∃ (x : List UInt8),
        r = AV.sl 1 (Seq.map encB (0 : UInt8) x) (Tip.tok 1) ∧
        H' =
        [AObj.cells [AV.int IntKind.i64 (Prod.fst (List.getD ss (Int.toNat i3) ((0 : Int), (0 : Int)))), AV.int IntKind.i64 (Prod.snd (List.getD ss (Int.toNat i3) ((0 : Int), (0 : Int))))],
        AObj.tok] ∧
        AWP Try.prog 73 n_1 c184_13
        [(3, AV.sl 1 (Seq.map encB (0 : UInt8) x) (Tip.tok 1)), (22, AV.sl 2 (Seq.map T.encR ((0 : Int), []) rs) Tip.none),
        (23, AV.int IntKind.i64 n), (24, AV.int IntKind.i64 i), (37, AV.sl 2 (Seq.map T.encN ([], []) ns) Tip.none), (38, AV.int IntKind.i64 n2),
        (39, AV.int IntKind.i64 i2), (53, AV.sl 2 (Seq.map T.encS ((0 : Int), (0 : Int)) ss) Tip.none), (54, AV.int IntKind.i64 n3),
        (55, AV.int IntKind.i64 (IntKind.wrap IntKind.i64 (i3 + (1 : Int))))]
        [AObj.cells [AV.int IntKind.i64 (Prod.fst (List.getD ss (Int.toNat i3) ((0 : Int), (0 : Int)))), AV.int IntKind.i64 (Prod.snd (List.getD ss (Int.toNat i3) ((0 : Int), (0 : Int))))],
        AObj.tok]
        (q184_10 n_1 Post)))
      (AWP Try.prog 73 n_1 c184_9
        [(3, AV.sl 1 (Seq.map encB (0 : UInt8) b) Tip.none), (22, AV.sl 2 (Seq.map T.encR ((0 : Int), []) rs) Tip.none), (23, AV.int IntKind.i64 n),
        (24, AV.int IntKind.i64 i), (37, AV.sl 2 (Seq.map T.encN ([], []) ns) Tip.none), (38, AV.int IntKind.i64 n2),
        (39, AV.int IntKind.i64 (IntKind.wrap IntKind.i64 (i2 + (1 : Int))))]
        [] (q184_6 n_1 Post)) →
    AWP Try.prog 73 n_1 c184_13
      [(3, AV.sl 1 (Seq.map encB (0 : UInt8) b) Tip.none), (22, AV.sl 2 (Seq.map T.encR ((0 : Int), []) rs) Tip.none), (23, AV.int IntKind.i64 n),
        (24, AV.int IntKind.i64 i), (37, AV.sl 2 (Seq.map T.encN ([], []) ns) Tip.none), (38, AV.int IntKind.i64 n2), (39, AV.int IntKind.i64 i2),
        (53, AV.sl 2 (Seq.map T.encS ((0 : Int), (0 : Int)) ss) Tip.none), (54, AV.int IntKind.i64 n3), (55, AV.int IntKind.i64 i3)]
      [] (q184_10 n_1 Post) := fun b rs n i ns n2 i2 ss n3 i3 n Post h => Go.Ab.AWP.loop' g184 (Cfg.live g184) c184_13 (by kernel_rfl) (by kernel_rfl) (Go.Ab.kc (by kernel_rfl) h)

-- 264
end
end W
end

section
/- Manifests as bytes: what the code puts, and the document. -/

set_option linter.unusedVariables false
set_option linter.unusedSimpArgs false
set_option maxRecDepth 100000
open Go Go.Ab Go.Proofs V S T C
namespace W

def numB (x : Int) : List UInt8 := enc (held x)
def text (s : List UInt8) : List UInt8 := enc (held s.length) ++ s
def spanB (s : Span) : List UInt8 := numB s.1 ++ numB (IntKind.wrap .i64 (s.2 - s.1))
def needB (n : Need) : List UInt8 := text n.1 ++ numB n.2.length ++ n.2.flatMap spanB
def relB (r : Rel) : List UInt8 := numB r.1 ++ numB r.2.length ++ r.2.flatMap needB
def maniB (m : Mani) : List UInt8 := text m.1 ++ numB m.2.length ++ m.2.flatMap relB
def putMan (m : Mani) : List UInt8 := if manOk m = true then maniB m else []

theorem numB_len (x : Int) : (numB x).length ≤ 6 := enc_length _ (held_le _)
theorem text_len (s : List UInt8) : (text s).length ≤ s.length + 6 := by
  have := enc_length (held s.length) (held_le _)
  simp [text]; omega

theorem flat_len {α : Type} (f : α → List UInt8) (k : Nat) : ∀ (l : List α), (∀ x ∈ l, (f x).length ≤ k) → (l.flatMap f).length ≤ l.length * k
  | [], _ => by simp
  | x :: r, h => by
    have h1 := h x (by simp)
    have h2 := flat_len f k r (fun y hy => h y (by simp [hy]))
    rw [List.flatMap_cons, List.length_append, List.length_cons, Nat.add_mul]
    omega

theorem spanB_len (s : Span) : (spanB s).length ≤ 12 := by
  have h1 := numB_len s.1
  have h2 := numB_len (IntKind.wrap .i64 (s.2 - s.1))
  simp only [spanB, List.length_append]; omega

theorem needB_len {n : Need} (h1 : n.1.length ≤ 24) (h2 : n.2.length ≤ 6) : (needB n).length ≤ 108 := by
  have a := text_len n.1
  have b := numB_len n.2.length
  have c := flat_len spanB 12 n.2 (fun x _ => spanB_len x)
  have d : n.2.length * 12 ≤ 6 * 12 := Nat.mul_le_mul_right _ h2
  simp only [needB, List.length_append]; omega

theorem needsF_ok : ∀ (l : List Need) (last : List UInt8), needsF last l = true → ∀ n ∈ l, n.1.length ≤ 24 ∧ n.2.length ≤ 6 ∧ spanOk n.2 = true ∧ fitM n.1 = true
  | [], _, _, n, hn => by simp at hn
  | x :: r, last, h, n, hn => by
    simp only [needsF] at h
    split at h
    · cases h
    · rename_i hh
      rcases List.mem_cons.1 hn with rfl | hn
      · have hf : fitM n.1 = true := by
          cases hq : fitM n.1 with
          | true => rfl
          | false => exact (hh (.inl hq)).elim
        have hs : spanOk n.2 = true := by
          cases hq : spanOk n.2 with
          | true => rfl
          | false => exact (hh (.inr (.inr (.inr hq)))).elim
        exact ⟨fitM_short hf, by omega, hs, hf⟩
      · exact needsF_ok r _ h n hn

theorem needOk_ok {l : List Need} (h : needOk l = true) : l.length ≤ 6 ∧ ∀ n ∈ l, n.1.length ≤ 24 ∧ n.2.length ≤ 6 ∧ spanOk n.2 = true ∧ fitM n.1 = true := by
  unfold needOk at h
  rw [Bool.and_eq_true] at h
  exact ⟨of_decide_eq_true h.2, needsF_ok l _ h.1⟩

theorem relB_len {r : Rel} (h : needOk r.2 = true) : (relB r).length ≤ 660 := by
  obtain ⟨h1, h2⟩ := needOk_ok h
  have a := numB_len r.1
  have b := numB_len r.2.length
  have c := flat_len needB 108 r.2 (fun x hx => needB_len (h2 x hx).1 (h2 x hx).2.1)
  have d : r.2.length * 108 ≤ 6 * 108 := Nat.mul_le_mul_right _ h1
  simp only [relB, List.length_append]; omega

theorem relF_ok : ∀ (l : List Rel) (e : Int), relF e l = true → ∀ r ∈ l, needOk r.2 = true ∧ e < r.1 ∧ r.1 < 1000000000
  | [], _, _, n, hn => by simp at hn
  | x :: r, e, h, n, hn => by
    simp only [relF] at h
    split at h
    · cases h
    · rename_i hh
      rcases List.mem_cons.1 hn with rfl | hn
      · refine ⟨?_, by omega, by omega⟩
        cases hq : needOk n.2 with
        | true => rfl
        | false => exact (hh (.inr (.inr hq))).elim
      · have := relF_ok r _ h n hn
        exact ⟨this.1, by omega, this.2.2⟩

theorem manOk_ok {m : Mani} (h : manOk m = true) : fitM m.1 = true ∧ m.1.length ≤ 24 ∧ m.2.length ≤ 8 ∧ ∀ r ∈ m.2, needOk r.2 = true ∧ -1 < r.1 ∧ r.1 < 1000000000 := by
  unfold manOk at h
  rw [Bool.and_eq_true, Bool.and_eq_true] at h
  exact ⟨h.2.1, fitM_short h.2.1, of_decide_eq_true h.2.2, relF_ok _ _ h.1⟩

theorem maniB_len {m : Mani} (h : manOk m = true) : (maniB m).length ≤ 5316 := by
  obtain ⟨-, h1, h2, h3⟩ := manOk_ok h
  have a := text_len m.1
  have b := numB_len m.2.length
  have c := flat_len relB 660 m.2 (fun x hx => relB_len (h3 x hx).1)
  have d : m.2.length * 660 ≤ 8 * 660 := Nat.mul_le_mul_right _ h2
  simp only [maniB, List.length_append]; omega

theorem lenL {α : Type} {a c P : List α} (h : a ++ c = P) : a.length ≤ P.length := by rw [← h]; simp

theorem leTwo (a b : Int) : Le (.sl 1 (.raw [[.int .i64 a], [.int .i64 b]]) .full) (.sl 1 (.map encI 0 [a, b]) .none) := Le.sl rfl (.inl rfl) (.inr rfl)
theorem leTok {l : List UInt8} {t : Tip} : Le (.sl 1 (.map encB 0 l) t) (.sl 1 (.map encB 0 l) .none) := Le.sl rfl (.inl rfl) (.inr rfl)
theorem put1M (b : List UInt8) (x : Int) : putM b [x] = b ++ numB x := by simp [putM, numB]
theorem put2M (b : List UInt8) (x y : Int) : putM b [x, y] = b ++ (numB x ++ numB y) := by simp [putM, numB]

section
variable {Post : AV → List AObj → Prop}

abbrev sl1 (b : List UInt8) : AV := .sl 1 (.map encB 0 b) .none
noncomputable abbrev slR (l : List Rel) : AV := .sl 2 (.map T.encR (0, []) l) .none
noncomputable abbrev slN (l : List Need) : AV := .sl 2 (.map encN ([], []) l) .none
noncomputable abbrev slS (l : List Span) : AV := .sl 2 (.map encS (0, 0) l) .none

theorem p13 {rs : List Rel} {ns : List Need} {ss : List Span} {n i i2 : Int} {n2 : Int} (hs : ss.length ≤ lim) {P : List UInt8} (hP : P.length ≤ 100000)
    (k : AWP Try.prog 73 0 c184_9 [(3, sl1 P), (22, slR rs), (23, .int .i64 n), (24, .int .i64 i), (37, slN ns), (38, .int .i64 n2), (39, .int .i64 (IntKind.wrap .i64 (i2 + 1)))] [] (q184_6 0 Post)) :
    ∀ (m j : Nat) (b : List UInt8), m + j = ss.length → b ++ (ss.drop j).flatMap spanB = P →
    AWP Try.prog 73 0 c184_13 [(3, sl1 b), (22, slR rs), (23, .int .i64 n), (24, .int .i64 i), (37, slN ns), (38, .int .i64 n2), (39, .int .i64 i2), (53, slS ss), (54, .int .i64 ss.length), (55, .int .i64 j)] [] (q184_10 0 Post) := by
  unfold lim at hs
  intro m
  induction m with
  | zero =>
    intro j b hm h
    refine v184_13 _ _ _ _ _ _ _ _ _ _ _ _ (condD (fun hc => by omega) fun _ => ?_)
    rw [List.drop_eq_nil_of_le (by omega)] at h
    simp only [List.flatMap_nil, List.append_nil] at h
    subst h; exact k
  | succ m ih =>
    intro j b hm h
    have hbl : b.length ≤ P.length := lenL h
    rw [dropD ss (0, 0) j (by omega), List.flatMap_cons, ← List.append_assoc] at h
    refine v184_13 _ _ _ _ _ _ _ _ _ _ _ _ (condD (fun hc => needJ ⟨by omega, by omega⟩ ?_) fun hc => by omega)
    rw [Int.toNat_natCast]
    generalize ss.getD j (0, 0) = x at h ⊢
    refine put_spec' (bs := b) (ns := [x.1, IntKind.wrap .i64 (x.2 - x.1)]) ⟨Le.refl _, leTwo _ _, trivial⟩ (by unfold big; simp; omega) ⟨_, rfl, rfl, ?_⟩
    rw [put2M]
    rw [succ64 (by omega)]
    exact AWP.shape [] [(3, sl1 (b ++ spanB x)), (22, slR rs), (23, .int .i64 n), (24, .int .i64 i), (37, slN ns), (38, .int .i64 n2), (39, .int .i64 i2), (53, slS ss), (54, .int .i64 ss.length), (55, .int .i64 (j + 1 : Nat))] [] Sel.none
      ⟨rfl, sealLe _ rfl, rfl, Le.refl _, rfl, Le.refl _, rfl, Le.refl _, rfl, Le.refl _, rfl, Le.refl _, rfl, Le.refl _, rfl, Le.refl _, rfl, Le.refl _, rfl, Le.refl _, trivial⟩ (ih (j + 1) _ (by omega) h)

theorem p9 {rs : List Rel} {ns : List Need} {n i : Int} (hs : ∀ x ∈ ns, x.2.length ≤ lim ∧ x.1.length ≤ lim) (hn : ns.length ≤ lim) {P : List UInt8} (hP : P.length ≤ 100000)
    (k : AWP Try.prog 73 0 c184_5 [(3, sl1 P), (22, slR rs), (23, .int .i64 n), (24, .int .i64 (IntKind.wrap .i64 (i + 1)))] [] (q184_2 0 Post)) :
    ∀ (m j : Nat) (b : List UInt8), m + j = ns.length → b ++ (ns.drop j).flatMap needB = P →
    AWP Try.prog 73 0 c184_9 [(3, sl1 b), (22, slR rs), (23, .int .i64 n), (24, .int .i64 i), (37, slN ns), (38, .int .i64 ns.length), (39, .int .i64 j)] [] (q184_6 0 Post) := by
  unfold lim at hs hn
  intro m
  induction m with
  | zero =>
    intro j b hm h
    refine v184_9 _ _ _ _ _ _ _ _ _ (condD (fun hc => by omega) fun _ => ?_)
    rw [List.drop_eq_nil_of_le (by omega)] at h
    simp only [List.flatMap_nil, List.append_nil] at h
    subst h; exact k
  | succ m ih =>
    intro j b hm h
    have hbl : b.length ≤ P.length := lenL h
    have hx := hs _ (memD ns ([], []) j (by omega))
    rw [dropD ns ([], []) j (by omega), List.flatMap_cons, ← List.append_assoc] at h
    refine v184_9 _ _ _ _ _ _ _ _ _ (condD (fun hc => needJ ⟨by omega, by omega⟩ ?_) fun hc => by omega)
    rw [Int.toNat_natCast]
    generalize ns.getD j ([], []) = x at h hx ⊢
    have hb2 : (b ++ needB x).length ≤ P.length := lenL h
    have hb3 : (b ++ text x.1).length ≤ (b ++ needB x).length := by simp [needB]
    have etx : b ++ enc (held x.1.length) ++ x.1 = b ++ text x.1 := by simp [text]
    refine ASpec.call (text_spec b x.1 (by unfold big; omega) _) (Les.refl _) ⟨b ++ text x.1, by rw [etx]; rfl, rfl, ⟨rfl, rfl⟩, ⟨rfl, rfl⟩, ?_⟩
    refine put_spec' (bs := b ++ text x.1) (ns := [(x.2.length : Int)]) ⟨leTok, leOne _, trivial⟩ (by unfold big; simp only [List.length_cons, List.length_nil]; omega) ⟨_, rfl, rfl, ?_⟩
    rw [put1M]
    refine AWP.shape [] [(3, sl1 (b ++ text x.1 ++ numB x.2.length)), (22, slR rs), (23, .int .i64 n), (24, .int .i64 i), (37, slN ns), (38, .int .i64 ns.length), (39, .int .i64 j), (53, slS x.2), (54, .int .i64 x.2.length), (55, .int .i64 (0 : Nat))] [] Sel.none
      ⟨rfl, sealLe _ rfl, rfl, Le.refl _, rfl, Le.refl _, rfl, Le.refl _, rfl, Le.refl _, rfl, Le.refl _, rfl, Le.refl _, rfl, Le.refl _, rfl, Le.refl _, rfl, Le.refl _, trivial⟩ ?_
    refine p13 (P := b ++ needB x) (by unfold lim; omega) (by omega) ?_ x.2.length 0 _ (by omega) (by simp [needB])
    rw [succ64 (by omega)]
    exact ih (j + 1) _ (by omega) h

theorem p5 {rs : List Rel} (hs : ∀ r ∈ rs, okN r.2) (hn : rs.length ≤ lim) {P : List UInt8} (hP : P.length ≤ 100000) (h : Post (sl1 P) []) :
    ∀ (m j : Nat) (b : List UInt8), m + j = rs.length → b ++ (rs.drop j).flatMap relB = P →
    AWP Try.prog 73 0 c184_5 [(3, sl1 b), (22, slR rs), (23, .int .i64 rs.length), (24, .int .i64 j)] [] (q184_2 0 Post) := by
  unfold lim at hn
  intro m
  induction m with
  | zero =>
    intro j b hm hb
    refine v184_5 _ _ _ _ _ _ (condD (fun hc => by omega) fun _ => ?_)
    rw [List.drop_eq_nil_of_le (by omega)] at hb
    simp only [List.flatMap_nil, List.append_nil] at hb
    subst hb; exact h
  | succ m ih =>
    intro j b hm hb
    have hbl : b.length ≤ P.length := lenL hb
    have hx := hs _ (memD rs (0, []) j (by omega))
    rw [dropD rs (0, []) j (by omega), List.flatMap_cons, ← List.append_assoc] at hb
    refine v184_5 _ _ _ _ _ _ (condD (fun hc => needJ ⟨by omega, by omega⟩ ?_) fun hc => by omega)
    rw [Int.toNat_natCast]
    generalize rs.getD j (0, []) = x at hb hx ⊢
    have hb2 : (b ++ relB x).length ≤ P.length := lenL hb
    refine put_spec' (bs := b) (ns := [x.1, (x.2.length : Int)]) ⟨Le.refl _, leTwo _ _, trivial⟩ (by unfold big; simp; omega) ⟨_, rfl, rfl, ?_⟩
    rw [put2M]
    refine AWP.shape [] [(3, sl1 (b ++ (numB x.1 ++ numB x.2.length))), (22, slR rs), (23, .int .i64 rs.length), (24, .int .i64 j), (37, slN x.2), (38, .int .i64 x.2.length), (39, .int .i64 (0 : Nat))] [] Sel.none
      ⟨rfl, sealLe _ rfl, rfl, Le.refl _, rfl, Le.refl _, rfl, Le.refl _, rfl, Le.refl _, rfl, Le.refl _, rfl, Le.refl _, trivial⟩ ?_
    refine p9 (P := b ++ relB x) (fun y hy => ⟨(hx.2 y hy).2, (hx.2 y hy).1⟩) hx.1 (by omega) ?_ x.2.length 0 _ (by omega) (by simp [relB])
    rw [succ64 (by omega)]
    exact ih (j + 1) _ (by omega) hb

theorem put_spec (m : Mani) (hm : okM m) (H : List AObj) : ASpec Try.prog 184 [.agg (encM m)] H (fun r H' => r = sl1 (putMan m) ∧ H' = H) := by
  have k : ASpec Try.prog 184 [.agg (encM m)] [] (fun r H' => r = sl1 (putMan m) ∧ H' = []) := by
    obtain ⟨hm1, hm2, hm3⟩ := hm
    unfold lim at hm1 hm2
    refine ASpec.sel (s184 _ _ (ASpec.call (maniCheck_spec m ⟨hm1, hm2, hm3⟩ _) (Les.refl _) ⟨_, rfl, rfl, condBn (fun h => ?_) fun h => ?_⟩))
    · refine ⟨[], [], sl1 [], Sel.none, Le.sl (s' := Seq.ren _ (.map encB 0 [])) rfl (.inr ⟨rfl, fun _ h => by cases h⟩) (.inr rfl), ?_, rfl⟩
      rw [putMan, if_neg (by rw [h]; simp)]
    have hlen := maniB_len h
    have hb3 : (text m.1).length ≤ (maniB m).length := by simp [maniB] <;> omega
    have etx : ([] : List UInt8) ++ enc (held m.1.length) ++ m.1 = text m.1 := by simp [text]
    refine ASpec.call (text_spec [] m.1 (by unfold big; simp; omega) _) ⟨leNil, Le.refl _, trivial⟩ ⟨text m.1, by rw [etx]; rfl, rfl, ⟨rfl, rfl⟩, ⟨rfl, rfl⟩, ?_⟩
    refine put_spec' (bs := text m.1) (ns := [(m.2.length : Int)]) ⟨leTok, leOne _, trivial⟩ (by unfold big; simp only [List.length_cons, List.length_nil]; omega) ⟨_, rfl, rfl, ?_⟩
    rw [put1M]
    refine AWP.shape [] [(3, sl1 (text m.1 ++ numB m.2.length)), (22, slR m.2), (23, .int .i64 m.2.length), (24, .int .i64 (0 : Nat))] [] Sel.none
      ⟨rfl, sealLe _ rfl, rfl, Le.refl _, rfl, Le.refl _, rfl, Le.refl _, trivial⟩ ?_
    refine p5 (P := maniB m) hm3 hm2 (by omega) ?_ m.2.length 0 _ (by omega) (by simp [maniB])
    refine ⟨[], [], sl1 (putMan m), Sel.none, ?_, rfl, rfl⟩
    rw [putMan, if_pos h]
    exact sealLe _ rfl
  exact ASpec.pureH H k _ _ rfl rfl

/-! ### the document's -/

end
end W
end

section
/- Manifests out of bytes: what the code reads. -/

set_option linter.unusedVariables false
set_option linter.unusedSimpArgs false
set_option maxRecDepth 100000
open Go Go.Ab Go.Proofs V S T C
namespace W

/-! ### the model -/

def spanR (bs : List UInt8) (p : Nat) (e : Int) : Span × Nat × Int :=
  (((numM bs p e 1000000000).1, IntKind.wrap .i64 ((numM bs p e 1000000000).1 + (numM bs (numM bs p e 1000000000).2.1 (numM bs p e 1000000000).2.2 1000000000).1)),
    (numM bs (numM bs p e 1000000000).2.1 (numM bs p e 1000000000).2.2 1000000000).2)

def listR {α : Type} (one : Nat → Int → α × Nat × Int) : Nat → Nat → Int → List α × Nat × Int
  | 0, p, e => ([], p, e)
  | k + 1, p, e => if e = 0 then ((one p e).1 :: (listR one k (one p e).2.1 (one p e).2.2).1, (listR one k (one p e).2.1 (one p e).2.2).2) else ([], p, e)

def listM {α : Type} (one : Nat → Int → α × Nat × Int) (bs : List UInt8) (p : Nat) (e most : Int) : List α × Nat × Int :=
  listR one (numM bs p e most).1.toNat (numM bs p e most).2.1 (numM bs p e most).2.2

def needR (bs : List UInt8) (p : Nat) (e : Int) : Need × Nat × Int :=
  (((strM bs p e 24).1, (listM (spanR bs) bs (strM bs p e 24).2.1 (strM bs p e 24).2.2 6).1), (listM (spanR bs) bs (strM bs p e 24).2.1 (strM bs p e 24).2.2 6).2)

theorem lookM_most (s : List UInt8) (most : Int) (h : 0 ≤ most) : (lookM s most).1 ≤ most := by
  cases s with
  | nil => simpa [lookM] using h
  | cons c s =>
    simp only [lookM]
    split
    · exact h
    · split
      · exact h
      · split
        · exact h
        · simp only; omega

theorem numM_most (bs : List UInt8) (p : Nat) (e most : Int) (h : 0 ≤ most) : 0 ≤ (numM bs p e most).1 ∧ (numM bs p e most).1 ≤ most := by
  unfold numM
  split
  · exact ⟨Int.le_refl _, h⟩
  · exact ⟨(lookM_le _ _).2.1, lookM_most _ _ h⟩

theorem numM_p {bs : List UInt8} {p : Nat} {e most : Int} (hp : p ≤ bs.length) : (numM bs p e most).2.1 ≤ bs.length := (num_doc bs p e most hp).2
theorem strM_p {bs : List UInt8} {p : Nat} {e most : Int} (hp : p ≤ bs.length) : (strM bs p e most).2.1 ≤ bs.length := (str_doc bs p e most hp).2

/-- one keeps its place in the bytes -/
def Inside {α : Type} (bs : List UInt8) (one : Nat → Int → α × Nat × Int) : Prop := ∀ p e, p ≤ bs.length → (one p e).2.1 ≤ bs.length

theorem listR_p {α : Type} {bs : List UInt8} {one : Nat → Int → α × Nat × Int} (h : Inside bs one) : ∀ (k p : Nat) (e : Int), p ≤ bs.length → (listR one k p e).2.1 ≤ bs.length
  | 0, p, e, hp => hp
  | k + 1, p, e, hp => by
    simp only [listR]
    split
    · exact listR_p h k _ _ (h p e hp)
    · exact hp

theorem listM_p {α : Type} {bs : List UInt8} {one : Nat → Int → α × Nat × Int} (h : Inside bs one) {p : Nat} {e most : Int} (hp : p ≤ bs.length) : (listM one bs p e most).2.1 ≤ bs.length :=
  listR_p h _ _ _ (numM_p hp)

theorem spanR_p (bs : List UInt8) : Inside bs (spanR bs) := fun p e hp => numM_p (numM_p hp)
theorem needR_p (bs : List UInt8) : Inside bs (needR bs) := fun p e hp => listM_p (spanR_p bs) (strM_p hp)
/-! ### the walk -/

section
variable {bs : List UInt8} {p : Nat} {e : Int}

end

end W
end

section
/- WirePuts: the bytes of any manifest, and the manifest of any bytes, or what is wrong first, are the document's: the law's function returns true. -/

set_option linter.unusedVariables false
set_option linter.unusedSimpArgs false
set_option maxRecDepth 100000
open Go Go.Ab Go.Proofs V S T C
namespace W

/-! ### the document's model -/

/-! ### it is the code's -/

/-! ### the document's walk -/

section
variable {Post : AV → List AObj → Prop}

/-! ### are they alike? -/

theorem cons_dec {α : Type} [DecidableEq α] (x y : α) (a b : List α) : decide (x :: a = y :: b) = (decide (x = y) && decide (a = b)) := by
  rw [Bool.eq_iff_iff]; simp

/-! ### the law -/

end
end W
end

section
/- Events: which may be, and which are alike. -/

set_option linter.unusedVariables false
set_option linter.unusedSimpArgs false
set_option maxRecDepth 100000
open Go Go.Ab Go.Proofs V S T C
open W (sl1 slS slN slR cons_dec)
namespace E

/-- the answer r0, whatever lies in the heap -/
abbrev PA (r0 : AV) : AV → List AObj → Prop := fun r H' => ∃ l H2 r2, Sel 0 l H' H2 ∧ Le r (AV.ren (selR l H'.length) r2) ∧ (r2 = r0 ∧ H2 = [])
theorem pa {r r0 : AV} {H' : List AObj} (h : Le r (AV.ren (selR [] H'.length) r0)) : PA r0 r H' := ⟨[], [], r0, Sel.none, h, rfl, rfl⟩

/-! ### alike -/

/-! ### which may be -/

/-- of a kind, the needs' number, the ticks, the ticket, the body's length -/
def evP (k : Int) (A : Nat) (t n : Int) (B : Nat) : Prop := (0 ≤ t ∧ t ≤ 1099511627776) ∧ (k ≠ 1 → A = 0 ∧ t = 0) ∧ ((k = 3 ∨ k = 4) → 1 ≤ n ∧ n ≤ 1099511627776 ∧ B ≤ 9000 ∧ (k = 3 ∨ B = 0)) ∧ (¬ (k = 3 ∨ k = 4) → n = 0 ∧ B = 0 ∧ (k = 1 ∨ k = 2))
instance (k : Int) (A : Nat) (t n : Int) (B : Nat) : Decidable (evP k A t n B) := by unfold evP; infer_instance
section
variable {e : Ev}
end

/-! ### are they large? -/

/-! ### the example -/

end E
end

section
/- What was put of a manifest is read; what is read is put so. -/

set_option linter.unusedVariables false
set_option linter.unusedSimpArgs false
set_option maxRecDepth 100000
open Go Go.Ab Go.Proofs V S T C
namespace W

/-! ### what was put is read -/

/-! ### what is read is put so -/

/-! ### the law -/

section
variable {Post : AV → List AObj → Prop}

end
end W
end

section
/- Events out of bytes: what the code reads. -/

set_option linter.unusedVariables false
set_option linter.unusedSimpArgs false
set_option maxRecDepth 100000
open Go Go.Ab Go.Proofs V S T C
open W (sl1 slS slN slR cons_dec listR listM needR spanR numM_p strM_p numM_most listM_p needR_p spanR_p Inside)
open EB (v284_3 v284_7 c284_3 c284_7 q284_2 q284_7)
namespace E

/-! ### the model -/

/-! ### needs -/

section
variable {bs : List UInt8} {p : Nat} {e : Int} {Post : AV → List AObj → Prop}

theorem n7 {acc : List Need} {n : Int} {nm : List UInt8} (hb : bs.length ≤ big) (ha : acc.length ≤ 100) {R : Need × Nat × Int}
    (K : AWP Try.prog 51 1 c284_3 [(0, .ptr 0 0), (3, .sl 2 (.map encN ([], []) (acc ++ [R.1])) (.tok 1)), (4, .int .i64 (IntKind.wrap .i64 (n - 1)))] [rd bs R.2.1 R.2.2, .tok] (q284_2 1 Post)) :
    ∀ (k p : Nat) (e : Int) (sp : List Span), p ≤ bs.length → sp.length + k ≤ 100 → R = ((nm, sp ++ (listR (spanR bs) k p e).1), (listR (spanR bs) k p e).2) →
    AWP Try.prog 51 1 c284_7 [(0, .ptr 0 0), (3, .sl 2 (.map encN ([], []) acc) (.tok 1)), (4, .int .i64 n), (5, .ptr 2 0), (6, .int .i64 k)]
      [rd bs p e, .tok, .cells [.str (B nm), .sl 2 (.map encS (0, 0) sp) (.tok 3)], .tok] (q284_7 1 Post) := by
  have fin : ∀ (p : Nat) (e : Int) (sp : List Span), R = ((nm, sp), p, e) →
      AWP Try.prog 51 1 c284_3 [(0, .ptr 0 0), (3, .sl 2 (.app (.map encN ([], []) acc) (.raw [[.str (B nm), .sl 2 (.map encS (0, 0) sp) (.tok 3)]])) (.tok 4)), (4, .int .i64 (IntKind.wrap .i64 (n - 1)))]
        [rd bs p e, .gone, .cells [.str (B nm), .sl 2 (.map encS (0, 0) sp) (.tok 3)], .tok, .tok] (q284_2 1 Post) := by
    intro p e sp hR
    subst hR
    refine AWP.shape [0, 4] [(0, .ptr 0 0), (3, .sl 2 (.map encN ([], []) (acc ++ [(nm, sp)])) (.tok 1)), (4, .int .i64 (IntKind.wrap .i64 (n - 1)))] [rd bs p e, .tok] ?_ ⟨rfl, Le.refl _, rfl, ?_, rfl, Le.refl _, trivial⟩ K
    · refine ⟨by decide, rfl, by decide, fun i hi => ?_, fun i hi => .inl ?_⟩
      · match i, hi with
        | 0, _ => rfl
      · match i, hi with
        | 0, _ | 1, _ => rfl
    · exact Le.trans (leAppE (x := (nm, sp)) ⟨Le.refl _, Le.sl rfl (.inl rfl) (.inr rfl), trivial⟩) (Le.refl _)
  intro k
  induction k with
  | zero =>
    intro p e sp hp hs hR
    refine v284_7 _ _ _ _ _ _ _ _ _ _ (condD (fun hc => by omega) fun _ => needJ (by omega) ?_)
    simp only [listR, List.append_nil] at hR
    exact fin p e sp hR
  | succ k ih =>
    intro p e sp hp hs hR
    refine v284_7 _ _ _ _ _ _ _ _ _ _ (condD (fun _ => ?_) fun hc => by omega)
    refine ASpec.call (err_spec (H := [rd bs p e, .tok, .cells [.str (B nm), .sl 2 (.map encS (0, 0) sp) (.tok 3)], .tok]) (id := 0) (bs := bs) (p := p) (e := e) rfl) (Les.refl _) ⟨e, rfl, rfl, condE (fun he => ?_) fun he => needJ (by omega) ?_⟩
    · have h1 := numM_p (e := e) (most := 1000000000) hp
      refine ASpec.call (num_spec (H := [rd bs p e, .tok, .cells [.str (B nm), .sl 2 (.map encS (0, 0) sp) (.tok 3)], .tok]) (id := 0) (bs := bs) (p := p) (e := e) 1000000000 hb hp rfl) (Les.refl _)
        ⟨((numM bs p e 1000000000).1, ((numM bs p e 1000000000).2.1 : Nat), (numM bs p e 1000000000).2.2), rfl, rfl, ?_⟩
      refine ASpec.call (num_spec (H := [rd bs (numM bs p e 1000000000).2.1 (numM bs p e 1000000000).2.2, .tok, .cells [.str (B nm), .sl 2 (.map encS (0, 0) sp) (.tok 3)], .tok]) (id := 0) (bs := bs) (p := (numM bs p e 1000000000).2.1) (e := (numM bs p e 1000000000).2.2) 1000000000 hb h1 rfl) (Les.refl _)
        ⟨((numM bs (numM bs p e 1000000000).2.1 (numM bs p e 1000000000).2.2 1000000000).1, ((numM bs (numM bs p e 1000000000).2.1 (numM bs p e 1000000000).2.2 1000000000).2.1 : Nat), (numM bs (numM bs p e 1000000000).2.1 (numM bs p e 1000000000).2.2 1000000000).2.2), rfl, rfl, ⟨rfl, rfl⟩, needJ (by omega) ?_⟩
      refine AWP.re (ReSt.leCell (id := 2) (cs' := [.str (B nm), .sl 2 (.map encS (0, 0) (sp ++ [(spanR bs p e).1])) (.tok 4)]) rfl ⟨Le.refl _, leAppE (Les.refl _), trivial⟩) ?_
      rw [show IntKind.wrap .i64 (((k + 1 : Nat) : Int) - 1) = (k : Int) by rw [wrap64 (by omega) (by omega)]; omega]
      refine AWP.shape [0, 1, 2, 4] [(0, .ptr 0 0), (3, .sl 2 (.map encN ([], []) acc) (.tok 1)), (4, .int .i64 n), (5, .ptr 2 0), (6, .int .i64 k)]
        [rd bs (spanR bs p e).2.1 (spanR bs p e).2.2, .tok, .cells [.str (B nm), .sl 2 (.map encS (0, 0) (sp ++ [(spanR bs p e).1])) (.tok 3)], .tok] ?_
        ⟨rfl, Le.refl _, rfl, Le.refl _, rfl, Le.refl _, rfl, Le.refl _, rfl, Le.refl _, trivial⟩ (ih _ _ _ (spanR_p bs p e hp) (by simp; omega) ?_)
      · refine ⟨by decide, rfl, by decide, fun i hi => ?_, fun i hi => .inl ?_⟩
        · match i, hi with
          | 0, _ => rfl
        · match i, hi with
          | 0, _ | 1, _ | 2, _ | 3, _ => rfl
      · rw [hR]; simp only [listR, if_pos he]; simp
    · simp only [listR, if_neg he, List.append_nil] at hR
      exact fin p e sp hR

theorem n3 (hb : bs.length ≤ big) : ∀ (k p : Nat) (e : Int) (acc : List Need), p ≤ bs.length → acc.length + k ≤ 100 →
    Post (.sl 2 (.map encN ([], []) (acc ++ (listR (needR bs) k p e).1)) (.tok 1)) [rd bs (listR (needR bs) k p e).2.1 (listR (needR bs) k p e).2.2, .tok] →
    AWP Try.prog 51 1 c284_3 [(0, .ptr 0 0), (3, .sl 2 (.map encN ([], []) acc) (.tok 1)), (4, .int .i64 k)] [rd bs p e, .tok] (q284_2 1 Post) := by
  intro k
  induction k with
  | zero =>
    intro p e acc hp ha h
    refine v284_3 _ _ _ _ _ _ _ (condD (fun hc => by omega) fun _ => ?_)
    simp only [listR, List.append_nil] at h
    exact h
  | succ k ih =>
    intro p e acc hp ha h
    refine v284_3 _ _ _ _ _ _ _ (condD (fun _ => ?_) fun hc => by omega)
    refine ASpec.call (err_spec (H := [rd bs p e, .tok]) (id := 0) (bs := bs) (p := p) (e := e) rfl) (Les.refl _) ⟨e, rfl, rfl, condE (fun he => ?_) fun he => ?_⟩
    · have h1 := strM_p (e := e) (most := 24) hp
      have h2 := numM_most bs (strM bs p e 24).2.1 (strM bs p e 24).2.2 6 (by omega)
      refine ASpec.call (str_spec (H := [rd bs p e, .tok]) (id := 0) (bs := bs) (p := p) (e := e) 24 hb hp rfl) (Les.refl _) ⟨(B (strM bs p e 24).1, ((strM bs p e 24).2.1 : Nat), (strM bs p e 24).2.2), rfl, rfl, ?_⟩
      refine ASpec.call (num_spec (H := [rd bs (strM bs p e 24).2.1 (strM bs p e 24).2.2, .tok, .cells [.str (B (strM bs p e 24).1), .sl 0 (.raw []) .nil]]) (id := 0) (bs := bs) (p := (strM bs p e 24).2.1) (e := (strM bs p e 24).2.2) 6 hb h1 rfl) (Les.refl _)
        ⟨((numM bs (strM bs p e 24).2.1 (strM bs p e 24).2.2 6).1, ((numM bs (strM bs p e 24).2.1 (strM bs p e 24).2.2 6).2.1 : Nat), (numM bs (strM bs p e 24).2.1 (strM bs p e 24).2.2 6).2.2), rfl, rfl, ?_⟩
      refine AWP.re (ReSt.tokCell (id := 2) (j := 1) (q' := .map encS (0, 0) []) (sz' := 2) rfl rfl (.inl rfl) rfl (.inr rfl)) ?_
      obtain ⟨c, hc⟩ := Int.eq_ofNat_of_zero_le h2.1
      rw [hc]
      refine n7 (nm := (strM bs p e 24).1) hb (by omega) (R := needR bs p e) ?_ c _ _ [] (numM_p h1) (by simp; omega) ?_
      · rw [show IntKind.wrap .i64 (((k + 1 : Nat) : Int) - 1) = (k : Int) by rw [wrap64 (by omega) (by omega)]; omega]
        refine ih _ _ _ (needR_p bs p e hp) (by simp; omega) ?_
        simp only [listR, if_pos he] at h
        simpa using h
      · simp only [needR, listM, hc]; rfl
    · simp only [listR, if_neg he, List.append_nil] at h
      exact h

/-! ### one event -/

end
end E
end

section
/- Events as bytes and back: plain laws. -/

set_option linter.unusedVariables false
set_option linter.unusedSimpArgs false
set_option maxRecDepth 100000
open Go Go.Ab Go.Proofs V S T C
open W (numB text spanB needB needR listM listR numM_most numM_p strM_p needOk_ok numB_len text_len needB_len flat_len)
namespace E

end E
end

section
/- Events out of bytes: the document's reader. -/

set_option linter.unusedVariables false
set_option linter.unusedSimpArgs false
set_option maxRecDepth 100000
open Go Go.Ab Go.Proofs V S T C
open W (sl1 slS slN needR_p spanR_p listR listM Inside)
namespace E

/-! ### the document's model -/

/-! ### the walk -/

section
variable {Post : AV → List AObj → Prop}

end
end E
end

section
/- Steps of a proof: which may be. -/

set_option linter.unusedVariables false
set_option linter.unusedSimpArgs false
set_option maxRecDepth 100000
open Go Go.Ab Go.Proofs V S T C
open Pf (s226 v226_2 v226_3 c226_2 c226_3 q226_0 s123 v123_4 c123_4 q123_2 s18 v18_4 c18_4 q18_2)
namespace Pr

instance decSt : DecidableEq St := fun a b => instDecidableEqProd a b
noncomputable abbrev agS (x : St) : AV := .agg (encSt x)
noncomputable abbrev slP (l : List St) : AV := .sl 6 (.map encSt noSt l) .none

/-- may a step be, of a number? -/
def mayM (x : St) (i : Int) : Bool := fitM x.2.1 &&
  (if x.1 = 1 ∨ x.1 = 2 then decide (x.2.2.2.1 = [] ∧ x.2.2.1 = 0 ∧ x.2.2.2.2.1 = 0 ∧ x.2.2.2.2.2 = 0)
   else if x.1 = 3 then fitM x.2.2.2.1 && decide (0 ≤ x.2.2.1 ∧ x.2.2.1 < 1000000000 ∧ x.2.2.2.2.1 = 0 ∧ x.2.2.2.2.2 = 0)
   else if x.1 = 4 then decide (x.2.2.2.1 = [] ∧ x.2.2.1 = 0 ∧ 0 ≤ x.2.2.2.2.1 ∧ x.2.2.2.2.1 < i ∧ 0 ≤ x.2.2.2.2.2 ∧ x.2.2.2.2.2 < i) else false)

def okS (x : St) : Prop := x.2.1.length ≤ lim ∧ x.2.2.2.1.length ≤ lim

theorem may3 {x : St} (hx : okS x) {i : Int} {p q : Bool} (hp : p = decide (x.2.2.2.1 = [] ∧ x.2.2.1 = 0)) (hq : q = decide (x.2.2.2.2.1 = 0 ∧ x.2.2.2.2.2 = 0)) :
    AWP Try.prog 85 0 c226_3 [(1, .int .i64 i), (2, .ptr 0 0), (5, .bool p), (6, .bool q)] [.cells (encSt x)] (q226_0 0 (PB (mayM x i))) := by
  obtain ⟨h1, h2⟩ := hx
  unfold lim at h1 h2
  obtain ⟨k, nm, v, to, a, b⟩ := x
  simp only at h1 h2 hp hq
  refine v226_3 _ _ _ _ _ _ ?_
  simp only
  repeat' (first
    | refine condE (fun _ => ?_) fun _ => ?_
    | refine condD (fun _ => ?_) fun _ => ?_
    | refine ASpec.call (fit_spec (l := nm) (by unfold big; omega) _) (Les.refl _) ⟨_, rfl, rfl, ?_⟩
    | refine ASpec.call (fit_spec (l := to) (by unfold big; omega) _) (Les.refl _) ⟨_, rfl, rfl, ?_⟩
    | refine condB (fun _ => ?_) fun _ => ?_)
  all_goals (refine pb ?_; simp_all [mayM])
  all_goals first | (intros; omega) | skip
  rename_i h
  rw [Bool.eq_iff_iff]
  simp only [Bool.and_eq_true, decide_eq_true_eq]
  by_cases hab : a < b
  · rw [if_pos hab]; rw [if_neg (by omega)] at h; omega
  · rw [if_neg hab]
    by_cases hba : b < a
    · rw [if_pos hba] at h; omega
    · rw [if_neg hba] at h; omega

theorem may_spec (x : St) (hx : okS x) (i : Int) (H : List AObj) : ASpec Try.prog 226 [agS x, .int .i64 i] H (fun r H' => r = .bool (mayM x i) ∧ H' = H) := by
  have k : ASpec Try.prog 226 [agS x, .int .i64 i] [] (fun r H' => r = .bool (mayM x i) ∧ H' = []) := by
    have m2 : ∀ p, p = decide (x.2.2.2.1 = [] ∧ x.2.2.1 = 0) → AWP Try.prog 85 0 c226_2 [(1, .int .i64 i), (2, .ptr 0 0), (5, .bool p)] [.cells (encSt x)] (q226_0 0 (PB (mayM x i))) := fun p hp =>
      v226_2 _ _ _ _ _ (condE (fun h => may3 hx hp (by rw [Bool.eq_iff_iff]; simp [h])) fun h => may3 hx hp (by simp [h]))
    exact ASpec.sel (s226 _ _ _ (condS (b := []) (fun h => m2 _ (by rw [Bool.eq_iff_iff]; simp [h])) fun h => m2 _ (by simp [h])))
  exact ASpec.pureH H k _ _ rfl rfl

/-- may each step be, of its number? -/
def chkF (i : Nat) : List St → Bool
  | [] => true
  | x :: r => mayM x i && chkF (i + 1) r
def checkM (l : List St) : Bool := decide (1 ≤ l.length ∧ l.length ≤ 1048576) && chkF 0 l

theorem check4 {l : List St} {c : Bool} (hl : l.length ≤ 1048576) (hk : ∀ x ∈ l, okS x) : ∀ (m i : Nat), m + i = l.length → chkF i (l.drop i) = c →
    AWP Try.prog 25 0 c123_4 [(13, slP l), (14, .int .i64 l.length), (15, .int .i64 i)] [] (q123_2 0 (PB c)) := by
  intro m
  induction m with
  | zero =>
    intro i hm h
    refine v123_4 _ _ _ _ _ (condD (fun hc => by omega) fun _ => pb ?_)
    rw [List.drop_eq_nil_of_le (by omega)] at h
    exact h
  | succ m ih =>
    intro i hm h
    have hx := hk _ (memD l noSt i (by omega))
    rw [dropD l noSt i (by omega)] at h
    simp only [chkF] at h
    refine v123_4 _ _ _ _ _ (condD (fun hc => needJ ⟨by omega, by omega⟩ ?_) fun hc => by omega)
    rw [Int.toNat_natCast]
    generalize l.getD i noSt = x at h hx ⊢
    refine ASpec.call (may_spec x hx i _) (Les.refl _) ⟨_, rfl, rfl, condBn (fun h1 => pb ?_) fun h1 => ?_⟩
    · rw [h1] at h; exact h
    · rw [h1, Bool.true_and] at h
      rw [succ64 (by omega)]
      exact AWP.shape [] [(13, slP l), (14, .int .i64 l.length), (15, .int .i64 (i + 1 : Nat))] [] Sel.none ⟨rfl, Le.refl _, rfl, Le.refl _, rfl, Le.refl _, trivial⟩ (ih (i + 1) (by omega) h)

theorem check_spec (l : List St) (hl : l.length ≤ maxLen) (hk : ∀ x ∈ l, okS x) (H : List AObj) : ASpec Try.prog 123 [slP l] H (fun r H' => r = .bool (checkM l) ∧ H' = H) := by
  have k : ASpec Try.prog 123 [slP l] [] (fun r H' => r = .bool (checkM l) ∧ H' = []) := by
    refine ASpec.sel (s123 _ _ (condE (fun h => pb ?_) fun h => condD (fun h1 => pb ?_) fun h1 => check4 (by omega) hk l.length 0 (by omega) ?_))
    · simp [checkM, show ¬ 1 ≤ l.length by omega]
    · simp [checkM, show ¬ l.length ≤ 1048576 by omega]
    · simp [checkM, show 1 ≤ l.length by omega, show l.length ≤ 1048576 by omega]
  exact ASpec.pureH H k _ _ rfl rfl

/-! ### how much is looked at -/

def largeF : List St → Bool
  | [] => false
  | x :: r => if 100 < x.2.1.length ∨ 100 < x.2.2.2.1.length then true else largeF r
def largeM (l : List St) : Bool := if (300 < l.length ∧ l.length ≤ 1048576) ∨ 1048586 < l.length then true else largeF l

theorem large4 {l : List St} {c : Bool} (hl : l.length ≤ 1048586) : ∀ (m i : Nat), m + i = l.length → largeF (l.drop i) = c →
    AWP Try.prog 39 0 c18_4 [(0, slP l), (3, .int .i64 i)] [] (q18_2 0 (PB c)) := by
  intro m
  induction m with
  | zero =>
    intro i hm h
    refine v18_4 _ _ _ _ (condD (fun hc => by omega) fun _ => pb ?_)
    rw [List.drop_eq_nil_of_le (by omega)] at h
    exact h
  | succ m ih =>
    intro i hm h
    rw [dropD l noSt i (by omega)] at h
    simp only [largeF] at h
    refine v18_4 _ _ _ _ (condD (fun hc => needJ ⟨by omega, by omega⟩ ?_) fun hc => by omega)
    rw [Int.toNat_natCast]
    generalize l.getD i noSt = x at h ⊢
    rw [B_size, B_size]
    refine condD (fun h1 => pb ?_) fun h1 => needJ ⟨by omega, by omega⟩ (condD (fun h2 => pb ?_) fun h2 => ?_)
    · rw [if_pos (.inl (by omega))] at h; exact h
    · rw [if_pos (.inr (by omega))] at h; exact h
    · rw [if_neg (by omega)] at h
      rw [succ64 (by omega)]
      exact ih (i + 1) (by omega) h

theorem large_spec (l : List St) (H : List AObj) : ASpec Try.prog 18 [slP l] H (fun r H' => r = .bool (largeM l) ∧ H' = H) := by
  have k : ASpec Try.prog 18 [slP l] [] (fun r H' => r = .bool (largeM l) ∧ H' = []) := by
    refine ASpec.sel (s18 _ _ (condD (fun h1 => condD (fun h2 => pb ?_) fun h2 => condD (fun h3 => pb ?_) fun h3 => large4 (by omega) l.length 0 (by omega) ?_) fun h1 => condD (fun h3 => pb ?_) fun h3 => large4 (by omega) l.length 0 (by omega) ?_))
    · rw [largeM, if_pos (by omega)]
    · rw [largeM, if_pos (by omega)]
    · rw [largeM, if_neg (by omega)]; rfl
    · rw [largeM, if_pos (by omega)]
    · rw [largeM, if_neg (by omega)]; rfl
  exact ASpec.pureH H k _ _ rfl rfl

theorem largeF_ok : ∀ (l : List St), largeF l = false → ∀ x ∈ l, x.2.1.length ≤ 100 ∧ x.2.2.2.1.length ≤ 100
  | [], _, n, hn => by simp at hn
  | x :: r, h, n, hn => by
    simp only [largeF] at h
    split at h
    · cases h
    · rcases List.mem_cons.1 hn with rfl | hn
      · omega
      · exact largeF_ok r h n hn

theorem largeM_ok {l : List St} (h : largeM l = false) : (l.length ≤ 300 ∨ 1048576 < l.length) ∧ l.length ≤ 1048586 ∧ ∀ x ∈ l, okS x := by
  unfold largeM at h
  split at h
  · cases h
  · refine ⟨by omega, by omega, fun x hx => ?_⟩
    have := largeF_ok l h x hx
    unfold okS lim; omega

end Pr
end

section
/- EventBytes: the bytes of any events, and the events of any bytes, or what is wrong first, are the document's: the law's function returns true. -/

set_option linter.unusedVariables false
set_option linter.unusedSimpArgs false
set_option maxRecDepth 100000
open Go Go.Ab Go.Proofs V S T C
open W (sl1 slS slN numB text spanB needB lenL leTwo leTok put1M put2M numB_len text_len flat_len cons_dec)
open EB (v416_3 v416_7 c416_3 c416_7 q416_2 q416_6)
namespace E

section
variable {Post : AV → List AObj → Prop}

/-! ### what is put -/

theorem a7 {ns : List Need} {n i : Int} {ss : List Span} (hs : ss.length ≤ lim) {P : List UInt8} (hP : P.length ≤ 1000000000)
    (k : AWP Try.prog 53 0 c416_3 [(1, sl1 P), (18, slN ns), (19, .int .i64 n), (20, .int .i64 (IntKind.wrap .i64 (i + 1)))] [] (q416_2 0 Post)) :
    ∀ (m j : Nat) (b : List UInt8), m + j = ss.length → b ++ (ss.drop j).flatMap spanB = P →
    AWP Try.prog 53 0 c416_7 [(1, sl1 b), (18, slN ns), (19, .int .i64 n), (20, .int .i64 i), (34, slS ss), (35, .int .i64 ss.length), (36, .int .i64 j)] [] (q416_6 0 Post) := by
  unfold lim at hs
  intro m
  induction m with
  | zero =>
    intro j b hm h
    refine v416_7 _ _ _ _ _ _ _ _ _ (condD (fun hc => by omega) fun _ => ?_)
    rw [List.drop_eq_nil_of_le (by omega)] at h
    simp only [List.flatMap_nil, List.append_nil] at h
    subst h; exact k
  | succ m ih =>
    intro j b hm h
    have hbl : b.length ≤ P.length := lenL h
    rw [dropD ss (0, 0) j (by omega), List.flatMap_cons, ← List.append_assoc] at h
    refine v416_7 _ _ _ _ _ _ _ _ _ (condD (fun hc => needJ ⟨by omega, by omega⟩ ?_) fun hc => by omega)
    rw [Int.toNat_natCast]
    generalize ss.getD j (0, 0) = x at h ⊢
    refine put_spec' (bs := b) (ns := [x.1, IntKind.wrap .i64 (x.2 - x.1)]) ⟨Le.refl _, leTwo _ _, trivial⟩ (by unfold big; simp; omega) ⟨_, rfl, rfl, ?_⟩
    rw [put2M]
    rw [succ64 (by omega)]
    exact AWP.shape [] [(1, sl1 (b ++ spanB x)), (18, slN ns), (19, .int .i64 n), (20, .int .i64 i), (34, slS ss), (35, .int .i64 ss.length), (36, .int .i64 (j + 1 : Nat))] [] Sel.none
      ⟨rfl, sealLe _ rfl, rfl, Le.refl _, rfl, Le.refl _, rfl, Le.refl _, rfl, Le.refl _, rfl, Le.refl _, rfl, Le.refl _, trivial⟩ (ih (j + 1) _ (by omega) h)

theorem a3 {ns : List Need} (hs : ∀ x ∈ ns, x.1.length ≤ lim ∧ x.2.length ≤ lim) (hn : ns.length ≤ lim) {P : List UInt8} (hP : P.length ≤ 1000000000) (k : ∀ H', Post (sl1 P) H') :
    ∀ (m j : Nat) (b : List UInt8), m + j = ns.length → b ++ (ns.drop j).flatMap needB = P →
    AWP Try.prog 53 0 c416_3 [(1, sl1 b), (18, slN ns), (19, .int .i64 ns.length), (20, .int .i64 j)] [] (q416_2 0 Post) := by
  unfold lim at hs hn
  intro m
  induction m with
  | zero =>
    intro j b hm h
    refine v416_3 _ _ _ _ _ _ (condD (fun hc => by omega) fun _ => ?_)
    rw [List.drop_eq_nil_of_le (by omega)] at h
    simp only [List.flatMap_nil, List.append_nil] at h
    subst h; exact k _
  | succ m ih =>
    intro j b hm h
    have hbl : b.length ≤ P.length := lenL h
    have hx := hs _ (memD ns ([], []) j (by omega))
    rw [dropD ns ([], []) j (by omega), List.flatMap_cons, ← List.append_assoc] at h
    refine v416_3 _ _ _ _ _ _ (condD (fun hc => needJ ⟨by omega, by omega⟩ ?_) fun hc => by omega)
    rw [Int.toNat_natCast]
    generalize ns.getD j ([], []) = x at h hx ⊢
    have hb2 : (b ++ needB x).length ≤ P.length := lenL h
    have hb3 : (b ++ text x.1).length ≤ (b ++ needB x).length := by simp [needB]
    have etx : b ++ V.enc (held x.1.length) ++ x.1 = b ++ text x.1 := by simp [text]
    refine ASpec.call (text_spec b x.1 (by unfold big; omega) _) (Les.refl _) ⟨b ++ text x.1, by rw [etx]; rfl, rfl, ⟨rfl, rfl⟩, ⟨rfl, rfl⟩, ?_⟩
    refine put_spec' (bs := b ++ text x.1) (ns := [(x.2.length : Int)]) ⟨leTok, leOne _, trivial⟩ (by unfold big; simp only [List.length_cons, List.length_nil]; omega) ⟨_, rfl, rfl, ?_⟩
    rw [put1M]
    refine AWP.shape [] [(1, sl1 (b ++ text x.1 ++ numB x.2.length)), (18, slN ns), (19, .int .i64 ns.length), (20, .int .i64 j), (34, slS x.2), (35, .int .i64 x.2.length), (36, .int .i64 (0 : Nat))] [] Sel.none
      ⟨rfl, sealLe _ rfl, rfl, Le.refl _, rfl, Le.refl _, rfl, Le.refl _, rfl, Le.refl _, rfl, Le.refl _, rfl, Le.refl _, trivial⟩ ?_
    refine a7 (P := b ++ needB x) (by unfold lim; omega) (by omega) ?_ x.2.length 0 _ (by omega) (by simp [needB])
    rw [succ64 (by omega)]
    exact ih (j + 1) _ (by omega) h

/-! ### what is read -/

end
end E
end

section
/- Steps of a proof: what is read of bytes, and the bytes of what may be. -/

set_option linter.unusedVariables false
set_option linter.unusedSimpArgs false
set_option maxRecDepth 100000
open Go Go.Ab Go.Proofs V S T C
open W (sl1 slS slN numB text spanB needB lenL leTwo leTok put1M put2M numB_len text_len flat_len cons_dec listR listM Inside listR_p listM_p numM_p strM_p numM_most)
namespace Pr

/-! ### the model -/

theorem renSt (ρ : Nat → Nat) (x : St) : renL ρ (encSt x) = encSt x := rfl

/-! ### the program's -/

/-! ### the document's -/

/-! ### the bytes -/

theorem chkF_may : ∀ (l : List St) (i : Nat), chkF i l = true → ∀ x ∈ l, ∃ j : Nat, j < i + l.length ∧ mayM x j = true
  | [], _, _, x, hx => by simp at hx
  | y :: r, i, h, x, hx => by
    simp only [chkF, Bool.and_eq_true] at h
    rcases List.mem_cons.1 hx with rfl | hx
    · exact ⟨i, by simp, h.1⟩
    · obtain ⟨j, h1, h2⟩ := chkF_may r (i + 1) h.2 x hx
      exact ⟨j, by simp; omega, h2⟩

theorem checkM_may {l : List St} (h : checkM l = true) : 1 ≤ l.length ∧ l.length ≤ 1048576 ∧ ∀ x ∈ l, ∃ j : Nat, j < l.length ∧ mayM x j = true := by
  unfold checkM at h
  rw [Bool.and_eq_true] at h
  have h1 := of_decide_eq_true h.1
  refine ⟨h1.1, h1.2, fun x hx => ?_⟩
  obtain ⟨j, a, b⟩ := chkF_may l 0 h.2 x hx
  exact ⟨j, by omega, b⟩

end Pr
end

section
/- Steps of a proof: what is put, the program's and the document's. -/

set_option linter.unusedVariables false
set_option linter.unusedSimpArgs false
set_option maxRecDepth 100000
open Go Go.Ab Go.Proofs V S T C
open W (sl1 slS slN numB text lenL leTwo leTok put1M put2M numB_len text_len flat_len)
open E (PA pa)
namespace Pr

end Pr
end

section
/- Steps of a proof: what is left of one that is trimmed (the program's). -/

set_option linter.unusedVariables false
set_option linter.unusedSimpArgs false
set_option maxRecDepth 100000
open Go Go.Ab Go.Proofs V S T C
open W (sl1 numB text lenL)
open E (PA pa)
open Pf (s228 s309 v309_1 c309_1 q309_1 s125 v125_2 v125_3 v125_6 v125_8 v125_11 v125_16 c125_2 c125_3 c125_6 c125_6a c125_8 c125_11 c125_16 q125_0 q125_2 q125_4 q125_7 s19)
namespace Pr

/-! ### the model -/

def markS (x : St) (u : List Bool) : List Bool := (u.set x.2.2.2.2.1.toNat true).set x.2.2.2.2.2.toNat true
/-- what is used, of the first i steps, by what is used already -/
def markF (l : List St) : Nat → List Bool → List Bool
  | 0, u => u
  | i + 1, u => markF l i (if u.getD i false = true ∧ (l.getD i noSt).1 = 4 then markS (l.getD i noSt) u else u)
def usedM (l : List St) : List Bool := markF l l.length ((List.replicate l.length false).set (l.length - 1) true)
def reSt (x : St) (t : List Int) : St := if x.1 = 4 then (x.1, x.2.1, x.2.2.1, x.2.2.2.1, t.getD x.2.2.2.2.1.toNat 0, t.getD x.2.2.2.2.2.toNat 0) else x
def trF (u : List Bool) : Nat → List St → List Int → List St → List St
  | _, [], _, out => out
  | i, x :: r, t, out => if u.getD i false = true then trF u (i + 1) r (t.set i out.length) (out ++ [reSt x t]) else trF u (i + 1) r t out
def trimM (l : List St) : List St := trF (usedM l) 0 l (List.replicate l.length 0) []

theorem markS_len (x : St) (u : List Bool) : (markS x u).length = u.length := by simp [markS]
theorem markF_len (l : List St) : ∀ (i : Nat) (u : List Bool), (markF l i u).length = u.length
  | 0, u => rfl
  | i + 1, u => by
    simp only [markF]
    rw [markF_len l i]
    split
    · exact markS_len _ _
    · rfl
theorem usedM_len (l : List St) : (usedM l).length = l.length := by unfold usedM; rw [markF_len]; simp

/-- joined steps name steps ahead of them -/
def okJ (l : List St) : Prop := ∀ i, i < l.length → (l.getD i noSt).1 = 4 → 0 ≤ (l.getD i noSt).2.2.2.2.1 ∧ (l.getD i noSt).2.2.2.2.1 < i ∧ 0 ≤ (l.getD i noSt).2.2.2.2.2 ∧ (l.getD i noSt).2.2.2.2.2 < i

theorem chkF_at : ∀ (l : List St) (k : Nat), chkF k l = true → ∀ i, i < l.length → mayM (l.getD i noSt) ((k + i : Nat) : Int) = true
  | [], _, _, i, hi => by simp at hi
  | x :: r, k, h, i, hi => by
    simp only [chkF, Bool.and_eq_true] at h
    cases i with
    | zero => exact h.1
    | succ i =>
      have := chkF_at r (k + 1) h.2 i (by simpa using hi)
      rw [show k + 1 + i = k + (i + 1) by omega] at this
      exact this

theorem okJ_of {l : List St} (h : checkM l = true) : okJ l := by
  intro i hi k4
  unfold checkM at h
  rw [Bool.and_eq_true] at h
  have hm := chkF_at l 0 h.2 i hi
  rw [Nat.zero_add] at hm
  unfold mayM at hm
  rw [Bool.and_eq_true] at hm
  have := hm.2
  rw [if_neg (by omega), if_neg (by omega), if_pos k4] at this
  have := of_decide_eq_true this
  omega

/-! ### the rounds -/

noncomputable abbrev LP : AObj := .lp 80 [(3, .ptr 1 0), (20, .bad), (21, .bad)] [20, 21] c125_6a c125_6 .ready
noncomputable abbrev LPB : AObj := .lp 80 [(3, .ptr 1 0), (20, .bad), (21, .bad)] [20, 21] c125_6a c125_6 .busy
noncomputable abbrev HB (l : List St) (u : List Bool) : List AObj := [.arr 1 (.map encBo false u), .cells [.msl 1 0 0 u.length], .cells [slP l], LP]

theorem encBo_set (u : List Bool) (k : Nat) (b : Bool) : (u.set k b).map encBo = (u.map encBo).set k [.bool b] := by
  rw [List.map_set]; rfl

theorem drop1 (u : List Bool) (k : Nat) : List.drop 1 ((u.map encBo).getD k []) = [] := by
  rw [List.getD_eq_getElem?_getD, List.getElem?_map]
  cases u[k]? <;> rfl

theorem round_spec {l : List St} {u : List Bool} {i : Nat} {x : St} (hi : i < u.length) (hl : u.length ≤ 1048576) (hj : x.1 = 4 → 0 ≤ x.2.2.2.2.1 ∧ x.2.2.2.2.1 < u.length ∧ 0 ≤ x.2.2.2.2.2 ∧ x.2.2.2.2.2 < u.length) {Post : AV → List AObj → Prop}
    (h : Post (.bool true) (HB l (if u.getD i false = true ∧ x.1 = 4 then markS x u else u))) : AYield Try.prog 3 [.int .i64 i, agS x] (HB l u) Post := by
  refine AYield.sel (AYield.arrEnd (AYield.of (N := 80) [3, 20, 21] rfl rfl rfl ?_))
  have fin : ∀ (s : Slots) (q : Seq) (u' : List Bool), q.toList = u'.map encBo → u'.length = u.length → u' = (if u.getD i false = true ∧ x.1 = 4 then markS x u else u) →
      ∃ id sz q1 q', ([.arr 1 q, .cells [.msl 1 0 0 u.length], .cells [slP l], LP, .cells (encSt x)] : List AObj)[id]? = some (.arr sz q1) ∧ q'.toList = q1.toList ∧
        ∃ l1 H2 r2, Sel (HB l u).length l1 (([.arr 1 q, .cells [.msl 1 0 0 u.length], .cells [slP l], LP, .cells (encSt x)] : List AObj).set id (.arr sz q')) H2 ∧ Le (.bool true) (AV.ren (selR l1 (([.arr 1 q, .cells [.msl 1 0 0 u.length], .cells [slP l], LP, .cells (encSt x)] : List AObj).set id (.arr sz q')).length) r2) ∧ Post r2 H2 := by
    intro s q u' hq hlen hu
    refine ⟨0, 1, q, .map encBo false u', rfl, hq.symm, [0, 1, 2, 3], HB l u', .bool true, ⟨by decide, rfl, by show 4 ≤ 4; omega, fun j hj => ?_, fun j hj => ?_⟩, Le.refl _, by rw [hu]; exact h⟩
    · match j, hj with
      | 0, _ | 1, _ | 2, _ | 3, _ => rfl
    · match j, hj with
      | 0, _ | 2, _ | 3, _ => exact .inl rfl
      | 1, _ => left; show some (AObj.cells [.msl 1 0 0 u.length]) = some (AObj.cells [.msl 1 0 0 u'.length]); rw [hlen]
  refine v125_6 l u i x LP LPB 4 (fun _ _ => True) _ (needJ rfl (needJ ⟨by omega, by omega⟩ (needJ (by rw [Int.toNat_natCast, Nat.zero_add]; exact hi) ?_)))
  rw [Int.toNat_natCast, Nat.zero_add]
  refine condB (fun hu => condE (fun k4 => ?_) fun k4 => ?_) fun hu => ?_
  · obtain ⟨j1, j2, j3, j4⟩ := hj k4
    refine needJ ⟨j1, j2⟩ (needJ (by omega) ⟨⟨rfl, rfl⟩, ⟨rfl, rfl⟩, needJ ⟨j3, j4⟩ (needJ (by simp [Ab.Seq.toList]; omega) ?_)⟩)
    refine ⟨rfl, ?_⟩
    refine fin [] _ (markS x u) ?_ (markS_len x u) (by rw [if_pos ⟨hu, k4⟩])
    show ((u.map encBo).set (0 + x.2.2.2.2.1.toNat) [.bool true]).set (0 + x.2.2.2.2.2.toNat) (.bool true :: List.drop 1 (((u.map encBo).set (0 + x.2.2.2.2.1.toNat) [.bool true]).getD (0 + x.2.2.2.2.2.toNat) [])) = _
    rw [show List.drop 1 (((u.map encBo).set (0 + x.2.2.2.2.1.toNat) [.bool true]).getD (0 + x.2.2.2.2.2.toNat) []) = [] from ?_]
    rotate_left
    · rw [show ([AV.bool true] : List AV) = encBo true from rfl, ← List.map_set]
      exact drop1 _ _
    rw [markS, encBo_set, encBo_set, Nat.zero_add, Nat.zero_add]
  · exact ⟨rfl, fin [] (.map encBo false u) u rfl rfl (by rw [if_neg (fun h => k4 h.2)])⟩
  · exact ⟨rfl, fin [] (.map encBo false u) u rfl rfl (by rw [if_neg (fun h => by rw [hu] at h; simp at h)])⟩

theorem slLe {ρ : Nat → Nat} (l : List St) (tip : Tip) : Le (.sl 6 (.map encSt noSt l) tip) (AV.ren ρ (slP l)) := Le.sl (s' := Seq.ren _ (.map encSt noSt l)) (by simp [Ab.Seq.toList, Seq.ren, renSt]) (.inl rfl) (.inr rfl)

theorem loop309 {l : List St} (hl : l.length ≤ 1048576) (hj : okJ l) {n : Nat} {R : List Bool} {Post : AV → List AObj → Prop} (hp : Post (.tup []) (HB l R)) :
    ∀ (i : Nat) (u : List Bool), i ≤ l.length → u.length = l.length → markF l i u = R →
    AWP Try.prog 19 n c309_1 [(0, .yld 3), (1, .ptr 2 0), (3, .int .i64 ((i : Int) - 1))] (HB l u) (q309_1 n Post) := by
  intro i
  induction i with
  | zero =>
    intro u hi hu hR
    simp only [markF] at hR
    subst hR
    exact v309_1 _ _ _ _ _ _ _ (condD (fun h => by omega) fun _ => hp)
  | succ i ih =>
    intro u hi hu hR
    rw [show (((i + 1 : Nat) : Int) - 1) = (i : Int) by omega]
    refine v309_1 _ _ _ _ _ _ _ (condD (fun _ => needJ ⟨by omega, by omega⟩ ?_) fun h => by omega)
    rw [Int.toNat_natCast]
    have hji := hj i (by omega)
    simp only [markF] at hR
    generalize l.getD i noSt = x at hR hji ⊢
    refine round_spec (u := u) (i := i) (x := x) (by omega) (by omega) (fun h => by have := hji h; omega) ?_
    rw [wrap64 (by omega) (by omega)]
    have hl2 : (if u.getD i false = true ∧ x.1 = 4 then markS x u else u).length = u.length := by split <;> simp [markS_len]
    refine ⟨(if u.getD i false = true ∧ x.1 = 4 then markS x u else u), rfl, ?_, ?_⟩
    · show HB l _ = _
      unfold HB; rw [hl2]
    · have := ih _ (by omega) (by rw [hl2, hu]) hR
      unfold HB at this; rw [hl2] at this
      exact this

theorem trim11 {l : List St} (hl : l.length ≤ 1048576) (hj : okJ l) {u : List Bool} (hu : u.length = l.length) {R : List St} :
    ∀ (m i : Nat) (t : List Int) (out : List St), m + i = l.length → t.length = l.length → out.length ≤ i → trF u i (l.drop i) t out = R →
    AWP Try.prog 80 0 c125_11 [(3, .ptr 1 0), (6, .msl 1 2 0 t.length), (7, .sl 6 (.map encSt noSt out) (.tok 3)), (42, slP l), (43, .int .i64 l.length), (44, .int .i64 i)]
      [.arr 1 (.map encBo false u), .cells [.msl 1 0 0 u.length], .arr 1 (.map encI 0 t), .tok] (q125_4 0 (PA (slP R))) := by
  intro m
  induction m with
  | zero =>
    intro i t out hm ht ho hR
    rw [List.drop_eq_nil_of_le (by omega)] at hR
    simp only [trF] at hR
    subst hR
    exact v125_11 _ _ _ _ _ _ _ (condD (fun h => by omega) fun _ => pa (slLe _ _))
  | succ m ih =>
    intro i t out hm ht ho hR
    rw [dropD l noSt i (by omega)] at hR
    simp only [trF] at hR
    refine v125_11 _ _ _ _ _ _ _ (condD (fun _ => needJ ⟨by omega, by omega⟩ (needJ ⟨by omega, by omega⟩ ?_)) fun h => by omega)
    rw [Int.toNat_natCast, Nat.zero_add, succ64 (by omega)]
    have hji := hj i (by omega)
    generalize l.getD i noSt = x at hR hji ⊢
    refine needJ (by omega) (condBn (fun hb => ?_) fun hb => ?_)
    · rw [if_neg (by rw [hb]; simp)] at hR
      exact AWP.shape [0, 1, 2, 3] [(3, .ptr 1 0), (6, .msl 1 2 0 t.length), (7, .sl 6 (.map encSt noSt out) (.tok 3)), (42, slP l), (43, .int .i64 l.length), (44, .int .i64 (i + 1 : Nat))] [.arr 1 (.map encBo false u), .cells [.msl 1 0 0 u.length], .arr 1 (.map encI 0 t), .tok] (Sel.mk0 (by decide) ⟨rfl, rfl, rfl, rfl, trivial⟩) ⟨rfl, Le.refl _, rfl, Le.refl _, rfl, Le.sl (s' := Seq.ren _ (.map encSt noSt out)) (by simp [Ab.Seq.toList, Seq.ren, renSt]) (.inl rfl) (.inl rfl), rfl, slLe _ _, rfl, Le.refl _, rfl, Le.refl _, trivial⟩ (ih (i + 1) t out (by omega) ht (by omega) hR)
    · rw [if_pos hb] at hR
      have nxt : ∀ y, y = reSt x t → AWP Try.prog 80 0 c125_16 [(3, .ptr 1 0), (6, .msl 1 2 0 t.length), (7, .sl 6 (.map encSt noSt out) (.tok 3)), (8, .int .i64 i), (9, .ptr 4 0), (42, slP l), (43, .int .i64 l.length), (44, .int .i64 i)]
          [.arr 1 (.map encBo false u), .cells [.msl 1 0 0 u.length], .arr 1 (.map encI 0 t), .tok, .cells (encSt y)] (q125_7 0 (PA (slP R))) := by
        intro y hy
        subst hy
        refine v125_16 _ _ _ _ _ _ _ _ (needJ ⟨by omega, by omega⟩ (needJ (by rw [Int.toNat_natCast]; omega) (needJ (by omega) ?_)))
        rw [Int.toNat_natCast, Nat.zero_add, succ64 (by omega)]
        have et : (t.set i (out.length : Int)).length = t.length := List.length_set
        have := ih (i + 1) (t.set i out.length) (out ++ [reSt x t]) (by omega) (by rw [et, ht]) (by simp; omega) hR
        rw [et] at this
        refine AWP.re (ReSt.arr (id := 2) (q := _) (q' := .map encI 0 (t.set i out.length)) rfl (by simp only [Seq.toList, List.map_set]; rfl)) ?_
        exact AWP.shape [0, 1, 2, 5] [(3, .ptr 1 0), (6, .msl 1 2 0 t.length), (7, .sl 6 (.map encSt noSt (out ++ [reSt x t])) (.tok 3)), (42, slP l), (43, .int .i64 l.length), (44, .int .i64 (i + 1 : Nat))] [.arr 1 (.map encBo false u), .cells [.msl 1 0 0 u.length], .arr 1 (.map encI 0 (t.set i out.length)), .tok] (Sel.mk0 (by decide) ⟨rfl, rfl, rfl, rfl, trivial⟩)
          ⟨rfl, Le.refl _, rfl, Le.refl _, rfl, leAppE (Les.refl _), rfl, Le.refl _, rfl, Le.refl _, rfl, Le.refl _, trivial⟩ this
      refine condE (fun k4 => ?_) fun k4 => ?_
      · obtain ⟨j1, j2, j3, j4⟩ := hji k4
        refine needJ ⟨by omega, by omega⟩ (needJ (by omega) (needJ ⟨by omega, by omega⟩ (needJ (by omega) ⟨needJ (by omega) ⟨rfl, rfl⟩, ?_⟩)))
        rw [Nat.zero_add, Nat.zero_add]
        exact nxt _ (by unfold reSt; rw [if_pos k4])
      · exact nxt _ (by unfold reSt; rw [if_neg k4])

theorem trim_spec (l : List St) (hc : checkM l = true) (H : List AObj) : ASpec Try.prog 125 [slP l] H (fun r H' => r = slP (trimM l) ∧ H' = H) := by
  have hj := okJ_of hc
  obtain ⟨h1, h2, _⟩ := checkM_may hc
  have k : ASpec Try.prog 125 [slP l] [] (fun r H' => r = slP (trimM l) ∧ H' = []) := by
    refine ASpec.sel (s125 _ _ (needJ (by omega) ?_))
    have el : (List.replicate l.length false).length = l.length := List.length_replicate
    refine AWP.re (ReSt.arr (id := 0) (q := _) (q' := .map encBo false (List.replicate l.length false)) rfl (by simp only [Seq.toList, List.map_replicate]; rfl)) ?_
    show AWP Try.prog 80 0 c125_2 _ [.arr 1 (.map encBo false (List.replicate l.length false)), .cells [.msl 1 0 0 l.length]] _
    have a2 := v125_2 l (List.replicate l.length false) 0 (PA (slP (trimM l)))
    rw [el, wrap64 (by omega) (by omega)] at a2
    refine a2 (needJ ⟨by omega, by omega⟩ (needJ (by omega) ?_))
    rw [show (0 + ((l.length : Int) - 1).toNat) = l.length - 1 by omega]
    have eu : ((List.replicate l.length false).set (l.length - 1) true).length = l.length := by simp
    refine AWP.re (ReSt.arr (id := 0) (q := _) (q' := .map encBo false ((List.replicate l.length false).set (l.length - 1) true)) rfl (by simp only [Seq.toList, List.map_set]; rfl)) ?_
    show AWP Try.prog 80 0 c125_3 _ [.arr 1 (.map encBo false ((List.replicate l.length false).set (l.length - 1) true)), .cells [.msl 1 0 0 l.length]] _
    have a3 := v125_3 l ((List.replicate l.length false).set (l.length - 1) true) 0 (PA (slP (trimM l)))
    rw [eu] at a3
    refine a3 ?_
    have s2 : ∀ H, ASpec Try.prog 228 [slP l] H (fun r H' => r = .fn 309 [.ptr H.length 0] ∧ H' = H ++ [.cells [slP l]]) := fun H => by
      have k0 : ASpec Try.prog 228 [slP l] [] (fun r H' => r = .fn 309 [.ptr 0 0] ∧ H' = [.cells [slP l]]) := s228 _ _ ⟨rfl, rfl⟩
      exact ASpec.subH [] H _ k0 _ _ (by simp) rfl rfl rfl (fun i h => by simp at h) rfl
    refine ASpec.call (s2 _) (Les.refl _) ⟨(), rfl, rfl, ?_⟩
    refine s309 l _ l.length LP _ ?_
    rw [wrap64 (by omega) (by omega)]
    have := loop309 (l := l) (by omega) hj (n := 4) (R := usedM l) (Post := fun r H' => rangeEnd (q125_2 0 (PA (slP (trimM l)))) [(19, AV.fn (309 : FuncId) [AV.ptr 2 0]), (18, slP l), (0, slP l), (3, AV.ptr 1 0)] 3 H') ?_ l.length _ (Nat.le_refl _) eu rfl
    · unfold HB at this; rw [eu] at this; exact this
    · refine ⟨_, _, _, _, _, .ready, rfl, ?_⟩
      show AWP Try.prog 80 0 c125_8 [(0, slP l), (3, .ptr 1 0)] [.arr 1 (.map encBo false (usedM l)), .cells [.msl 1 0 0 (usedM l).length], .cells [slP l], .gone] (q125_0 0 _)
      refine AWP.shape [0, 1] [(0, slP l), (3, .ptr 1 0)] [.arr 1 (.map encBo false (usedM l)), .cells [.msl 1 0 0 (usedM l).length]] (Sel.mk0 (by decide) ⟨rfl, rfl, trivial⟩) ⟨rfl, slLe _ _, rfl, Le.refl _, trivial⟩ ?_
      refine v125_8 _ _ _ _ (needJ (by omega) ?_)
      have e0 : (List.replicate l.length (0 : Int)).length = l.length := List.length_replicate
      refine AWP.re (ReSt.arr (id := 2) (q := _) (q' := .map encI 0 (List.replicate l.length 0)) rfl (by simp only [Seq.toList, List.map_replicate]; rfl)) ?_
      refine AWP.re (ReSt.tok (k := 7) (q' := .map encSt noSt []) (sz' := 6) (s2 := [(3, .ptr 1 0), (6, .msl 1 2 0 l.length), (7, .sl 6 (.map encSt noSt []) (.tok 3)), (42, slP l), (43, .int .i64 l.length), (44, .int .i64 (0 : Nat))]) rfl (.inl rfl) rfl (.inr rfl) (fun d hd => ?_) rfl) ?_
      · simp only [Ab.get]
        have e : Nat.beq 7 d = false := by
          cases hx : Nat.beq 7 d with
          | false => rfl
          | true => exact absurd (Nat.eq_of_beq_eq_true hx).symm hd
        rw [e]; rfl
      · have := trim11 (l := l) (by omega) hj (usedM_len l) l.length 0 (List.replicate l.length 0) [] (by omega) e0 (by simp) rfl
        rw [e0] at this
        exact this
  exact ASpec.pureH H k _ _ rfl rfl

end Pr
end

section
/- Printed: what the code of functions 58, 38, 37, 183, 278, 279, 61, 166, 59, 64, 47, 182, 60, 65, 63, 67, 68, 69, 57, 7, 8 asks for, by the framework's own reading of it; each line is checked against the code. -/

set_option linter.unusedVariables false
set_option maxRecDepth 100000
set_option maxHeartbeats 4000000
open Go Go.Ab Go.Proofs
namespace Dp
noncomputable section

noncomputable def u8 : Nat → Bool
  | 8 => true
  | 14 => true
  | _ => false
end
end Dp
end

section
/- ProofBytes: the law: it returns true. -/

set_option linter.unusedVariables false
set_option linter.unusedSimpArgs false
set_option maxRecDepth 100000
open Go Go.Ab Go.Proofs V S T C
open W (sl1 lenL numB_len text_len)
open E (PA pa)
open Pf (s19)
namespace Pr

def wake : List St := [(1, [97], 0, [], 0, 0), (2, [98], 0, [], 0, 0), (2, [97], 0, [], 0, 0), (4, [97], 0, [], 0, 2)]
theorem wake_ok : checkM wake = true := by decide
theorem wake_trim : trimM wake = [(1, [97], 0, [], 0, 0), (2, [97], 0, [], 0, 0), (4, [97], 0, [], 0, 1)] := by decide

theorem awake_spec (H : List AObj) : ASpec Try.prog 19 [] H (fun r H' => r = .bool true ∧ H' = H) := by
  have k : ASpec Try.prog 19 [] [] (fun r H' => r = .bool true ∧ H' = []) := by
    refine s19 _ (ASpec.call (trim_spec wake wake_ok _) ⟨Le.sl rfl (.inl rfl) (.inr rfl), trivial⟩ ⟨trimM wake, rfl, rfl, ?_⟩)
    refine ASpec.call (check_spec wake (by unfold maxLen; decide) (by unfold okS lim; decide) _) ⟨Le.sl rfl (.inl rfl) (.inr rfl), trivial⟩ ⟨true, by rw [wake_ok], rfl, ?_⟩
    rw [wake_trim]
    exact condB (fun _ => condE (fun _ => needJ ⟨by decide, by decide⟩ ⟨by show AV.bool (true && ((B [97]).toList == (B [97]).toList && (true && ((B []).toList == (B []).toList && (true && (true && true)))))) = _; rw [B_beq, B_beq]; rfl, rfl⟩) fun h => (h rfl).elim) fun h => by simp at h
  exact ASpec.pureH H k _ _ rfl rfl

end Pr
end

section
/- The codecs of this seat's plain arguments. -/

open Go Go.Ab Go.Proofs
namespace Go.Ab

noncomputable def cInt : Codec Try.prog 3 Int := Codec.int .i64 Try.underlying3
noncomputable def cStr : Codec Try.prog 9 ByteArray := Codec.str Try.underlying9
end Go.Ab
end

section
/- The codecs of manifests. -/

open Go Go.Ab Go.Proofs
namespace Go.Ab

noncomputable def cName : Codec Try.prog 9 (List UInt8) := cStr.iso (fun s => s.data.toList) (fun l => [.str ⟨l.toArray⟩]) (fun _ => True) (fun _ => rfl) (fun _ _ => trivial)
end Go.Ab
end

section
/- The codec of lists of steps of a proof. -/

open Go Go.Ab Go.Proofs
namespace Go.Ab
noncomputable def cSt : Codec Try.prog 175 T.St :=
  (Codec.struct (n := 6) Try.underlying175 (FC.cons (k := 1) (n := 5) cInt rfl (by kernel_rfl) (FC.cons (k := 1) (n := 4) cName rfl (by kernel_rfl) (FC.cons (k := 1) (n := 3) cInt rfl (by kernel_rfl) (FC.cons (k := 1) (n := 2) cName rfl (by kernel_rfl)
    (FC.cons (k := 1) (n := 1) cInt rfl (by kernel_rfl) (FC.cons (k := 1) (n := 0) cInt rfl (by kernel_rfl) FC.nil)))))) (by kernel_rfl)).iso (fun x => (x.1, x.2.1, x.2.2.1, x.2.2.2.1, x.2.2.2.2.1, x.2.2.2.2.2.1)) T.encSt (fun _ => True) (fun _ => rfl) (fun _ _ => trivial)
noncomputable def cSts : Codec Try.prog 22 (List T.St) := Codec.slice (sz := 6) cSt Try.underlying22 (by kernel_rfl) (by omega) (fun _ => rfl)
end Go.Ab
end

section
/- What is asked of the program alone, once for all statements. -/

namespace Go.Proofs.Facts
open Go Go.Proofs
theorem andT {a b : Bool} (h : a = true) (k : b = true) : (a && b) = true := by rw [h, k]; rfl
theorem laid : laidOutB Try.prog = true := by kernel_rfl
theorem mapsRowed : Go.mapsRowed Try.prog = true := by kernel_rfl
theorem stops : (Try.prog.stops == []) = true := by kernel_rfl
theorem stopKnobs : (Try.prog.stopKnobs == []) = true := by kernel_rfl
theorem heard : Try.prog.stopsHeard = true := by kernel_rfl
theorem may : Try.prog.mayEnter = true := by kernel_rfl
theorem lifted : (false == Try.prog.liftsFinal) = true := by kernel_rfl
theorem plain : (true == Try.prog.plainKeys) = true := by kernel_rfl
theorem made : (Try.prog.make == some .cut) = true := by kernel_rfl
theorem own : ownKnob Try.prog.godebug = none := by kernel_rfl
end Go.Proofs.Facts
end
