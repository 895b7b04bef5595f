/- Q5: several of this proof's own texts, one behind the other: what each proves stands at its head. -/
import Derived.Test.YtbjcdgepclmmjaaProg
import Derived.Test.YtbjcdgepclmmjaaQ4
import Derived.Test.YtbjcdgepclmmjaaA3
section
/- Printed: what the code of functions 284, 191, 192, 187, 281, 73, 416, 417, 418, 193, 74, 195, 75, 76, 9 asks for, by the framework's own reading of it; each line is checked against the code. -/

set_option linter.unusedVariables false
set_option maxRecDepth 100000
set_option maxHeartbeats 4000000
open Go Go.Ab Go.Proofs
namespace EB
noncomputable section

noncomputable def retEB : List (Nat × Ret) := [
  (9, ⟨Unit, fun _ _ _ => .bool true, fun _ H _ => H⟩),
  (284, ⟨List T.Need × Int × Int, fun _ _ x => .sl 2 (.map T.encN ([], []) x.1) .none, fun a H x => V.upd3 a H x.2.1 x.2.2⟩),
  (191, ⟨T.Ev × Int × Int, fun _ _ x => .agg (T.encE x.1), fun a H x => V.upd3 a H x.2.1 x.2.2⟩),
  (193, ⟨List T.Need × ByteArray × Int, fun _ _ x => .sl 2 (.map T.encN ([], []) x.1) .none, fun a H x => V.upd2 a H x.2.1 x.2.2⟩),
  (73, ⟨List T.Ev × Int, fun _ _ x => .tup [.sl 5 (.map T.encE T.noEv x.1) .none, .int .i64 x.2], fun _ H _ => H⟩),
  (74, ⟨List T.Ev × Int, fun _ _ x => .tup [.sl 5 (.map T.encE T.noEv x.1) .none, .int .i64 x.2], fun _ H _ => H⟩),
  (75, ⟨ByteArray, fun _ _ x => .str x, fun _ H _ => H⟩),
  (195, ⟨ByteArray, fun _ _ x => .str x, fun _ H _ => H⟩),
  (192, ⟨Bool, fun _ _ x => .bool x, fun _ H _ => H⟩),
  (76, ⟨Bool, fun _ _ x => .bool x, fun _ H _ => H⟩)]
noncomputable def rets : FuncId → List Ret := lookupR (retEB ++ E.retE ++ C.retC ++ V.retL)

-- 284
noncomputable def l284 : Nat → List Nat
  | 3 => [0, 3, 4]
  | 7 => [0, 3, 4, 5, 6]
  | _ => []
noncomputable def u284 : Nat → Bool
  | _ => false
noncomputable def m284 : Nat → Bool
  | _ => false
noncomputable def g284 : Cfg := { N := 51, live := l284, cut := u284, mu := m284, ret := rets }
noncomputable def c284 : Go.Code := Go.Ab.bodyOf Go.Proofs.Try.f284
noncomputable def q284_0 : Nat → (AV → List AObj → Prop) → AQ := fun (n : Nat) (Post : AV → List AObj → Prop) => endQ Try.prog (resultsOf Try.f284) Post
noncomputable def q284_1 : Nat → (AV → List AObj → Prop) → AQ := fun (n : Nat) (Post : AV → List AObj → Prop) => seqQ (fun (s' : Slots) (H' : List AObj) => awp Try.prog g284 n (codeSnd (codeSnd (codeSnd c284))) s' H' (q284_0 n Post)) (q284_0 n Post)
noncomputable def q284_2 : Nat → (AV → List AObj → Prop) → AQ := fun (n : Nat) (Post : AV → List AObj → Prop) => blockQ 0 (q284_1 n Post)
noncomputable def c284_3 : Go.Code := codeFst (codeSnd (codeFst (codeSnd (codeSnd c284))))
theorem s284 : ∀ (bs : List UInt8) (p e : Int) (Post : AV → List AObj → Prop),
  (ASpec Try.prog 143 [AV.ptr 0 0, AV.int IntKind.i64 (6 : Int)]
      [AObj.cells [AV.sl 1 (Seq.map encB (0 : UInt8) bs) Tip.none, AV.int IntKind.i64 p, AV.int IntKind.i64 e]] fun (r : AV) (H' : List AObj) =>
      ∃ (x : Int × Int × Int),
        r = AV.int IntKind.i64 (Prod.fst x) ∧
        H' = [AObj.cells [AV.sl 1 (Seq.map encB (0 : UInt8) bs) Tip.none, AV.int IntKind.i64 (Prod.fst (Prod.snd x)), AV.int IntKind.i64 (Prod.snd (Prod.snd x))]] ∧
        AWP Try.prog 51 1 c284_3 [(0, AV.ptr 0 0), (3, AV.sl 0 (Seq.raw []) Tip.nil), (4, AV.int IntKind.i64 (Prod.fst x))]
        [AObj.cells [AV.sl 1 (Seq.map encB (0 : UInt8) bs) Tip.none, AV.int IntKind.i64 (Prod.fst (Prod.snd x)), AV.int IntKind.i64 (Prod.snd (Prod.snd x))]] (q284_2 1 Post)) →
    ASpec Try.prog 284 [AV.ptr 0 0] [V.rd bs p e] Post := fun bs p e Post h => Go.Ab.ASpec.of_vc g284 Go.Proofs.Try.func284 (by kernel_rfl) (by kernel_rfl) (by kernel_rfl) (Go.Ab.kc (by kernel_rfl) h)
noncomputable def q284_3 : Nat → (AV → List AObj → Prop) → AQ := fun (n : Nat) (Post : AV → List AObj → Prop) => loopQ Try.prog 51 n c284_3 (q284_2 n Post) (Cfg.live g284)
noncomputable def q284_4 : Nat → (AV → List AObj → Prop) → AQ := fun (n : Nat) (Post : AV → List AObj → Prop) => seqQ (fun (s' : Slots) (H' : List AObj) => awp Try.prog g284 n (codeSnd (codeSnd (codeFst c284_3))) s' H' (q284_3 n Post)) (q284_3 n Post)
noncomputable def q284_5 : Nat → (AV → List AObj → Prop) → AQ := fun (n : Nat) (Post : AV → List AObj → Prop) => blockQ 1 (q284_4 n Post)
noncomputable def q284_6 : Nat → (AV → List AObj → Prop) → AQ := fun (n : Nat) (Post : AV → List AObj → Prop) => seqQ (fun (s' : Slots) (H' : List AObj) => awp Try.prog g284 n (codeSnd (codeSnd (codeFst (codeFst (codeSnd (codeFst c284_3)))))) s' H' (q284_5 n Post)) (q284_5 n Post)
noncomputable def q284_7 : Nat → (AV → List AObj → Prop) → AQ := fun (n : Nat) (Post : AV → List AObj → Prop) => blockQ 2 (q284_6 n Post)
noncomputable def c284_7 : Go.Code := codeFst (codeSnd (codeFst (codeSnd (codeFst (codeFst (codeSnd (codeFst c284_3)))))))
theorem v284_3 : ∀ (bs : List UInt8) (p e : Int) (acc : List T.Need) (n : Int) (n_1 : Nat) (Post : AV → List AObj → Prop),
  condP (decide (n > (0 : Int)))
      (ASpec Try.prog 144 [AV.ptr 0 0] [AObj.cells [AV.sl 1 (Seq.map encB (0 : UInt8) bs) Tip.none, AV.int IntKind.i64 p, AV.int IntKind.i64 e], AObj.tok]
        fun (r : AV) (H' : List AObj) =>
        ∃ (x : Int),
        r = AV.int IntKind.i64 x ∧
        H' = [AObj.cells [AV.sl 1 (Seq.map encB (0 : UInt8) bs) Tip.none, AV.int IntKind.i64 p, AV.int IntKind.i64 e], AObj.tok] ∧
        condP (x == (0 : Int))
        (ASpec Try.prog 145 [AV.ptr 0 0, AV.int IntKind.i64 (24 : Int)]
        [AObj.cells [AV.sl 1 (Seq.map encB (0 : UInt8) bs) Tip.none, AV.int IntKind.i64 p, AV.int IntKind.i64 e], AObj.tok] fun (r : AV) (H' : List AObj) =>
        ∃ (x : ByteArray × Int × Int),
        r = AV.str (Prod.fst x) ∧
        H' = [AObj.cells [AV.sl 1 (Seq.map encB (0 : UInt8) bs) Tip.none, AV.int IntKind.i64 (Prod.fst (Prod.snd x)), AV.int IntKind.i64 (Prod.snd (Prod.snd x))], AObj.tok] ∧
        ASpec Try.prog 143 [AV.ptr 0 0, AV.int IntKind.i64 (6 : Int)]
        [AObj.cells [AV.sl 1 (Seq.map encB (0 : UInt8) bs) Tip.none, AV.int IntKind.i64 (Prod.fst (Prod.snd x)), AV.int IntKind.i64 (Prod.snd (Prod.snd x))], AObj.tok,
        AObj.cells [AV.str (Prod.fst x), AV.sl 0 (Seq.raw []) Tip.nil]]
        fun (r : AV) (H' : List AObj) =>
        ∃ (x_1 : Int × Int × Int),
        r = AV.int IntKind.i64 (Prod.fst x_1) ∧
        H' =
        [AObj.cells [AV.sl 1 (Seq.map encB (0 : UInt8) bs) Tip.none, AV.int IntKind.i64 (Prod.fst (Prod.snd x_1)), AV.int IntKind.i64 (Prod.snd (Prod.snd x_1))],
        AObj.tok, AObj.cells [AV.str (Prod.fst x), AV.sl 0 (Seq.raw []) Tip.nil]] ∧
        AWP Try.prog 51 n_1 c284_7
        [(0, AV.ptr 0 0), (3, AV.sl 2 (Seq.map T.encN ([], []) acc) (Tip.tok 1)), (4, AV.int IntKind.i64 n),
        (5, AV.ptr 2 0), (6, AV.int IntKind.i64 (Prod.fst x_1))]
        [AObj.cells [AV.sl 1 (Seq.map encB (0 : UInt8) bs) Tip.none, AV.int IntKind.i64 (Prod.fst (Prod.snd x_1)), AV.int IntKind.i64 (Prod.snd (Prod.snd x_1))],
        AObj.tok, AObj.cells [AV.str (Prod.fst x), AV.sl 0 (Seq.raw []) Tip.nil]]
        (q284_7 n_1 Post))
        (Post (AV.sl 2 (Seq.map T.encN ([], []) acc) (Tip.tok 1))
        [AObj.cells [AV.sl 1 (Seq.map encB (0 : UInt8) bs) Tip.none, AV.int IntKind.i64 p, AV.int IntKind.i64 e], AObj.tok]))
      (Post (AV.sl 2 (Seq.map T.encN ([], []) acc) (Tip.tok 1))
        [AObj.cells [AV.sl 1 (Seq.map encB (0 : UInt8) bs) Tip.none, AV.int IntKind.i64 p, AV.int IntKind.i64 e], AObj.tok]) →
    AWP Try.prog 51 n_1 c284_3 [(0, AV.ptr 0 0), (3, AV.sl 2 (Seq.map T.encN ([], []) acc) (Tip.tok 1)), (4, AV.int IntKind.i64 n)]
      [V.rd bs p e, AObj.tok] (q284_2 n_1 Post) := fun bs p e acc n n Post h => Go.Ab.AWP.loop' g284 (Cfg.live g284) c284_3 (by kernel_rfl) (by kernel_rfl) (Go.Ab.kc (by kernel_rfl) h)
theorem v284_7 : ∀ (bs : List UInt8) (p e : Int) (acc : List T.Need) (n : Int) (nm : ByteArray) (sp : List T.Span) (k : Int) (n_1 : Nat) (Post : AV → List AObj → Prop),
  condP (decide (k > (0 : Int)))
      (ASpec Try.prog 144 [AV.ptr 0 0]
        [AObj.cells [AV.sl 1 (Seq.map encB (0 : UInt8) bs) Tip.none, AV.int IntKind.i64 p, AV.int IntKind.i64 e], AObj.tok,
        AObj.cells [AV.str nm, AV.sl 2 (Seq.map T.encS ((0 : Int), (0 : Int)) sp) (Tip.tok 3)], AObj.tok]
        fun (r : AV) (H' : List AObj) =>
        ∃ (x : Int),
        r = AV.int IntKind.i64 x ∧
        H' =
        [AObj.cells [AV.sl 1 (Seq.map encB (0 : UInt8) bs) Tip.none, AV.int IntKind.i64 p, AV.int IntKind.i64 e], AObj.tok,
        AObj.cells [AV.str nm, AV.sl 2 (Seq.map T.encS ((0 : Int), (0 : Int)) sp) (Tip.tok 3)], AObj.tok] ∧
        condP (x == (0 : Int))
        (ASpec Try.prog 143 [AV.ptr 0 0, AV.int IntKind.i64 (1000000000 : Int)]
        [AObj.cells [AV.sl 1 (Seq.map encB (0 : UInt8) bs) Tip.none, AV.int IntKind.i64 p, AV.int IntKind.i64 e], AObj.tok,
        AObj.cells [AV.str nm, AV.sl 2 (Seq.map T.encS ((0 : Int), (0 : Int)) sp) (Tip.tok 3)], AObj.tok]
        fun (r : AV) (H' : List AObj) =>
        ∃ (x : Int × Int × Int),
        r = AV.int IntKind.i64 (Prod.fst x) ∧
        H' =
        [AObj.cells [AV.sl 1 (Seq.map encB (0 : UInt8) bs) Tip.none, AV.int IntKind.i64 (Prod.fst (Prod.snd x)), AV.int IntKind.i64 (Prod.snd (Prod.snd x))], AObj.tok,
        AObj.cells [AV.str nm, AV.sl 2 (Seq.map T.encS ((0 : Int), (0 : Int)) sp) (Tip.tok 3)], AObj.tok] ∧
        ASpec Try.prog 143 [AV.ptr 0 0, AV.int IntKind.i64 (1000000000 : Int)]
        [AObj.cells [AV.sl 1 (Seq.map encB (0 : UInt8) bs) Tip.none, AV.int IntKind.i64 (Prod.fst (Prod.snd x)), AV.int IntKind.i64 (Prod.snd (Prod.snd x))], AObj.tok,
        AObj.cells [AV.str nm, AV.sl 2 (Seq.map T.encS ((0 : Int), (0 : Int)) sp) (Tip.tok 3)], AObj.tok]
        fun (r : AV) (H' : List AObj) =>
        ∃ (x_1 : Int × Int × Int),
        r = AV.int IntKind.i64 (Prod.fst x_1) ∧
        H' =
        [AObj.cells [AV.sl 1 (Seq.map encB (0 : UInt8) bs) Tip.none, AV.int IntKind.i64 (Prod.fst (Prod.snd x_1)), AV.int IntKind.i64 (Prod.snd (Prod.snd x_1))],
        AObj.tok, AObj.cells [AV.str nm, AV.sl 2 (Seq.map T.encS ((0 : Int), (0 : Int)) sp) (Tip.tok 3)], AObj.tok] ∧
        (AV.sl 2 (Seq.map T.encS ((0 : Int), (0 : Int)) sp) (Tip.tok 3) = AV.sl 2 (Seq.map T.encS ((0 : Int), (0 : Int)) sp) (Tip.tok 3) ∧
        [AObj.cells [AV.sl 1 (Seq.map encB (0 : UInt8) bs) Tip.none, AV.int IntKind.i64 (Prod.fst (Prod.snd x_1)), AV.int IntKind.i64 (Prod.snd (Prod.snd x_1))],
        AObj.tok, AObj.cells [AV.str nm, AV.sl 2 (Seq.map T.encS ((0 : Int), (0 : Int)) sp) (Tip.tok 3)], AObj.tok] =
        [AObj.cells [AV.sl 1 (Seq.map encB (0 : UInt8) bs) Tip.none, AV.int IntKind.i64 (Prod.fst (Prod.snd x_1)), AV.int IntKind.i64 (Prod.snd (Prod.snd x_1))],
        AObj.tok, AObj.cells [AV.str nm, AV.sl 2 (Seq.map T.encS ((0 : Int), (0 : Int)) sp) (Tip.tok 3)], AObj.tok]) ∧
        needP ((List.length sp + 1) * 16 ≤ 140737488351232)
        (AWP Try.prog 51 n_1 c284_7
        [(0, AV.ptr 0 0), (3, AV.sl 2 (Seq.map T.encN ([], []) acc) (Tip.tok 1)), (4, AV.int IntKind.i64 n),
        (5, AV.ptr 2 0), (6, AV.int IntKind.i64 (IntKind.wrap IntKind.i64 (k - (1 : Int))))]
        [AObj.cells [AV.sl 1 (Seq.map encB (0 : UInt8) bs) Tip.none, AV.int IntKind.i64 (Prod.fst (Prod.snd x_1)), AV.int IntKind.i64 (Prod.snd (Prod.snd x_1))],
        AObj.tok,
        AObj.cells
        [AV.str nm,
        AV.sl 2
        (Seq.app (Seq.map T.encS ((0 : Int), (0 : Int)) sp)
        (Seq.raw [[AV.int IntKind.i64 (Prod.fst x), AV.int IntKind.i64 (IntKind.wrap IntKind.i64 (Prod.fst x + Prod.fst x_1))]]))
        (Tip.tok 4)],
        AObj.gone, AObj.tok]
        (q284_7 n_1 Post)))
        (needP ((List.length acc + 1) * 40 ≤ 140737488351232)
        (AWP Try.prog 51 n_1 c284_3
        [(0, AV.ptr 0 0),
        (3,
        AV.sl 2 (Seq.app (Seq.map T.encN ([], []) acc) (Seq.raw [[AV.str nm, AV.sl 2 (Seq.map T.encS ((0 : Int), (0 : Int)) sp) (Tip.tok 3)]]))
        (Tip.tok 4)),
        (4, AV.int IntKind.i64 (IntKind.wrap IntKind.i64 (n - (1 : Int))))]
        [AObj.cells [AV.sl 1 (Seq.map encB (0 : UInt8) bs) Tip.none, AV.int IntKind.i64 p, AV.int IntKind.i64 e], AObj.gone,
        AObj.cells [AV.str nm, AV.sl 2 (Seq.map T.encS ((0 : Int), (0 : Int)) sp) (Tip.tok 3)], AObj.tok, AObj.tok]
        (q284_2 n_1 Post))))
      (needP ((List.length acc + 1) * 40 ≤ 140737488351232)
        (AWP Try.prog 51 n_1 c284_3
        [(0, AV.ptr 0 0),
        (3,
        AV.sl 2 (Seq.app (Seq.map T.encN ([], []) acc) (Seq.raw [[AV.str nm, AV.sl 2 (Seq.map T.encS ((0 : Int), (0 : Int)) sp) (Tip.tok 3)]])) (Tip.tok 4)),
        (4, AV.int IntKind.i64 (IntKind.wrap IntKind.i64 (n - (1 : Int))))]
        [AObj.cells [AV.sl 1 (Seq.map encB (0 : UInt8) bs) Tip.none, AV.int IntKind.i64 p, AV.int IntKind.i64 e], AObj.gone,
        AObj.cells [AV.str nm, AV.sl 2 (Seq.map T.encS ((0 : Int), (0 : Int)) sp) (Tip.tok 3)], AObj.tok, AObj.tok]
        (q284_2 n_1 Post))) →
    AWP Try.prog 51 n_1 c284_7
      [(0, AV.ptr 0 0), (3, AV.sl 2 (Seq.map T.encN ([], []) acc) (Tip.tok 1)), (4, AV.int IntKind.i64 n),
        (5, AV.ptr 2 0), (6, AV.int IntKind.i64 k)]
      [V.rd bs p e, AObj.tok, AObj.cells [AV.str nm, AV.sl 2 (Seq.map T.encS ((0 : Int), (0 : Int)) sp) (Tip.tok 3)], AObj.tok] (q284_7 n_1 Post) := fun bs p e acc n nm sp k n Post h => Go.Ab.AWP.loop' g284 (Cfg.live g284) c284_7 (by kernel_rfl) (by kernel_rfl) (Go.Ab.kc (by kernel_rfl) h)

-- 191
noncomputable def l191 : Nat → List Nat
  | _ => []
noncomputable def u191 : Nat → Bool
  | _ => false
noncomputable def m191 : Nat → Bool
  | _ => false
noncomputable def g191 : Cfg := { N := 32, live := l191, cut := u191, mu := m191, ret := rets }
theorem s191 : ∀ (bs : List UInt8) (p e : Int) (Post : AV → List AObj → Prop),
  (ASpec Try.prog 143 [AV.ptr 0 0, AV.int IntKind.i64 (4 : Int)]
      [AObj.cells [AV.sl 1 (Seq.map encB (0 : UInt8) bs) Tip.none, AV.int IntKind.i64 p, AV.int IntKind.i64 e],
        AObj.cells [AV.int IntKind.i64 (0 : Int), AV.sl 0 (Seq.raw []) Tip.nil, AV.int IntKind.i64 (0 : Int), AV.int IntKind.i64 (0 : Int), AV.sl 0 (Seq.raw []) Tip.nil]]
      fun (r : AV) (H' : List AObj) =>
      ∃ (x : Int × Int × Int),
        r = AV.int IntKind.i64 (Prod.fst x) ∧
        H' =
        [AObj.cells [AV.sl 1 (Seq.map encB (0 : UInt8) bs) Tip.none, AV.int IntKind.i64 (Prod.fst (Prod.snd x)), AV.int IntKind.i64 (Prod.snd (Prod.snd x))],
        AObj.cells [AV.int IntKind.i64 (0 : Int), AV.sl 0 (Seq.raw []) Tip.nil, AV.int IntKind.i64 (0 : Int), AV.int IntKind.i64 (0 : Int), AV.sl 0 (Seq.raw []) Tip.nil]] ∧
        condP (Prod.fst x == (1 : Int))
        (ASpec Try.prog 143 [AV.ptr 0 0, AV.int IntKind.i64 (1099511627776 : Int)]
        [AObj.cells [AV.sl 1 (Seq.map encB (0 : UInt8) bs) Tip.none, AV.int IntKind.i64 (Prod.fst (Prod.snd x)), AV.int IntKind.i64 (Prod.snd (Prod.snd x))],
        AObj.cells [AV.int IntKind.i64 (0 : Int), AV.sl 0 (Seq.raw []) Tip.nil, AV.int IntKind.i64 (0 : Int), AV.int IntKind.i64 (0 : Int), AV.sl 0 (Seq.raw []) Tip.nil],
        AObj.cells [AV.int IntKind.i64 (Prod.fst x), AV.sl 0 (Seq.raw []) Tip.nil, AV.int IntKind.i64 (0 : Int), AV.int IntKind.i64 (0 : Int), AV.sl 0 (Seq.raw []) Tip.nil]]
        fun (r : AV) (H' : List AObj) =>
        ∃ (x_1 : Int × Int × Int),
        r = AV.int IntKind.i64 (Prod.fst x_1) ∧
        H' =
        [AObj.cells [AV.sl 1 (Seq.map encB (0 : UInt8) bs) Tip.none, AV.int IntKind.i64 (Prod.fst (Prod.snd x_1)), AV.int IntKind.i64 (Prod.snd (Prod.snd x_1))],
        AObj.cells
        [AV.int IntKind.i64 (0 : Int), AV.sl 0 (Seq.raw []) Tip.nil, AV.int IntKind.i64 (0 : Int), AV.int IntKind.i64 (0 : Int), AV.sl 0 (Seq.raw []) Tip.nil],
        AObj.cells
        [AV.int IntKind.i64 (Prod.fst x), AV.sl 0 (Seq.raw []) Tip.nil, AV.int IntKind.i64 (0 : Int), AV.int IntKind.i64 (0 : Int), AV.sl 0 (Seq.raw []) Tip.nil]] ∧
        ASpec Try.prog 284 [AV.ptr 0 0]
        [AObj.cells [AV.sl 1 (Seq.map encB (0 : UInt8) bs) Tip.none, AV.int IntKind.i64 (Prod.fst (Prod.snd x_1)), AV.int IntKind.i64 (Prod.snd (Prod.snd x_1))],
        AObj.cells
        [AV.int IntKind.i64 (0 : Int), AV.sl 0 (Seq.raw []) Tip.nil, AV.int IntKind.i64 (0 : Int), AV.int IntKind.i64 (0 : Int), AV.sl 0 (Seq.raw []) Tip.nil],
        AObj.cells
        [AV.int IntKind.i64 (Prod.fst x), AV.sl 0 (Seq.raw []) Tip.nil, AV.int IntKind.i64 (Prod.fst x_1), AV.int IntKind.i64 (0 : Int),
        AV.sl 0 (Seq.raw []) Tip.nil]]
        fun (r : AV) (H' : List AObj) =>
        ∃ (x_2 : List T.Need × Int × Int),
        r = AV.sl 2 (Seq.map T.encN ([], []) (Prod.fst x_2)) Tip.none ∧
        H' =
        [AObj.cells [AV.sl 1 (Seq.map encB (0 : UInt8) bs) Tip.none, AV.int IntKind.i64 (Prod.fst (Prod.snd x_2)), AV.int IntKind.i64 (Prod.snd (Prod.snd x_2))],
        AObj.cells
        [AV.int IntKind.i64 (0 : Int), AV.sl 0 (Seq.raw []) Tip.nil, AV.int IntKind.i64 (0 : Int), AV.int IntKind.i64 (0 : Int),
        AV.sl 0 (Seq.raw []) Tip.nil],
        AObj.cells
        [AV.int IntKind.i64 (Prod.fst x), AV.sl 0 (Seq.raw []) Tip.nil, AV.int IntKind.i64 (Prod.fst x_1), AV.int IntKind.i64 (0 : Int),
        AV.sl 0 (Seq.raw []) Tip.nil]] ∧
        Post
        (AV.agg
        [AV.int IntKind.i64 (Prod.fst x), AV.sl 2 (Seq.map T.encN ([], []) (Prod.fst x_2)) Tip.none, AV.int IntKind.i64 (Prod.fst x_1), AV.int IntKind.i64 (0 : Int),
        AV.sl 0 (Seq.raw []) Tip.nil])
        [AObj.cells [AV.sl 1 (Seq.map encB (0 : UInt8) bs) Tip.none, AV.int IntKind.i64 (Prod.fst (Prod.snd x_2)), AV.int IntKind.i64 (Prod.snd (Prod.snd x_2))],
        AObj.cells
        [AV.int IntKind.i64 (Prod.fst x), AV.sl 2 (Seq.map T.encN ([], []) (Prod.fst x_2)) Tip.none, AV.int IntKind.i64 (Prod.fst x_1),
        AV.int IntKind.i64 (0 : Int), AV.sl 0 (Seq.raw []) Tip.nil],
        AObj.cells
        [AV.int IntKind.i64 (Prod.fst x), AV.sl 2 (Seq.map T.encN ([], []) (Prod.fst x_2)) Tip.none, AV.int IntKind.i64 (Prod.fst x_1),
        AV.int IntKind.i64 (0 : Int), AV.sl 0 (Seq.raw []) Tip.nil]])
        (condP (Prod.fst x == (3 : Int))
        (ASpec Try.prog 143 [AV.ptr 0 0, AV.int IntKind.i64 (1099511627776 : Int)]
        [AObj.cells [AV.sl 1 (Seq.map encB (0 : UInt8) bs) Tip.none, AV.int IntKind.i64 (Prod.fst (Prod.snd x)), AV.int IntKind.i64 (Prod.snd (Prod.snd x))],
        AObj.cells [AV.int IntKind.i64 (0 : Int), AV.sl 0 (Seq.raw []) Tip.nil, AV.int IntKind.i64 (0 : Int), AV.int IntKind.i64 (0 : Int), AV.sl 0 (Seq.raw []) Tip.nil],
        AObj.cells
        [AV.int IntKind.i64 (Prod.fst x), AV.sl 0 (Seq.raw []) Tip.nil, AV.int IntKind.i64 (0 : Int), AV.int IntKind.i64 (0 : Int), AV.sl 0 (Seq.raw []) Tip.nil]]
        fun (r : AV) (H' : List AObj) =>
        ∃ (x_1 : Int × Int × Int),
        r = AV.int IntKind.i64 (Prod.fst x_1) ∧
        H' =
        [AObj.cells [AV.sl 1 (Seq.map encB (0 : UInt8) bs) Tip.none, AV.int IntKind.i64 (Prod.fst (Prod.snd x_1)), AV.int IntKind.i64 (Prod.snd (Prod.snd x_1))],
        AObj.cells
        [AV.int IntKind.i64 (0 : Int), AV.sl 0 (Seq.raw []) Tip.nil, AV.int IntKind.i64 (0 : Int), AV.int IntKind.i64 (0 : Int), AV.sl 0 (Seq.raw []) Tip.nil],
        AObj.cells
        [AV.int IntKind.i64 (Prod.fst x), AV.sl 0 (Seq.raw []) Tip.nil, AV.int IntKind.i64 (0 : Int), AV.int IntKind.i64 (0 : Int),
        AV.sl 0 (Seq.raw []) Tip.nil]] ∧
        ASpec Try.prog 145 [AV.ptr 0 0, AV.int IntKind.i64 (9000 : Int)]
        [AObj.cells [AV.sl 1 (Seq.map encB (0 : UInt8) bs) Tip.none, AV.int IntKind.i64 (Prod.fst (Prod.snd x_1)), AV.int IntKind.i64 (Prod.snd (Prod.snd x_1))],
        AObj.cells
        [AV.int IntKind.i64 (0 : Int), AV.sl 0 (Seq.raw []) Tip.nil, AV.int IntKind.i64 (0 : Int), AV.int IntKind.i64 (0 : Int), AV.sl 0 (Seq.raw []) Tip.nil],
        AObj.cells
        [AV.int IntKind.i64 (Prod.fst x), AV.sl 0 (Seq.raw []) Tip.nil, AV.int IntKind.i64 (0 : Int), AV.int IntKind.i64 (Prod.fst x_1),
        AV.sl 0 (Seq.raw []) Tip.nil]]
        fun (r : AV) (H' : List AObj) =>
        ∃ (x_2 : ByteArray × Int × Int),
        r = AV.str (Prod.fst x_2) ∧
        H' =
        [AObj.cells [AV.sl 1 (Seq.map encB (0 : UInt8) bs) Tip.none, AV.int IntKind.i64 (Prod.fst (Prod.snd x_2)), AV.int IntKind.i64 (Prod.snd (Prod.snd x_2))],
        AObj.cells
        [AV.int IntKind.i64 (0 : Int), AV.sl 0 (Seq.raw []) Tip.nil, AV.int IntKind.i64 (0 : Int), AV.int IntKind.i64 (0 : Int),
        AV.sl 0 (Seq.raw []) Tip.nil],
        AObj.cells
        [AV.int IntKind.i64 (Prod.fst x), AV.sl 0 (Seq.raw []) Tip.nil, AV.int IntKind.i64 (0 : Int), AV.int IntKind.i64 (Prod.fst x_1),
        AV.sl 0 (Seq.raw []) Tip.nil]] ∧
        Post
        (AV.agg
        [AV.int IntKind.i64 (Prod.fst x), AV.sl 0 (Seq.raw []) Tip.nil, AV.int IntKind.i64 (0 : Int), AV.int IntKind.i64 (Prod.fst x_1),
        AV.sl 1 (bytesSeq (Prod.fst x_2)) Tip.none])
        [AObj.cells [AV.sl 1 (Seq.map encB (0 : UInt8) bs) Tip.none, AV.int IntKind.i64 (Prod.fst (Prod.snd x_2)), AV.int IntKind.i64 (Prod.snd (Prod.snd x_2))],
        AObj.cells
        [AV.int IntKind.i64 (Prod.fst x), AV.sl 0 (Seq.raw []) Tip.nil, AV.int IntKind.i64 (0 : Int), AV.int IntKind.i64 (Prod.fst x_1),
        AV.sl 1 (bytesSeq (Prod.fst x_2)) Tip.none],
        AObj.cells
        [AV.int IntKind.i64 (Prod.fst x), AV.sl 0 (Seq.raw []) Tip.nil, AV.int IntKind.i64 (0 : Int), AV.int IntKind.i64 (Prod.fst x_1),
        AV.sl 1 (bytesSeq (Prod.fst x_2)) Tip.none]])
        (condP (Prod.fst x == (4 : Int))
        (ASpec Try.prog 143 [AV.ptr 0 0, AV.int IntKind.i64 (1099511627776 : Int)]
        [AObj.cells [AV.sl 1 (Seq.map encB (0 : UInt8) bs) Tip.none, AV.int IntKind.i64 (Prod.fst (Prod.snd x)), AV.int IntKind.i64 (Prod.snd (Prod.snd x))],
        AObj.cells [AV.int IntKind.i64 (0 : Int), AV.sl 0 (Seq.raw []) Tip.nil, AV.int IntKind.i64 (0 : Int), AV.int IntKind.i64 (0 : Int), AV.sl 0 (Seq.raw []) Tip.nil],
        AObj.cells
        [AV.int IntKind.i64 (Prod.fst x), AV.sl 0 (Seq.raw []) Tip.nil, AV.int IntKind.i64 (0 : Int), AV.int IntKind.i64 (0 : Int), AV.sl 0 (Seq.raw []) Tip.nil]]
        fun (r : AV) (H' : List AObj) =>
        ∃ (x_1 : Int × Int × Int),
        r = AV.int IntKind.i64 (Prod.fst x_1) ∧
        H' =
        [AObj.cells [AV.sl 1 (Seq.map encB (0 : UInt8) bs) Tip.none, AV.int IntKind.i64 (Prod.fst (Prod.snd x_1)), AV.int IntKind.i64 (Prod.snd (Prod.snd x_1))],
        AObj.cells
        [AV.int IntKind.i64 (0 : Int), AV.sl 0 (Seq.raw []) Tip.nil, AV.int IntKind.i64 (0 : Int), AV.int IntKind.i64 (0 : Int), AV.sl 0 (Seq.raw []) Tip.nil],
        AObj.cells
        [AV.int IntKind.i64 (Prod.fst x), AV.sl 0 (Seq.raw []) Tip.nil, AV.int IntKind.i64 (0 : Int), AV.int IntKind.i64 (0 : Int),
        AV.sl 0 (Seq.raw []) Tip.nil]] ∧
        Post
        (AV.agg
        [AV.int IntKind.i64 (Prod.fst x), AV.sl 0 (Seq.raw []) Tip.nil, AV.int IntKind.i64 (0 : Int), AV.int IntKind.i64 (Prod.fst x_1),
        AV.sl 0 (Seq.raw []) Tip.nil])
        [AObj.cells [AV.sl 1 (Seq.map encB (0 : UInt8) bs) Tip.none, AV.int IntKind.i64 (Prod.fst (Prod.snd x_1)), AV.int IntKind.i64 (Prod.snd (Prod.snd x_1))],
        AObj.cells
        [AV.int IntKind.i64 (Prod.fst x), AV.sl 0 (Seq.raw []) Tip.nil, AV.int IntKind.i64 (0 : Int), AV.int IntKind.i64 (Prod.fst x_1),
        AV.sl 0 (Seq.raw []) Tip.nil],
        AObj.cells
        [AV.int IntKind.i64 (Prod.fst x), AV.sl 0 (Seq.raw []) Tip.nil, AV.int IntKind.i64 (0 : Int), AV.int IntKind.i64 (Prod.fst x_1),
        AV.sl 0 (Seq.raw []) Tip.nil]])
        (Post
        (AV.agg [AV.int IntKind.i64 (Prod.fst x), AV.sl 0 (Seq.raw []) Tip.nil, AV.int IntKind.i64 (0 : Int), AV.int IntKind.i64 (0 : Int), AV.sl 0 (Seq.raw []) Tip.nil])
        [AObj.cells [AV.sl 1 (Seq.map encB (0 : UInt8) bs) Tip.none, AV.int IntKind.i64 (Prod.fst (Prod.snd x)), AV.int IntKind.i64 (Prod.snd (Prod.snd x))],
        AObj.cells
        [AV.int IntKind.i64 (Prod.fst x), AV.sl 0 (Seq.raw []) Tip.nil, AV.int IntKind.i64 (0 : Int), AV.int IntKind.i64 (0 : Int), AV.sl 0 (Seq.raw []) Tip.nil],
        AObj.cells
        [AV.int IntKind.i64 (Prod.fst x), AV.sl 0 (Seq.raw []) Tip.nil, AV.int IntKind.i64 (0 : Int), AV.int IntKind.i64 (0 : Int), AV.sl 0 (Seq.raw []) Tip.nil]])))) →
    ASpec Try.prog 191 [AV.ptr 0 0] [V.rd bs p e] Post := fun bs p e Post h => Go.Ab.ASpec.of_vc g191 Go.Proofs.Try.func191 (by kernel_rfl) (by kernel_rfl) (by kernel_rfl) (Go.Ab.kc (by kernel_rfl) h)

-- 192
noncomputable def l192 : Nat → List Nat
  | _ => []
noncomputable def u192 : Nat → Bool
  | _ => false
noncomputable def m192 : Nat → Bool
  | _ => false
noncomputable def g192 : Cfg := { N := 6, live := l192, cut := u192, mu := m192, ret := rets }
theorem s192 : ∀ (e : T.Ev) (Post : AV → List AObj → Prop),
  (ASpec Try.prog 189
      [AV.agg
        [AV.int IntKind.i64 (Prod.fst e), AV.sl 2 (Seq.map T.encN ([], []) (Prod.fst (Prod.snd e))) Tip.none, AV.int IntKind.i64 (Prod.fst (Prod.snd (Prod.snd e))),
        AV.int IntKind.i64 (Prod.fst (Prod.snd (Prod.snd (Prod.snd e)))), AV.sl 1 (Seq.map encB (0 : UInt8) (Prod.snd (Prod.snd (Prod.snd (Prod.snd e))))) Tip.none]]
      [AObj.cells
        [AV.int IntKind.i64 (Prod.fst e), AV.sl 2 (Seq.map T.encN ([], []) (Prod.fst (Prod.snd e))) Tip.none, AV.int IntKind.i64 (Prod.fst (Prod.snd (Prod.snd e))),
        AV.int IntKind.i64 (Prod.fst (Prod.snd (Prod.snd (Prod.snd e)))), AV.sl 1 (Seq.map encB (0 : UInt8) (Prod.snd (Prod.snd (Prod.snd (Prod.snd e))))) Tip.none]]
      fun (r : AV) (H' : List AObj) =>
      ∃ (x : Bool),
        r = AV.bool x ∧
        H' =
        [AObj.cells
        [AV.int IntKind.i64 (Prod.fst e), AV.sl 2 (Seq.map T.encN ([], []) (Prod.fst (Prod.snd e))) Tip.none, AV.int IntKind.i64 (Prod.fst (Prod.snd (Prod.snd e))),
        AV.int IntKind.i64 (Prod.fst (Prod.snd (Prod.snd (Prod.snd e)))), AV.sl 1 (Seq.map encB (0 : UInt8) (Prod.snd (Prod.snd (Prod.snd (Prod.snd e))))) Tip.none]] ∧
        Post (AV.bool !x)
        [AObj.cells
        [AV.int IntKind.i64 (Prod.fst e), AV.sl 2 (Seq.map T.encN ([], []) (Prod.fst (Prod.snd e))) Tip.none, AV.int IntKind.i64 (Prod.fst (Prod.snd (Prod.snd e))),
        AV.int IntKind.i64 (Prod.fst (Prod.snd (Prod.snd (Prod.snd e)))), AV.sl 1 (Seq.map encB (0 : UInt8) (Prod.snd (Prod.snd (Prod.snd (Prod.snd e))))) Tip.none]]) →
    ASpec Try.prog 192 [AV.agg (T.encE e)] [] Post := fun e Post h => Go.Ab.ASpec.of_vc g192 Go.Proofs.Try.func192 (by kernel_rfl) (by kernel_rfl) (by kernel_rfl) (Go.Ab.kc (by kernel_rfl) h)

-- 187
noncomputable def l187 : Nat → List Nat
  | _ => []
noncomputable def u187 : Nat → Bool
  | _ => false
noncomputable def m187 : Nat → Bool
  | _ => false
noncomputable def g187 : Cfg := { N := 9, live := l187, cut := u187, mu := m187, ret := rets }
theorem s187 : ∀ (l : List T.Ev) (Post : AV → List AObj → Prop),
  (ASpec Try.prog 281 [AV.sl 5 (Seq.map T.encE T.noEv l) Tip.none, AV.fn (192 : FuncId) []] [] fun (r : AV) (H' : List AObj) =>
      ∃ (x : Int), r = AV.int IntKind.i64 x ∧ H' = [] ∧ Post (AV.bool (decide (x ≥ (0 : Int)))) []) →
    ASpec Try.prog 187 [AV.sl 5 (Seq.map T.encE T.noEv l) Tip.none, AV.fn (192 : FuncId) []] [] Post := fun l Post h => Go.Ab.ASpec.of_vc g187 Go.Proofs.Try.func187 (by kernel_rfl) (by kernel_rfl) (by kernel_rfl) (Go.Ab.kc (by kernel_rfl) h)

-- 281
noncomputable def l281 : Nat → List Nat
  | 2 => [0, 1, 7, 8]
  | _ => []
noncomputable def u281 : Nat → Bool
  | _ => false
noncomputable def m281 : Nat → Bool
  | _ => false
noncomputable def g281 : Cfg := { N := 19, live := l281, cut := u281, mu := m281, ret := rets }
noncomputable def c281 : Go.Code := Go.Ab.bodyOf Go.Proofs.Try.f281
noncomputable def q281_0 : Nat → (AV → List AObj → Prop) → AQ := fun (n : Nat) (Post : AV → List AObj → Prop) => endQ Try.prog (resultsOf Try.f281) Post
noncomputable def q281_1 : Nat → (AV → List AObj → Prop) → AQ := fun (n : Nat) (Post : AV → List AObj → Prop) => seqQ (fun (s' : Slots) (H' : List AObj) => awp Try.prog g281 n (codeSnd (codeSnd c281)) s' H' (q281_0 n Post)) (q281_0 n Post)
noncomputable def q281_2 : Nat → (AV → List AObj → Prop) → AQ := fun (n : Nat) (Post : AV → List AObj → Prop) => blockQ 0 (q281_1 n Post)
noncomputable def c281_2 : Go.Code := codeFst (codeSnd (codeFst (codeSnd c281)))
theorem s281 : ∀ (l : List T.Ev) (Post : AV → List AObj → Prop),
  AWP Try.prog 19 0 c281_2
      [(0, AV.sl 5 (Seq.map T.encE T.noEv l) Tip.none), (1, AV.fn (192 : FuncId) []), (7, AV.int IntKind.i64 (↑(List.length l) : Int)),
        (8, AV.int IntKind.i64 (0 : Int))]
      [] (q281_2 0 Post) →
    ASpec Try.prog 281 [AV.sl 5 (Seq.map T.encE T.noEv l) Tip.none, AV.fn (192 : FuncId) []] [] Post := fun l Post h => Go.Ab.ASpec.of_vc g281 Go.Proofs.Try.func281 (by kernel_rfl) (by kernel_rfl) (by kernel_rfl) (Go.Ab.kc (by kernel_rfl) h)
theorem v281_2 : ∀ (l : List T.Ev) (n i : Int) (n_1 : Nat) (Post : AV → List AObj → Prop),
  condP (decide (i < n))
      (needP ((0 : Int) ≤ i ∧ i < (↑(List.length l) : Int))
        (ASpec Try.prog 192
        [AV.agg
        [AV.int IntKind.i64 (Prod.fst (List.getD l (Int.toNat i) T.noEv)), AV.sl 2 (Seq.map T.encN ([], []) (Prod.fst (Prod.snd (List.getD l (Int.toNat i) T.noEv)))) Tip.none,
        AV.int IntKind.i64 (Prod.fst (Prod.snd (Prod.snd (List.getD l (Int.toNat i) T.noEv)))),
        AV.int IntKind.i64 (Prod.fst (Prod.snd (Prod.snd (Prod.snd (List.getD l (Int.toNat i) T.noEv))))),
        AV.sl 1 (Seq.map encB (0 : UInt8) (Prod.snd (Prod.snd (Prod.snd (Prod.snd (List.getD l (Int.toNat i) T.noEv)))))) Tip.none]]
        [] fun (r : AV) (H' : List AObj) =>
        ∃ (x : Bool),
        r = AV.bool x ∧
        H' = [] ∧
        condP x (Post (AV.int IntKind.i64 i) [])
        (AWP Try.prog 19 n_1 c281_2
        [(0, AV.sl 5 (Seq.map T.encE T.noEv l) Tip.none), (1, AV.fn (192 : FuncId) []), (7, AV.int IntKind.i64 n),
        (8, AV.int IntKind.i64 (IntKind.wrap IntKind.i64 (i + (1 : Int))))]
        [] (q281_2 n_1 Post))))
      (Post (AV.int IntKind.i64 (-1 : Int)) []) →
    AWP Try.prog 19 n_1 c281_2
      [(0, AV.sl 5 (Seq.map T.encE T.noEv l) Tip.none), (1, AV.fn (192 : FuncId) []), (7, AV.int IntKind.i64 n), (8, AV.int IntKind.i64 i)] [] (q281_2 n_1 Post) := fun l n i n Post h => Go.Ab.AWP.loop' g281 (Cfg.live g281) c281_2 (by kernel_rfl) (by kernel_rfl) (Go.Ab.kc (by kernel_rfl) h)

-- 73
noncomputable def l73 : Nat → List Nat
  | 4 => [4, 5, 6]
  | 7 => [4, 5]
  | _ => []
noncomputable def u73 : Nat → Bool
  | 7 => true
  | _ => false
noncomputable def m73 : Nat → Bool
  | _ => false
noncomputable def g73 : Cfg := { N := 38, live := l73, cut := u73, mu := m73, ret := rets }
noncomputable def c73 : Go.Code := Go.Ab.bodyOf Go.Proofs.Try.f73
noncomputable def q73_0 : Nat → (AV → List AObj → Prop) → AQ := fun (n : Nat) (Post : AV → List AObj → Prop) => endQ Try.prog (resultsOf Try.f73) Post
noncomputable def c73_7 : Go.Code := codeSnd (codeSnd (codeSnd (codeSnd c73)))
noncomputable def q73_1 : Nat → (AV → List AObj → Prop) → AQ := fun (n : Nat) (Post : AV → List AObj → Prop) => seqQ (fun (s' : Slots) (H' : List AObj) => AWP Try.prog (Cfg.N g73) n c73_7 (restrict s' (Cfg.live g73 7)) H' (q73_0 n Post)) (q73_0 n Post)
noncomputable def q73_2 : Nat → (AV → List AObj → Prop) → AQ := fun (n : Nat) (Post : AV → List AObj → Prop) => blockQ 0 (q73_1 n Post)
noncomputable def c73_4 : Go.Code := codeFst (codeSnd (codeFst (codeSnd (codeSnd (codeSnd c73)))))
theorem s73 : ∀ (bs : List UInt8) (Post : AV → List AObj → Prop),
  (ASpec Try.prog 142 [AV.sl 1 (Seq.map encB (0 : UInt8) bs) Tip.none] [] fun (r : AV) (H' : List AObj) =>
      ∃ (x : List UInt8),
        r = AV.ptr 0 0 ∧
        H' = [AObj.cells [AV.sl 1 (Seq.map encB (0 : UInt8) x) Tip.none, AV.int IntKind.i64 (0 : Int), AV.int IntKind.i64 (0 : Int)]] ∧
        ASpec Try.prog 143 [AV.ptr 0 0, AV.int IntKind.i64 (400 : Int)]
        [AObj.cells [AV.sl 1 (Seq.map encB (0 : UInt8) x) Tip.none, AV.int IntKind.i64 (0 : Int), AV.int IntKind.i64 (0 : Int)]] fun (r : AV) (H' : List AObj) =>
        ∃ (x_1 : Int × Int × Int),
        r = AV.int IntKind.i64 (Prod.fst x_1) ∧
        H' = [AObj.cells [AV.sl 1 (Seq.map encB (0 : UInt8) x) Tip.none, AV.int IntKind.i64 (Prod.fst (Prod.snd x_1)), AV.int IntKind.i64 (Prod.snd (Prod.snd x_1))]] ∧
        AWP Try.prog 38 0 c73_4 [(4, AV.ptr 0 0), (5, AV.sl 0 (Seq.raw []) Tip.nil), (6, AV.int IntKind.i64 (Prod.fst x_1))]
        [AObj.cells [AV.sl 1 (Seq.map encB (0 : UInt8) x) Tip.none, AV.int IntKind.i64 (Prod.fst (Prod.snd x_1)), AV.int IntKind.i64 (Prod.snd (Prod.snd x_1))]]
        (q73_2 0 Post)) →
    ASpec Try.prog 73 [AV.sl 1 (Seq.map encB (0 : UInt8) bs) Tip.none] [] Post := fun bs Post h => Go.Ab.ASpec.of_vc g73 Go.Proofs.Try.func73 (by kernel_rfl) (by kernel_rfl) (by kernel_rfl) (Go.Ab.kc (by kernel_rfl) h)
theorem v73_4 : ∀ (bs : List UInt8) (p e : Int) (acc : List T.Ev) (n : Int) (n_1 : Nat) (Post : AV → List AObj → Prop),
  condP (decide (n > (0 : Int)))
      (ASpec Try.prog 144 [AV.ptr 0 0] [AObj.cells [AV.sl 1 (Seq.map encB (0 : UInt8) bs) Tip.none, AV.int IntKind.i64 p, AV.int IntKind.i64 e], AObj.tok]
        fun (r : AV) (H' : List AObj) =>
        ∃ (x : Int),
        r = AV.int IntKind.i64 x ∧
        H' = [AObj.cells [AV.sl 1 (Seq.map encB (0 : UInt8) bs) Tip.none, AV.int IntKind.i64 p, AV.int IntKind.i64 e], AObj.tok] ∧
        condP (x == (0 : Int))
        (ASpec Try.prog 191 [AV.ptr 0 0] [AObj.cells [AV.sl 1 (Seq.map encB (0 : UInt8) bs) Tip.none, AV.int IntKind.i64 p, AV.int IntKind.i64 e], AObj.tok]
        fun (r : AV) (H' : List AObj) =>
        ∃ (x : T.Ev × Int × Int),
        r =
        AV.agg
        [AV.int IntKind.i64 (Prod.fst (Prod.fst x)), AV.sl 2 (Seq.map T.encN ([], []) (Prod.fst (Prod.snd (Prod.fst x)))) Tip.none,
        AV.int IntKind.i64 (Prod.fst (Prod.snd (Prod.snd (Prod.fst x)))), AV.int IntKind.i64 (Prod.fst (Prod.snd (Prod.snd (Prod.snd (Prod.fst x))))),
        AV.sl 1 (Seq.map encB (0 : UInt8) (Prod.snd (Prod.snd (Prod.snd (Prod.snd (Prod.fst x)))))) Tip.none] ∧
        H' = [AObj.cells [AV.sl 1 (Seq.map encB (0 : UInt8) bs) Tip.none, AV.int IntKind.i64 (Prod.fst (Prod.snd x)), AV.int IntKind.i64 (Prod.snd (Prod.snd x))], AObj.tok] ∧
        needP ((List.length acc + 1) * 72 ≤ 140737488351232)
        (AWP Try.prog 38 n_1 c73_4
        [(4, AV.ptr 0 0),
        (5,
        AV.sl 5
        (Seq.app (Seq.map T.encE T.noEv acc)
        (Seq.raw
        [[AV.int IntKind.i64 (Prod.fst (Prod.fst x)), AV.sl 2 (Seq.map T.encN ([], []) (Prod.fst (Prod.snd (Prod.fst x)))) Tip.none,
        AV.int IntKind.i64 (Prod.fst (Prod.snd (Prod.snd (Prod.fst x)))), AV.int IntKind.i64 (Prod.fst (Prod.snd (Prod.snd (Prod.snd (Prod.fst x))))),
        AV.sl 1 (Seq.map encB (0 : UInt8) (Prod.snd (Prod.snd (Prod.snd (Prod.snd (Prod.fst x)))))) Tip.none]]))
        (Tip.tok 2)),
        (6, AV.int IntKind.i64 (IntKind.wrap IntKind.i64 (n - (1 : Int))))]
        [AObj.cells [AV.sl 1 (Seq.map encB (0 : UInt8) bs) Tip.none, AV.int IntKind.i64 (Prod.fst (Prod.snd x)), AV.int IntKind.i64 (Prod.snd (Prod.snd x))], AObj.gone,
        AObj.tok]
        (q73_2 n_1 Post)))
        (AWP Try.prog 38 n_1 c73_7 [(4, AV.ptr 0 0), (5, AV.sl 5 (Seq.map T.encE T.noEv acc) (Tip.tok 1))]
        [AObj.cells [AV.sl 1 (Seq.map encB (0 : UInt8) bs) Tip.none, AV.int IntKind.i64 p, AV.int IntKind.i64 e], AObj.tok] (q73_0 n_1 Post)))
      (AWP Try.prog 38 n_1 c73_7 [(4, AV.ptr 0 0), (5, AV.sl 5 (Seq.map T.encE T.noEv acc) (Tip.tok 1))]
        [AObj.cells [AV.sl 1 (Seq.map encB (0 : UInt8) bs) Tip.none, AV.int IntKind.i64 p, AV.int IntKind.i64 e], AObj.tok] (q73_0 n_1 Post)) →
    AWP Try.prog 38 n_1 c73_4 [(4, AV.ptr 0 0), (5, AV.sl 5 (Seq.map T.encE T.noEv acc) (Tip.tok 1)), (6, AV.int IntKind.i64 n)]
      [V.rd bs p e, AObj.tok] (q73_2 n_1 Post) := fun bs p e acc n n Post h => Go.Ab.AWP.loop' g73 (Cfg.live g73) c73_4 (by kernel_rfl) (by kernel_rfl) (Go.Ab.kc (by kernel_rfl) h)
theorem v73_7 : ∀ (bs : List UInt8) (p e : Int) (acc : List T.Ev) (n : Nat) (Post : AV → List AObj → Prop),
  (ASpec Try.prog 146 [AV.ptr 0 0] [AObj.cells [AV.sl 1 (Seq.map encB (0 : UInt8) bs) Tip.none, AV.int IntKind.i64 p, AV.int IntKind.i64 e], AObj.tok]
      fun (r : AV) (H' : List AObj) =>
      ∃ (x : Int),
        r = AV.int IntKind.i64 x ∧
        H' = [AObj.cells [AV.sl 1 (Seq.map encB (0 : UInt8) bs) Tip.none, AV.int IntKind.i64 p, AV.int IntKind.i64 e], AObj.tok] ∧
        condP (x == (0 : Int))
        (ASpec Try.prog 187 [AV.sl 5 (Seq.map T.encE T.noEv acc) (Tip.tok 1), AV.fn 192 []]
        [AObj.cells [AV.sl 1 (Seq.map encB (0 : UInt8) bs) Tip.none, AV.int IntKind.i64 p, AV.int IntKind.i64 e], AObj.tok] fun (r : AV) (H' : List AObj) =>
        ∃ (x_1 : Bool),
        r = AV.bool x_1 ∧
        H' = [AObj.cells [AV.sl 1 (Seq.map encB (0 : UInt8) bs) Tip.none, AV.int IntKind.i64 p, AV.int IntKind.i64 e], AObj.tok] ∧
        condP x_1
        (Post (AV.tup [AV.sl 0 (Seq.raw []) Tip.nil, AV.int IntKind.i64 (3 : Int)])
        [AObj.cells [AV.sl 1 (Seq.map encB (0 : UInt8) bs) Tip.none, AV.int IntKind.i64 p, AV.int IntKind.i64 e], AObj.tok])
        (condP (x != (0 : Int))
        (Post (AV.tup [AV.sl 0 (Seq.raw []) Tip.nil, AV.int IntKind.i64 x])
        [AObj.cells [AV.sl 1 (Seq.map encB (0 : UInt8) bs) Tip.none, AV.int IntKind.i64 p, AV.int IntKind.i64 e], AObj.tok])
        (Post (AV.tup [AV.sl 5 (Seq.map T.encE T.noEv acc) (Tip.tok 1), AV.int IntKind.i64 (0 : Int)])
        [AObj.cells [AV.sl 1 (Seq.map encB (0 : UInt8) bs) Tip.none, AV.int IntKind.i64 p, AV.int IntKind.i64 e], AObj.tok])))
        (condP (x != (0 : Int))
        (Post (AV.tup [AV.sl 0 (Seq.raw []) Tip.nil, AV.int IntKind.i64 x])
        [AObj.cells [AV.sl 1 (Seq.map encB (0 : UInt8) bs) Tip.none, AV.int IntKind.i64 p, AV.int IntKind.i64 e], AObj.tok])
        (Post (AV.tup [AV.sl 5 (Seq.map T.encE T.noEv acc) (Tip.tok 1), AV.int IntKind.i64 (0 : Int)])
        [AObj.cells [AV.sl 1 (Seq.map encB (0 : UInt8) bs) Tip.none, AV.int IntKind.i64 p, AV.int IntKind.i64 e], AObj.tok]))) →
    AWP Try.prog 38 n c73_7 [(4, AV.ptr 0 0), (5, AV.sl 5 (Seq.map T.encE T.noEv acc) (Tip.tok 1))] [V.rd bs p e, AObj.tok] (q73_0 n Post) := fun bs p e acc n Post h => Go.Ab.awp_sound g73 n _ _ _ _ (Go.Ab.kc (by kernel_rfl) h)

-- 416
noncomputable def l416 : Nat → List Nat
  | 3 => [1, 18, 19, 20]
  | 7 => [1, 18, 19, 20, 34, 35, 36]
  | _ => []
noncomputable def u416 : Nat → Bool
  | _ => false
noncomputable def m416 : Nat → Bool
  | _ => false
noncomputable def g416 : Cfg := { N := 53, live := l416, cut := u416, mu := m416, ret := rets }
noncomputable def c416 : Go.Code := Go.Ab.bodyOf Go.Proofs.Try.f416
noncomputable def q416_0 : Nat → (AV → List AObj → Prop) → AQ := fun (n : Nat) (Post : AV → List AObj → Prop) => endQ Try.prog (resultsOf Try.f416) Post
noncomputable def q416_1 : Nat → (AV → List AObj → Prop) → AQ := fun (n : Nat) (Post : AV → List AObj → Prop) => seqQ (fun (s' : Slots) (H' : List AObj) => awp Try.prog g416 n (codeSnd (codeSnd (codeSnd c416))) s' H' (q416_0 n Post)) (q416_0 n Post)
noncomputable def q416_2 : Nat → (AV → List AObj → Prop) → AQ := fun (n : Nat) (Post : AV → List AObj → Prop) => blockQ 0 (q416_1 n Post)
noncomputable def c416_3 : Go.Code := codeFst (codeSnd (codeFst (codeSnd (codeSnd c416))))
theorem s416 : ∀ (t : Int) (l : List T.Need) (b : List UInt8) (Post : AV → List AObj → Prop),
  (ASpec Try.prog 140 [AV.sl 1 (Seq.map encB (0 : UInt8) b) Tip.none, AV.sl 1 (Seq.raw [[AV.int IntKind.i64 t], [AV.int IntKind.i64 (↑(List.length l) : Int)]]) Tip.full]
      [AObj.cells [AV.int IntKind.i64 t, AV.sl 2 (Seq.map T.encN ([], []) l) Tip.none]] fun (r : AV) (H' : List AObj) =>
      ∃ (x : List UInt8),
        r = AV.sl 1 (Seq.map encB (0 : UInt8) x) (Tip.tok 1) ∧
        H' = [AObj.cells [AV.int IntKind.i64 t, AV.sl 2 (Seq.map T.encN ([], []) l) Tip.none], AObj.tok] ∧
        AWP Try.prog 53 0 c416_3
        [(1, AV.sl 1 (Seq.map encB (0 : UInt8) x) (Tip.tok 1)), (18, AV.sl 2 (Seq.map T.encN ([], []) l) Tip.none),
        (19, AV.int IntKind.i64 (↑(List.length l) : Int)), (20, AV.int IntKind.i64 (0 : Int))]
        [AObj.cells [AV.int IntKind.i64 t, AV.sl 2 (Seq.map T.encN ([], []) l) Tip.none], AObj.tok] (q416_2 0 Post)) →
    ASpec Try.prog 416 [AV.agg [AV.int IntKind.i64 t, AV.sl 2 (Seq.map T.encN ([], []) l) Tip.none], AV.sl 1 (Seq.map encB (0 : UInt8) b) Tip.none] [] Post := fun t l b Post h => Go.Ab.ASpec.of_vc g416 Go.Proofs.Try.func416 (by kernel_rfl) (by kernel_rfl) (by kernel_rfl) (Go.Ab.kc (by kernel_rfl) h)
noncomputable def q416_3 : Nat → (AV → List AObj → Prop) → AQ := fun (n : Nat) (Post : AV → List AObj → Prop) => loopQ Try.prog 53 n c416_3 (q416_2 n Post) (Cfg.live g416)
noncomputable def q416_4 : Nat → (AV → List AObj → Prop) → AQ := fun (n : Nat) (Post : AV → List AObj → Prop) => seqQ (fun (s' : Slots) (H' : List AObj) => awp Try.prog g416 n (codeSnd (codeSnd (codeSnd (codeFst c416_3)))) s' H' (q416_3 n Post)) (q416_3 n Post)
noncomputable def q416_5 : Nat → (AV → List AObj → Prop) → AQ := fun (n : Nat) (Post : AV → List AObj → Prop) => blockQ 1 (q416_4 n Post)
noncomputable def q416_6 : Nat → (AV → List AObj → Prop) → AQ := fun (n : Nat) (Post : AV → List AObj → Prop) => blockQ 2 (q416_5 n Post)
noncomputable def c416_7 : Go.Code := codeFst (codeSnd (codeSnd (codeSnd (codeFst (codeFst (codeSnd (codeSnd (codeFst c416_3))))))))
theorem v416_3 : ∀ (b : List UInt8) (l : List T.Need) (n i : Int) (n_1 : Nat) (Post : AV → List AObj → Prop),
  condP (decide (i < n))
      (needP ((0 : Int) ≤ i ∧ i < (↑(List.length l) : Int))
        (ASpec Try.prog 141 [AV.sl 1 (Seq.map encB (0 : UInt8) b) Tip.none, AV.str { data := List.toArray (Prod.fst (List.getD l (Int.toNat i) ([], []))) }]
        [AObj.cells
        [AV.str { data := List.toArray (Prod.fst (List.getD l (Int.toNat i) ([], []))) },
        AV.sl 2 (Seq.map T.encS ((0 : Int), (0 : Int)) (Prod.snd (List.getD l (Int.toNat i) ([], [])))) Tip.none]]
        fun (r : AV) (H' : List AObj) =>
        ∃ (x : List UInt8),
        r = AV.sl 1 (Seq.map encB (0 : UInt8) x) (Tip.tok 1) ∧
        H' =
        [AObj.cells
        [AV.str { data := List.toArray (Prod.fst (List.getD l (Int.toNat i) ([], []))) },
        AV.sl 2 (Seq.map T.encS ((0 : Int), (0 : Int)) (Prod.snd (List.getD l (Int.toNat i) ([], [])))) Tip.none],
        AObj.tok] ∧
        (AV.int IntKind.i64 (↑(List.length (Prod.snd (List.getD l (Int.toNat i) ([], [])))) : Int) = AV.int IntKind.i64 (↑(List.length (Prod.snd (List.getD l (Int.toNat i) ([], [])))) : Int) ∧
        [AObj.cells
        [AV.str { data := List.toArray (Prod.fst (List.getD l (Int.toNat i) ([], []))) },
        AV.sl 2 (Seq.map T.encS ((0 : Int), (0 : Int)) (Prod.snd (List.getD l (Int.toNat i) ([], [])))) Tip.none],
        AObj.tok] =
        [AObj.cells
        [AV.str { data := List.toArray (Prod.fst (List.getD l (Int.toNat i) ([], []))) },
        AV.sl 2 (Seq.map T.encS ((0 : Int), (0 : Int)) (Prod.snd (List.getD l (Int.toNat i) ([], [])))) Tip.none],
        AObj.tok]) ∧
        (AV.sl 2 (Seq.map T.encS ((0 : Int), (0 : Int)) (Prod.snd (List.getD l (Int.toNat i) ([], [])))) Tip.none =
        AV.sl 2 (Seq.map T.encS ((0 : Int), (0 : Int)) (Prod.snd (List.getD l (Int.toNat i) ([], [])))) Tip.none ∧
        [AObj.cells
        [AV.str { data := List.toArray (Prod.fst (List.getD l (Int.toNat i) ([], []))) },
        AV.sl 2 (Seq.map T.encS ((0 : Int), (0 : Int)) (Prod.snd (List.getD l (Int.toNat i) ([], [])))) Tip.none],
        AObj.tok] =
        [AObj.cells
        [AV.str { data := List.toArray (Prod.fst (List.getD l (Int.toNat i) ([], []))) },
        AV.sl 2 (Seq.map T.encS ((0 : Int), (0 : Int)) (Prod.snd (List.getD l (Int.toNat i) ([], [])))) Tip.none],
        AObj.tok]) ∧
        ASpec Try.prog 140
        [AV.sl 1 (Seq.map encB (0 : UInt8) x) (Tip.tok 1),
        AV.sl 1 (Seq.raw [[AV.int IntKind.i64 (↑(List.length (Prod.snd (List.getD l (Int.toNat i) ([], [])))) : Int)]]) Tip.full]
        [AObj.cells
        [AV.str { data := List.toArray (Prod.fst (List.getD l (Int.toNat i) ([], []))) },
        AV.sl 2 (Seq.map T.encS ((0 : Int), (0 : Int)) (Prod.snd (List.getD l (Int.toNat i) ([], [])))) Tip.none],
        AObj.tok]
        fun (r : AV) (H' : List AObj) =>
        ∃ (x : List UInt8),
        r = AV.sl 1 (Seq.map encB (0 : UInt8) x) (Tip.tok 2) ∧
        H' =
        [AObj.cells
        [AV.str { data := List.toArray (Prod.fst (List.getD l (Int.toNat i) ([], []))) },
        AV.sl 2 (Seq.map T.encS ((0 : Int), (0 : Int)) (Prod.snd (List.getD l (Int.toNat i) ([], [])))) Tip.none],
        AObj.tok, AObj.tok] ∧
        AWP Try.prog 53 n_1 c416_7
        [(1, AV.sl 1 (Seq.map encB (0 : UInt8) x) (Tip.tok 2)), (18, AV.sl 2 (Seq.map T.encN ([], []) l) Tip.none),
        (19, AV.int IntKind.i64 n), (20, AV.int IntKind.i64 i),
        (34, AV.sl 2 (Seq.map T.encS ((0 : Int), (0 : Int)) (Prod.snd (List.getD l (Int.toNat i) ([], [])))) Tip.none),
        (35, AV.int IntKind.i64 (↑(List.length (Prod.snd (List.getD l (Int.toNat i) ([], [])))) : Int)), (36, AV.int IntKind.i64 (0 : Int))]
        [AObj.cells
        [AV.str { data := List.toArray (Prod.fst (List.getD l (Int.toNat i) ([], []))) },
        AV.sl 2 (Seq.map T.encS ((0 : Int), (0 : Int)) (Prod.snd (List.getD l (Int.toNat i) ([], [])))) Tip.none],
        AObj.tok, AObj.tok]
        (q416_6 n_1 Post)))
      (Post (AV.sl 1 (Seq.map encB (0 : UInt8) b) Tip.none) []) →
    AWP Try.prog 53 n_1 c416_3
      [(1, AV.sl 1 (Seq.map encB (0 : UInt8) b) Tip.none), (18, AV.sl 2 (Seq.map T.encN ([], []) l) Tip.none), (19, AV.int IntKind.i64 n),
        (20, AV.int IntKind.i64 i)]
      [] (q416_2 n_1 Post) := fun b l n i n Post h => Go.Ab.AWP.loop' g416 (Cfg.live g416) c416_3 (by kernel_rfl) (by kernel_rfl) (Go.Ab.kc (by kernel_rfl) h)
theorem v416_7 : ∀ (b : List UInt8) (l : List T.Need) (n i : Int) (ss : List T.Span) (n2 i2 : Int) (n_1 : Nat) (Post : AV → List AObj → Prop),
  condP (decide (i2 < n2))
      (needP ((0 : Int) ≤ i2 ∧ i2 < (↑(List.length ss) : Int))
        (ASpec Try.prog 140
        [AV.sl 1 (Seq.map encB (0 : UInt8) b) Tip.none,
        AV.sl 1
        (Seq.raw
        [[AV.int IntKind.i64 (Prod.fst (List.getD ss (Int.toNat i2) ((0 : Int), (0 : Int))))],
        [AV.int IntKind.i64 (IntKind.wrap IntKind.i64 (Prod.snd (List.getD ss (Int.toNat i2) ((0 : Int), (0 : Int))) - Prod.fst (List.getD ss (Int.toNat i2) ((0 : Int), (0 : Int)))))]])
        Tip.full]
        [AObj.cells [AV.int IntKind.i64 (Prod.fst (List.getD ss (Int.toNat i2) ((0 : Int), (0 : Int)))), AV.int IntKind.i64 (Prod.snd (List.getD ss (Int.toNat i2) ((0 : Int), (0 : Int))))]]
        fun (r : AV) (H' : List AObj) =>
        ∃ (x : List UInt8),
        r = AV.sl 1 (Seq.map encB (0 : UInt8) x) (Tip.tok 1) ∧
        H' =
        [AObj.cells [AV.int IntKind.i64 (Prod.fst (List.getD ss (Int.toNat i2) ((0 : Int), (0 : Int)))), AV.int IntKind.i64 (Prod.snd (List.getD ss (Int.toNat i2) ((0 : Int), (0 : Int))))],
        AObj.tok] ∧
        AWP Try.prog 53 n_1 c416_7
        [(1, AV.sl 1 (Seq.map encB (0 : UInt8) x) (Tip.tok 1)), (18, AV.sl 2 (Seq.map T.encN ([], []) l) Tip.none),
        (19, AV.int IntKind.i64 n), (20, AV.int IntKind.i64 i), (34, AV.sl 2 (Seq.map T.encS ((0 : Int), (0 : Int)) ss) Tip.none),
        (35, AV.int IntKind.i64 n2), (36, AV.int IntKind.i64 (IntKind.wrap IntKind.i64 (i2 + (1 : Int))))]
        [AObj.cells [AV.int IntKind.i64 (Prod.fst (List.getD ss (Int.toNat i2) ((0 : Int), (0 : Int)))), AV.int IntKind.i64 (Prod.snd (List.getD ss (Int.toNat i2) ((0 : Int), (0 : Int))))],
        AObj.tok]
        (q416_6 n_1 Post)))
      (AWP Try.prog 53 n_1 c416_3
        [(1, AV.sl 1 (Seq.map encB (0 : UInt8) b) Tip.none), (18, AV.sl 2 (Seq.map T.encN ([], []) l) Tip.none), (19, AV.int IntKind.i64 n),
        (20, AV.int IntKind.i64 (IntKind.wrap IntKind.i64 (i + (1 : Int))))]
        [] (q416_2 n_1 Post)) →
    AWP Try.prog 53 n_1 c416_7
      [(1, AV.sl 1 (Seq.map encB (0 : UInt8) b) Tip.none), (18, AV.sl 2 (Seq.map T.encN ([], []) l) Tip.none), (19, AV.int IntKind.i64 n),
        (20, AV.int IntKind.i64 i), (34, AV.sl 2 (Seq.map T.encS ((0 : Int), (0 : Int)) ss) Tip.none), (35, AV.int IntKind.i64 n2), (36, AV.int IntKind.i64 i2)]
      [] (q416_6 n_1 Post) := fun b l n i ss n2 i2 n Post h => Go.Ab.AWP.loop' g416 (Cfg.live g416) c416_7 (by kernel_rfl) (by kernel_rfl) (Go.Ab.kc (by kernel_rfl) h)

-- 417
noncomputable def l417 : Nat → List Nat
  | _ => []
noncomputable def u417 : Nat → Bool
  | _ => false
noncomputable def m417 : Nat → Bool
  | _ => false
noncomputable def g417 : Cfg := { N := 14, live := l417, cut := u417, mu := m417, ret := rets }
theorem s417 : ∀ (t : Int) (y b : List UInt8) (Post : AV → List AObj → Prop),
  needP (allBytes (Seq.map encB (0 : UInt8) y))
      (ASpec Try.prog 140 [AV.sl 1 (Seq.map encB (0 : UInt8) b) Tip.none, AV.sl 1 (Seq.raw [[AV.int IntKind.i64 t]]) Tip.full]
        [AObj.cells [AV.int IntKind.i64 t, AV.sl 1 (Seq.map encB (0 : UInt8) y) Tip.none]] fun (r : AV) (H' : List AObj) =>
        ∃ (x : List UInt8),
        r = AV.sl 1 (Seq.map encB (0 : UInt8) x) (Tip.tok 1) ∧
        H' = [AObj.cells [AV.int IntKind.i64 t, AV.sl 1 (Seq.map encB (0 : UInt8) y) Tip.none], AObj.tok] ∧
        (AV.sl 1 (Seq.map encB (0 : UInt8) y) Tip.none = AV.sl 1 (Seq.map encB (0 : UInt8) y) Tip.none ∧
        [AObj.cells [AV.int IntKind.i64 t, AV.sl 1 (Seq.map encB (0 : UInt8) y) Tip.none], AObj.tok] =
        [AObj.cells [AV.int IntKind.i64 t, AV.sl 1 (Seq.map encB (0 : UInt8) y) Tip.none], AObj.tok]) ∧
        ASpec Try.prog 141 [AV.sl 1 (Seq.map encB (0 : UInt8) x) (Tip.tok 1), AV.str (bytesOf (Seq.map encB (0 : UInt8) y))]
        [AObj.cells [AV.int IntKind.i64 t, AV.sl 1 (Seq.map encB (0 : UInt8) y) Tip.none], AObj.tok] fun (r : AV) (H' : List AObj) =>
        ∃ (x : List UInt8),
        r = AV.sl 1 (Seq.map encB (0 : UInt8) x) (Tip.tok 2) ∧
        H' = [AObj.cells [AV.int IntKind.i64 t, AV.sl 1 (Seq.map encB (0 : UInt8) y) Tip.none], AObj.tok, AObj.tok] ∧
        Post (AV.sl 1 (Seq.map encB (0 : UInt8) x) (Tip.tok 2))
        [AObj.cells [AV.int IntKind.i64 t, AV.sl 1 (Seq.map encB (0 : UInt8) y) Tip.none], AObj.tok, AObj.tok]) →
    ASpec Try.prog 417 [AV.agg [AV.int IntKind.i64 t, AV.sl 1 (Seq.map encB (0 : UInt8) y) Tip.none], AV.sl 1 (Seq.map encB (0 : UInt8) b) Tip.none] [] Post := fun t y b Post h => Go.Ab.ASpec.of_vc g417 Go.Proofs.Try.func417 (by kernel_rfl) (by kernel_rfl) (by kernel_rfl) (Go.Ab.kc (by kernel_rfl) h)

-- 418
noncomputable def l418 : Nat → List Nat
  | _ => []
noncomputable def u418 : Nat → Bool
  | _ => false
noncomputable def m418 : Nat → Bool
  | _ => false
noncomputable def g418 : Cfg := { N := 10, live := l418, cut := u418, mu := m418, ret := rets }
theorem s418 : ∀ (t : Int) (b : List UInt8) (Post : AV → List AObj → Prop),
  (ASpec Try.prog 140 [AV.sl 1 (Seq.map encB (0 : UInt8) b) Tip.none, AV.sl 1 (Seq.raw [[AV.int IntKind.i64 t]]) Tip.full] [AObj.cells [AV.int IntKind.i64 t]]
      fun (r : AV) (H' : List AObj) =>
      ∃ (x : List UInt8),
        r = AV.sl 1 (Seq.map encB (0 : UInt8) x) (Tip.tok 1) ∧
        H' = [AObj.cells [AV.int IntKind.i64 t], AObj.tok] ∧ Post (AV.sl 1 (Seq.map encB (0 : UInt8) x) (Tip.tok 1)) [AObj.cells [AV.int IntKind.i64 t], AObj.tok]) →
    ASpec Try.prog 418 [AV.agg [AV.int IntKind.i64 t], AV.sl 1 (Seq.map encB (0 : UInt8) b) Tip.none] [] Post := fun t b Post h => Go.Ab.ASpec.of_vc g418 Go.Proofs.Try.func418 (by kernel_rfl) (by kernel_rfl) (by kernel_rfl) (Go.Ab.kc (by kernel_rfl) h)

-- 193
noncomputable def l193 : Nat → List Nat
  | 4 => [0, 3, 4, 5]
  | 9 => [0, 3, 4, 5, 6, 7, 8]
  | _ => []
noncomputable def u193 : Nat → Bool
  | _ => false
noncomputable def m193 : Nat → Bool
  | _ => false
noncomputable def g193 : Cfg := { N := 47, live := l193, cut := u193, mu := m193, ret := rets }
noncomputable def c193 : Go.Code := Go.Ab.bodyOf Go.Proofs.Try.f193
noncomputable def q193_0 : Nat → (AV → List AObj → Prop) → AQ := fun (n : Nat) (Post : AV → List AObj → Prop) => endQ Try.prog (resultsOf Try.f193) Post
noncomputable def q193_1 : Nat → (AV → List AObj → Prop) → AQ := fun (n : Nat) (Post : AV → List AObj → Prop) => seqQ (fun (s' : Slots) (H' : List AObj) => awp Try.prog g193 n (codeSnd (codeSnd (codeSnd (codeSnd c193)))) s' H' (q193_0 n Post)) (q193_0 n Post)
noncomputable def q193_2 : Nat → (AV → List AObj → Prop) → AQ := fun (n : Nat) (Post : AV → List AObj → Prop) => blockQ 0 (q193_1 n Post)
noncomputable def c193_4 : Go.Code := codeFst (codeSnd (codeFst (codeSnd (codeSnd (codeSnd c193)))))
theorem s193 : ∀ (s : ByteArray) (e : Int) (Post : AV → List AObj → Prop),
  (ASpec Try.prog 147 [AV.ptr 0 0, AV.int IntKind.i64 (6 : Int)] [AObj.cells [AV.str s, AV.int IntKind.i64 e]] fun (r : AV) (H' : List AObj) =>
      ∃ (x : Int × ByteArray × Int),
        r = AV.int IntKind.i64 (Prod.fst x) ∧
        H' = [AObj.cells [AV.str (Prod.fst (Prod.snd x)), AV.int IntKind.i64 (Prod.snd (Prod.snd x))]] ∧
        AWP Try.prog 47 1 c193_4
        [(0, AV.ptr 0 0), (3, AV.sl 0 (Seq.raw []) Tip.nil), (4, AV.int IntKind.i64 (Prod.fst x)), (5, AV.int IntKind.i64 (0 : Int))]
        [AObj.cells [AV.str (Prod.fst (Prod.snd x)), AV.int IntKind.i64 (Prod.snd (Prod.snd x))]] (q193_2 1 Post)) →
    ASpec Try.prog 193 [AV.ptr 0 0] [AObj.cells [AV.str s, AV.int IntKind.i64 e]] Post := fun s e Post h => Go.Ab.ASpec.of_vc g193 Go.Proofs.Try.func193 (by kernel_rfl) (by kernel_rfl) (by kernel_rfl) (Go.Ab.kc (by kernel_rfl) h)
noncomputable def q193_3 : Nat → (AV → List AObj → Prop) → AQ := fun (n : Nat) (Post : AV → List AObj → Prop) => loopQ Try.prog 47 n c193_4 (q193_2 n Post) (Cfg.live g193)
noncomputable def q193_4 : Nat → (AV → List AObj → Prop) → AQ := fun (n : Nat) (Post : AV → List AObj → Prop) => seqQ (fun (s' : Slots) (H' : List AObj) => awp Try.prog g193 n (codeSnd (codeSnd (codeFst c193_4))) s' H' (q193_3 n Post)) (q193_3 n Post)
noncomputable def q193_5 : Nat → (AV → List AObj → Prop) → AQ := fun (n : Nat) (Post : AV → List AObj → Prop) => blockQ 1 (q193_4 n Post)
noncomputable def q193_6 : Nat → (AV → List AObj → Prop) → AQ := fun (n : Nat) (Post : AV → List AObj → Prop) => seqQ (fun (s' : Slots) (H' : List AObj) => awp Try.prog g193 n (codeSnd (codeSnd (codeSnd (codeFst (codeFst (codeSnd (codeFst c193_4))))))) s' H' (q193_5 n Post)) (q193_5 n Post)
noncomputable def q193_7 : Nat → (AV → List AObj → Prop) → AQ := fun (n : Nat) (Post : AV → List AObj → Prop) => blockQ 2 (q193_6 n Post)
noncomputable def c193_9 : Go.Code := codeFst (codeSnd (codeFst (codeSnd (codeSnd (codeFst (codeFst (codeSnd (codeFst c193_4))))))))
theorem v193_4 : ∀ (s : ByteArray) (e : Int) (acc : List T.Need) (n i : Int) (n_1 : Nat) (Post : AV → List AObj → Prop),
  condP (decide (i < n))
      (ASpec Try.prog 148 [AV.ptr 0 0, AV.int IntKind.i64 (24 : Int)] [AObj.cells [AV.str s, AV.int IntKind.i64 e], AObj.tok] fun (r : AV) (H' : List AObj) =>
        ∃ (x : ByteArray × ByteArray × Int),
        r = AV.str (Prod.fst x) ∧
        H' = [AObj.cells [AV.str (Prod.fst (Prod.snd x)), AV.int IntKind.i64 (Prod.snd (Prod.snd x))], AObj.tok] ∧
        ASpec Try.prog 147 [AV.ptr 0 0, AV.int IntKind.i64 (6 : Int)]
        [AObj.cells [AV.str (Prod.fst (Prod.snd x)), AV.int IntKind.i64 (Prod.snd (Prod.snd x))], AObj.tok, AObj.cells [AV.str (Prod.fst x), AV.sl 0 (Seq.raw []) Tip.nil]]
        fun (r : AV) (H' : List AObj) =>
        ∃ (x_1 : Int × ByteArray × Int),
        r = AV.int IntKind.i64 (Prod.fst x_1) ∧
        H' =
        [AObj.cells [AV.str (Prod.fst (Prod.snd x_1)), AV.int IntKind.i64 (Prod.snd (Prod.snd x_1))], AObj.tok,
        AObj.cells [AV.str (Prod.fst x), AV.sl 0 (Seq.raw []) Tip.nil]] ∧
        AWP Try.prog 47 n_1 c193_9
        [(0, AV.ptr 0 0), (3, AV.sl 2 (Seq.map T.encN ([], []) acc) (Tip.tok 1)), (4, AV.int IntKind.i64 n),
        (5, AV.int IntKind.i64 i), (6, AV.ptr 2 0), (7, AV.int IntKind.i64 (Prod.fst x_1)), (8, AV.int IntKind.i64 (0 : Int))]
        [AObj.cells [AV.str (Prod.fst (Prod.snd x_1)), AV.int IntKind.i64 (Prod.snd (Prod.snd x_1))], AObj.tok, AObj.cells [AV.str (Prod.fst x), AV.sl 0 (Seq.raw []) Tip.nil]]
        (q193_7 n_1 Post))
      (Post (AV.sl 2 (Seq.map T.encN ([], []) acc) (Tip.tok 1)) [AObj.cells [AV.str s, AV.int IntKind.i64 e], AObj.tok]) →
    AWP Try.prog 47 n_1 c193_4
      [(0, AV.ptr 0 0), (3, AV.sl 2 (Seq.map T.encN ([], []) acc) (Tip.tok 1)), (4, AV.int IntKind.i64 n), (5, AV.int IntKind.i64 i)]
      [AObj.cells [AV.str s, AV.int IntKind.i64 e], AObj.tok] (q193_2 n_1 Post) := fun s e acc n i n Post h => Go.Ab.AWP.loop' g193 (Cfg.live g193) c193_4 (by kernel_rfl) (by kernel_rfl) (Go.Ab.kc (by kernel_rfl) h)
theorem v193_9 : ∀ (s : ByteArray) (e : Int) (acc : List T.Need) (n i : Int) (nm : ByteArray) (sp : List T.Span) (k j : Int) (n_1 : Nat) (Post : AV → List AObj → Prop),
  condP (decide (j < k))
      (ASpec Try.prog 147 [AV.ptr 0 0, AV.int IntKind.i64 (1000000000 : Int)]
        [AObj.cells [AV.str s, AV.int IntKind.i64 e], AObj.tok, AObj.cells [AV.str nm, AV.sl 2 (Seq.map T.encS ((0 : Int), (0 : Int)) sp) (Tip.tok 3)], AObj.tok]
        fun (r : AV) (H' : List AObj) =>
        ∃ (x : Int × ByteArray × Int),
        r = AV.int IntKind.i64 (Prod.fst x) ∧
        H' =
        [AObj.cells [AV.str (Prod.fst (Prod.snd x)), AV.int IntKind.i64 (Prod.snd (Prod.snd x))], AObj.tok,
        AObj.cells [AV.str nm, AV.sl 2 (Seq.map T.encS ((0 : Int), (0 : Int)) sp) (Tip.tok 3)], AObj.tok] ∧
        ASpec Try.prog 147 [AV.ptr 0 0, AV.int IntKind.i64 (1000000000 : Int)]
        [AObj.cells [AV.str (Prod.fst (Prod.snd x)), AV.int IntKind.i64 (Prod.snd (Prod.snd x))], AObj.tok,
        AObj.cells [AV.str nm, AV.sl 2 (Seq.map T.encS ((0 : Int), (0 : Int)) sp) (Tip.tok 3)], AObj.tok]
        fun (r : AV) (H' : List AObj) =>
        ∃ (x_1 : Int × ByteArray × Int),
        r = AV.int IntKind.i64 (Prod.fst x_1) ∧
        H' =
        [AObj.cells [AV.str (Prod.fst (Prod.snd x_1)), AV.int IntKind.i64 (Prod.snd (Prod.snd x_1))], AObj.tok,
        AObj.cells [AV.str nm, AV.sl 2 (Seq.map T.encS ((0 : Int), (0 : Int)) sp) (Tip.tok 3)], AObj.tok] ∧
        needP ((List.length sp + 1) * 16 ≤ 140737488351232)
        (AWP Try.prog 47 n_1 c193_9
        [(0, AV.ptr 0 0), (3, AV.sl 2 (Seq.map T.encN ([], []) acc) (Tip.tok 1)), (4, AV.int IntKind.i64 n),
        (5, AV.int IntKind.i64 i), (6, AV.ptr 2 0), (7, AV.int IntKind.i64 k),
        (8, AV.int IntKind.i64 (IntKind.wrap IntKind.i64 (j + (1 : Int))))]
        [AObj.cells [AV.str (Prod.fst (Prod.snd x_1)), AV.int IntKind.i64 (Prod.snd (Prod.snd x_1))], AObj.tok,
        AObj.cells
        [AV.str nm,
        AV.sl 2
        (Seq.app (Seq.map T.encS ((0 : Int), (0 : Int)) sp)
        (Seq.raw [[AV.int IntKind.i64 (Prod.fst x), AV.int IntKind.i64 (IntKind.wrap IntKind.i64 (Prod.fst x + Prod.fst x_1))]]))
        (Tip.tok 4)],
        AObj.gone, AObj.tok]
        (q193_7 n_1 Post)))
      (needP ((List.length acc + 1) * 40 ≤ 140737488351232)
        (AWP Try.prog 47 n_1 c193_4
        [(0, AV.ptr 0 0),
        (3,
        AV.sl 2 (Seq.app (Seq.map T.encN ([], []) acc) (Seq.raw [[AV.str nm, AV.sl 2 (Seq.map T.encS ((0 : Int), (0 : Int)) sp) (Tip.tok 3)]])) (Tip.tok 4)),
        (4, AV.int IntKind.i64 n), (5, AV.int IntKind.i64 (IntKind.wrap IntKind.i64 (i + (1 : Int))))]
        [AObj.cells [AV.str s, AV.int IntKind.i64 e], AObj.gone, AObj.cells [AV.str nm, AV.sl 2 (Seq.map T.encS ((0 : Int), (0 : Int)) sp) (Tip.tok 3)], AObj.tok, AObj.tok]
        (q193_2 n_1 Post))) →
    AWP Try.prog 47 n_1 c193_9
      [(0, AV.ptr 0 0), (3, AV.sl 2 (Seq.map T.encN ([], []) acc) (Tip.tok 1)), (4, AV.int IntKind.i64 n), (5, AV.int IntKind.i64 i),
        (6, AV.ptr 2 0), (7, AV.int IntKind.i64 k), (8, AV.int IntKind.i64 j)]
      [AObj.cells [AV.str s, AV.int IntKind.i64 e], AObj.tok, AObj.cells [AV.str nm, AV.sl 2 (Seq.map T.encS ((0 : Int), (0 : Int)) sp) (Tip.tok 3)], AObj.tok] (q193_7 n_1 Post) := fun s e acc n i nm sp k j n Post h => Go.Ab.AWP.loop' g193 (Cfg.live g193) c193_9 (by kernel_rfl) (by kernel_rfl) (Go.Ab.kc (by kernel_rfl) h)

-- 74
noncomputable def l74 : Nat → List Nat
  | 5 => [4, 5, 6, 7]
  | 11 => [4, 5, 6, 7, 8]
  | 13 => [4, 5, 6, 7, 8]
  | 15 => [4, 5, 6, 7, 8]
  | 16 => [4, 5]
  | 18 => [5, 9, 10]
  | _ => []
noncomputable def u74 : Nat → Bool
  | 11 => true
  | 13 => true
  | 15 => true
  | 16 => true
  | _ => false
noncomputable def m74 : Nat → Bool
  | _ => false
noncomputable def g74 : Cfg := { N := 84, live := l74, cut := u74, mu := m74, ret := rets }
noncomputable def c74 : Go.Code := Go.Ab.bodyOf Go.Proofs.Try.f74
noncomputable def q74_0 : Nat → (AV → List AObj → Prop) → AQ := fun (n : Nat) (Post : AV → List AObj → Prop) => endQ Try.prog (resultsOf Try.f74) Post
noncomputable def c74_16 : Go.Code := codeSnd (codeSnd (codeSnd (codeSnd (codeSnd c74))))
noncomputable def q74_1 : Nat → (AV → List AObj → Prop) → AQ := fun (n : Nat) (Post : AV → List AObj → Prop) => seqQ (fun (s' : Slots) (H' : List AObj) => AWP Try.prog (Cfg.N g74) n c74_16 (restrict s' (Cfg.live g74 16)) H' (q74_0 n Post)) (q74_0 n Post)
noncomputable def q74_2 : Nat → (AV → List AObj → Prop) → AQ := fun (n : Nat) (Post : AV → List AObj → Prop) => blockQ 0 (q74_1 n Post)
noncomputable def c74_5 : Go.Code := codeFst (codeSnd (codeFst (codeSnd (codeSnd (codeSnd (codeSnd c74))))))
theorem s74 : ∀ (s : ByteArray) (Post : AV → List AObj → Prop),
  (ASpec Try.prog 147 [AV.ptr 0 0, AV.int IntKind.i64 (400 : Int)] [AObj.cells [AV.str s, AV.int IntKind.i64 (0 : Int)]] fun (r : AV) (H' : List AObj) =>
      ∃ (x : Int × ByteArray × Int),
        r = AV.int IntKind.i64 (Prod.fst x) ∧
        H' = [AObj.cells [AV.str (Prod.fst (Prod.snd x)), AV.int IntKind.i64 (Prod.snd (Prod.snd x))]] ∧
        AWP Try.prog 84 0 c74_5
        [(4, AV.ptr 0 0), (5, AV.sl 0 (Seq.raw []) Tip.nil), (6, AV.int IntKind.i64 (Prod.fst x)), (7, AV.int IntKind.i64 (0 : Int))]
        [AObj.cells [AV.str (Prod.fst (Prod.snd x)), AV.int IntKind.i64 (Prod.snd (Prod.snd x))]] (q74_2 0 Post)) →
    ASpec Try.prog 74 [AV.str s] [] Post := fun s Post h => Go.Ab.ASpec.of_vc g74 Go.Proofs.Try.func74 (by kernel_rfl) (by kernel_rfl) (by kernel_rfl) (Go.Ab.kc (by kernel_rfl) h)
noncomputable def q74_3 : Nat → (AV → List AObj → Prop) → AQ := fun (n : Nat) (Post : AV → List AObj → Prop) => loopQ Try.prog 84 n c74_5 (q74_2 n Post) (Cfg.live g74)
noncomputable def q74_4 : Nat → (AV → List AObj → Prop) → AQ := fun (n : Nat) (Post : AV → List AObj → Prop) => seqQ (fun (s' : Slots) (H' : List AObj) => awp Try.prog g74 n (codeSnd (codeSnd (codeFst c74_5))) s' H' (q74_3 n Post)) (q74_3 n Post)
noncomputable def q74_5 : Nat → (AV → List AObj → Prop) → AQ := fun (n : Nat) (Post : AV → List AObj → Prop) => blockQ 1 (q74_4 n Post)
noncomputable def c74_11 : Go.Code := codeSnd (codeSnd (codeFst (codeFst (codeSnd (codeFst c74_5)))))
theorem v74_5 : ∀ (s : ByteArray) (e : Int) (acc : List T.Ev) (n i : Int) (n_1 : Nat) (Post : AV → List AObj → Prop),
  condP (decide (i < n))
      (condP (e == (0 : Int))
        (ASpec Try.prog 147 [AV.ptr 0 0, AV.int IntKind.i64 (4 : Int)] [AObj.cells [AV.str s, AV.int IntKind.i64 e], AObj.tok] fun (r : AV) (H' : List AObj) =>
        ∃ (x : Int × ByteArray × Int),
        r = AV.int IntKind.i64 (Prod.fst x) ∧
        H' = [AObj.cells [AV.str (Prod.fst (Prod.snd x)), AV.int IntKind.i64 (Prod.snd (Prod.snd x))], AObj.tok] ∧
        condP (Prod.fst x == (1 : Int))
        (ASpec Try.prog 147 [AV.ptr 0 0, AV.int IntKind.i64 (1099511627776 : Int)]
        [AObj.cells [AV.str (Prod.fst (Prod.snd x)), AV.int IntKind.i64 (Prod.snd (Prod.snd x))], AObj.tok,
        AObj.cells
        [AV.int IntKind.i64 (Prod.fst x), AV.sl 0 (Seq.raw []) Tip.nil, AV.int IntKind.i64 (0 : Int), AV.int IntKind.i64 (0 : Int), AV.sl 0 (Seq.raw []) Tip.nil]]
        fun (r : AV) (H' : List AObj) =>
        ∃ (x_1 : Int × ByteArray × Int),
        r = AV.int IntKind.i64 (Prod.fst x_1) ∧
        H' =
        [AObj.cells [AV.str (Prod.fst (Prod.snd x_1)), AV.int IntKind.i64 (Prod.snd (Prod.snd x_1))], AObj.tok,
        AObj.cells
        [AV.int IntKind.i64 (Prod.fst x), AV.sl 0 (Seq.raw []) Tip.nil, AV.int IntKind.i64 (0 : Int), AV.int IntKind.i64 (0 : Int),
        AV.sl 0 (Seq.raw []) Tip.nil]] ∧
        ASpec Try.prog 193 [AV.ptr 0 0]
        [AObj.cells [AV.str (Prod.fst (Prod.snd x_1)), AV.int IntKind.i64 (Prod.snd (Prod.snd x_1))], AObj.tok,
        AObj.cells
        [AV.int IntKind.i64 (Prod.fst x), AV.sl 0 (Seq.raw []) Tip.nil, AV.int IntKind.i64 (Prod.fst x_1), AV.int IntKind.i64 (0 : Int),
        AV.sl 0 (Seq.raw []) Tip.nil]]
        fun (r : AV) (H' : List AObj) =>
        ∃ (x_2 : List T.Need × ByteArray × Int),
        r = AV.sl 2 (Seq.map T.encN ([], []) (Prod.fst x_2)) Tip.none ∧
        H' =
        [AObj.cells [AV.str (Prod.fst (Prod.snd x_2)), AV.int IntKind.i64 (Prod.snd (Prod.snd x_2))], AObj.tok,
        AObj.cells
        [AV.int IntKind.i64 (Prod.fst x), AV.sl 0 (Seq.raw []) Tip.nil, AV.int IntKind.i64 (Prod.fst x_1), AV.int IntKind.i64 (0 : Int),
        AV.sl 0 (Seq.raw []) Tip.nil]] ∧
        AWP Try.prog 84 n_1 c74_11
        [(4, AV.ptr 0 0), (5, AV.sl 5 (Seq.map T.encE T.noEv acc) (Tip.tok 1)), (6, AV.int IntKind.i64 n),
        (7, AV.int IntKind.i64 i), (8, AV.ptr 2 0)]
        [AObj.cells [AV.str (Prod.fst (Prod.snd x_2)), AV.int IntKind.i64 (Prod.snd (Prod.snd x_2))], AObj.tok,
        AObj.cells
        [AV.int IntKind.i64 (Prod.fst x), AV.sl 2 (Seq.map T.encN ([], []) (Prod.fst x_2)) Tip.none, AV.int IntKind.i64 (Prod.fst x_1),
        AV.int IntKind.i64 (0 : Int), AV.sl 0 (Seq.raw []) Tip.nil]]
        (q74_5 n_1 Post))
        (AWP Try.prog 84 n_1 c74_11
        [(4, AV.ptr 0 0), (5, AV.sl 5 (Seq.map T.encE T.noEv acc) (Tip.tok 1)), (6, AV.int IntKind.i64 n),
        (7, AV.int IntKind.i64 i), (8, AV.ptr 2 0)]
        [AObj.cells [AV.str (Prod.fst (Prod.snd x)), AV.int IntKind.i64 (Prod.snd (Prod.snd x))], AObj.tok,
        AObj.cells
        [AV.int IntKind.i64 (Prod.fst x), AV.sl 0 (Seq.raw []) Tip.nil, AV.int IntKind.i64 (0 : Int), AV.int IntKind.i64 (0 : Int), AV.sl 0 (Seq.raw []) Tip.nil]]
        (q74_5 n_1 Post)))
        (AWP Try.prog 84 n_1 c74_16 [(4, AV.ptr 0 0), (5, AV.sl 5 (Seq.map T.encE T.noEv acc) (Tip.tok 1))]
        [AObj.cells [AV.str s, AV.int IntKind.i64 e], AObj.tok] (q74_0 n_1 Post)))
      (AWP Try.prog 84 n_1 c74_16 [(4, AV.ptr 0 0), (5, AV.sl 5 (Seq.map T.encE T.noEv acc) (Tip.tok 1))]
        [AObj.cells [AV.str s, AV.int IntKind.i64 e], AObj.tok] (q74_0 n_1 Post)) →
    AWP Try.prog 84 n_1 c74_5
      [(4, AV.ptr 0 0), (5, AV.sl 5 (Seq.map T.encE T.noEv acc) (Tip.tok 1)), (6, AV.int IntKind.i64 n), (7, AV.int IntKind.i64 i)]
      [AObj.cells [AV.str s, AV.int IntKind.i64 e], AObj.tok] (q74_2 n_1 Post) := fun s e acc n i n Post h => Go.Ab.AWP.loop' g74 (Cfg.live g74) c74_5 (by kernel_rfl) (by kernel_rfl) (Go.Ab.kc (by kernel_rfl) h)
noncomputable def c74_13 : Go.Code := codeSnd c74_11
theorem v74_11 : ∀ (s : ByteArray) (e : Int) (acc : List T.Ev) (n i k t u : Int) (l : List T.Need) (b : List UInt8) (n_1 : Nat) (Post : AV → List AObj → Prop),
  condP (k == (3 : Int))
      (ASpec Try.prog 147 [AV.ptr 0 0, AV.int IntKind.i64 (1099511627776 : Int)]
        [AObj.cells [AV.str s, AV.int IntKind.i64 e], AObj.tok,
        AObj.cells [AV.int IntKind.i64 k, AV.sl 2 (Seq.map T.encN ([], []) l) Tip.none, AV.int IntKind.i64 t, AV.int IntKind.i64 u, AV.sl 1 (Seq.map encB (0 : UInt8) b) Tip.none]]
        fun (r : AV) (H' : List AObj) =>
        ∃ (x : Int × ByteArray × Int),
        r = AV.int IntKind.i64 (Prod.fst x) ∧
        H' =
        [AObj.cells [AV.str (Prod.fst (Prod.snd x)), AV.int IntKind.i64 (Prod.snd (Prod.snd x))], AObj.tok,
        AObj.cells
        [AV.int IntKind.i64 k, AV.sl 2 (Seq.map T.encN ([], []) l) Tip.none, AV.int IntKind.i64 t, AV.int IntKind.i64 u, AV.sl 1 (Seq.map encB (0 : UInt8) b) Tip.none]] ∧
        AWP Try.prog 84 n_1 c74_13
        [(4, AV.ptr 0 0), (5, AV.sl 5 (Seq.map T.encE T.noEv acc) (Tip.tok 1)), (6, AV.int IntKind.i64 n),
        (7, AV.int IntKind.i64 i), (8, AV.ptr 2 0)]
        [AObj.cells [AV.str (Prod.fst (Prod.snd x)), AV.int IntKind.i64 (Prod.snd (Prod.snd x))], AObj.tok,
        AObj.cells
        [AV.int IntKind.i64 k, AV.sl 2 (Seq.map T.encN ([], []) l) Tip.none, AV.int IntKind.i64 t, AV.int IntKind.i64 (Prod.fst x),
        AV.sl 1 (Seq.map encB (0 : UInt8) b) Tip.none]]
        (q74_5 n_1 Post))
      (condP (k == (4 : Int))
        (ASpec Try.prog 147 [AV.ptr 0 0, AV.int IntKind.i64 (1099511627776 : Int)]
        [AObj.cells [AV.str s, AV.int IntKind.i64 e], AObj.tok,
        AObj.cells [AV.int IntKind.i64 k, AV.sl 2 (Seq.map T.encN ([], []) l) Tip.none, AV.int IntKind.i64 t, AV.int IntKind.i64 u, AV.sl 1 (Seq.map encB (0 : UInt8) b) Tip.none]]
        fun (r : AV) (H' : List AObj) =>
        ∃ (x : Int × ByteArray × Int),
        r = AV.int IntKind.i64 (Prod.fst x) ∧
        H' =
        [AObj.cells [AV.str (Prod.fst (Prod.snd x)), AV.int IntKind.i64 (Prod.snd (Prod.snd x))], AObj.tok,
        AObj.cells
        [AV.int IntKind.i64 k, AV.sl 2 (Seq.map T.encN ([], []) l) Tip.none, AV.int IntKind.i64 t, AV.int IntKind.i64 u, AV.sl 1 (Seq.map encB (0 : UInt8) b) Tip.none]] ∧
        AWP Try.prog 84 n_1 c74_13
        [(4, AV.ptr 0 0), (5, AV.sl 5 (Seq.map T.encE T.noEv acc) (Tip.tok 1)), (6, AV.int IntKind.i64 n),
        (7, AV.int IntKind.i64 i), (8, AV.ptr 2 0)]
        [AObj.cells [AV.str (Prod.fst (Prod.snd x)), AV.int IntKind.i64 (Prod.snd (Prod.snd x))], AObj.tok,
        AObj.cells
        [AV.int IntKind.i64 k, AV.sl 2 (Seq.map T.encN ([], []) l) Tip.none, AV.int IntKind.i64 t, AV.int IntKind.i64 (Prod.fst x),
        AV.sl 1 (Seq.map encB (0 : UInt8) b) Tip.none]]
        (q74_5 n_1 Post))
        (AWP Try.prog 84 n_1 c74_13
        [(4, AV.ptr 0 0), (5, AV.sl 5 (Seq.map T.encE T.noEv acc) (Tip.tok 1)), (6, AV.int IntKind.i64 n), (7, AV.int IntKind.i64 i),
        (8, AV.ptr 2 0)]
        [AObj.cells [AV.str s, AV.int IntKind.i64 e], AObj.tok,
        AObj.cells [AV.int IntKind.i64 k, AV.sl 2 (Seq.map T.encN ([], []) l) Tip.none, AV.int IntKind.i64 t, AV.int IntKind.i64 u, AV.sl 1 (Seq.map encB (0 : UInt8) b) Tip.none]]
        (q74_5 n_1 Post))) →
    AWP Try.prog 84 n_1 c74_11
      [(4, AV.ptr 0 0), (5, AV.sl 5 (Seq.map T.encE T.noEv acc) (Tip.tok 1)), (6, AV.int IntKind.i64 n), (7, AV.int IntKind.i64 i),
        (8, AV.ptr 2 0)]
      [AObj.cells [AV.str s, AV.int IntKind.i64 e], AObj.tok,
        AObj.cells [AV.int IntKind.i64 k, AV.sl 2 (Seq.map T.encN ([], []) l) Tip.none, AV.int IntKind.i64 t, AV.int IntKind.i64 u, AV.sl 1 (Seq.map encB (0 : UInt8) b) Tip.none]]
      (q74_5 n_1 Post) := fun s e acc n i k t u l b n Post h => Go.Ab.awp_sound g74 n _ _ _ _ (Go.Ab.kc (by kernel_rfl) h)
noncomputable def c74_15 : Go.Code := codeSnd c74_13
theorem v74_13 : ∀ (s : ByteArray) (e : Int) (acc : List T.Ev) (n i k t u : Int) (l : List T.Need) (b : List UInt8) (n_1 : Nat) (Post : AV → List AObj → Prop),
  condP (k == (3 : Int))
      (ASpec Try.prog 148 [AV.ptr 0 0, AV.int IntKind.i64 (9000 : Int)]
        [AObj.cells [AV.str s, AV.int IntKind.i64 e], AObj.tok,
        AObj.cells [AV.int IntKind.i64 k, AV.sl 2 (Seq.map T.encN ([], []) l) Tip.none, AV.int IntKind.i64 t, AV.int IntKind.i64 u, AV.sl 1 (Seq.map encB (0 : UInt8) b) Tip.none]]
        fun (r : AV) (H' : List AObj) =>
        ∃ (x : ByteArray × ByteArray × Int),
        r = AV.str (Prod.fst x) ∧
        H' =
        [AObj.cells [AV.str (Prod.fst (Prod.snd x)), AV.int IntKind.i64 (Prod.snd (Prod.snd x))], AObj.tok,
        AObj.cells
        [AV.int IntKind.i64 k, AV.sl 2 (Seq.map T.encN ([], []) l) Tip.none, AV.int IntKind.i64 t, AV.int IntKind.i64 u, AV.sl 1 (Seq.map encB (0 : UInt8) b) Tip.none]] ∧
        AWP Try.prog 84 n_1 c74_15
        [(4, AV.ptr 0 0), (5, AV.sl 5 (Seq.map T.encE T.noEv acc) (Tip.tok 1)), (6, AV.int IntKind.i64 n),
        (7, AV.int IntKind.i64 i), (8, AV.ptr 2 0)]
        [AObj.cells [AV.str (Prod.fst (Prod.snd x)), AV.int IntKind.i64 (Prod.snd (Prod.snd x))], AObj.tok,
        AObj.cells [AV.int IntKind.i64 k, AV.sl 2 (Seq.map T.encN ([], []) l) Tip.none, AV.int IntKind.i64 t, AV.int IntKind.i64 u, AV.sl 1 (bytesSeq (Prod.fst x)) Tip.none]]
        (q74_5 n_1 Post))
      (AWP Try.prog 84 n_1 c74_15
        [(4, AV.ptr 0 0), (5, AV.sl 5 (Seq.map T.encE T.noEv acc) (Tip.tok 1)), (6, AV.int IntKind.i64 n), (7, AV.int IntKind.i64 i),
        (8, AV.ptr 2 0)]
        [AObj.cells [AV.str s, AV.int IntKind.i64 e], AObj.tok,
        AObj.cells [AV.int IntKind.i64 k, AV.sl 2 (Seq.map T.encN ([], []) l) Tip.none, AV.int IntKind.i64 t, AV.int IntKind.i64 u, AV.sl 1 (Seq.map encB (0 : UInt8) b) Tip.none]]
        (q74_5 n_1 Post)) →
    AWP Try.prog 84 n_1 c74_13
      [(4, AV.ptr 0 0), (5, AV.sl 5 (Seq.map T.encE T.noEv acc) (Tip.tok 1)), (6, AV.int IntKind.i64 n), (7, AV.int IntKind.i64 i),
        (8, AV.ptr 2 0)]
      [AObj.cells [AV.str s, AV.int IntKind.i64 e], AObj.tok,
        AObj.cells [AV.int IntKind.i64 k, AV.sl 2 (Seq.map T.encN ([], []) l) Tip.none, AV.int IntKind.i64 t, AV.int IntKind.i64 u, AV.sl 1 (Seq.map encB (0 : UInt8) b) Tip.none]]
      (q74_5 n_1 Post) := fun s e acc n i k t u l b n Post h => Go.Ab.awp_sound g74 n _ _ _ _ (Go.Ab.kc (by kernel_rfl) h)
theorem v74_15 : ∀ (s : ByteArray) (e : Int) (acc : List T.Ev) (n i k t u : Int) (l : List T.Need) (b : List UInt8) (n_1 : Nat) (Post : AV → List AObj → Prop),
  needP ((List.length acc + 1) * 72 ≤ 140737488351232)
      (AWP Try.prog 84 n_1 c74_5
        [(4, AV.ptr 0 0),
        (5,
        AV.sl 5
        (Seq.app (Seq.map T.encE T.noEv acc)
        (Seq.raw
        [[AV.int IntKind.i64 k, AV.sl 2 (Seq.map T.encN ([], []) l) Tip.none, AV.int IntKind.i64 t, AV.int IntKind.i64 u, AV.sl 1 (Seq.map encB (0 : UInt8) b) Tip.none]]))
        (Tip.tok 3)),
        (6, AV.int IntKind.i64 n), (7, AV.int IntKind.i64 (IntKind.wrap IntKind.i64 (i + (1 : Int))))]
        [AObj.cells [AV.str s, AV.int IntKind.i64 e], AObj.gone,
        AObj.cells [AV.int IntKind.i64 k, AV.sl 2 (Seq.map T.encN ([], []) l) Tip.none, AV.int IntKind.i64 t, AV.int IntKind.i64 u, AV.sl 1 (Seq.map encB (0 : UInt8) b) Tip.none],
        AObj.tok]
        (q74_2 n_1 Post)) →
    AWP Try.prog 84 n_1 c74_15
      [(4, AV.ptr 0 0), (5, AV.sl 5 (Seq.map T.encE T.noEv acc) (Tip.tok 1)), (6, AV.int IntKind.i64 n), (7, AV.int IntKind.i64 i),
        (8, AV.ptr 2 0)]
      [AObj.cells [AV.str s, AV.int IntKind.i64 e], AObj.tok,
        AObj.cells [AV.int IntKind.i64 k, AV.sl 2 (Seq.map T.encN ([], []) l) Tip.none, AV.int IntKind.i64 t, AV.int IntKind.i64 u, AV.sl 1 (Seq.map encB (0 : UInt8) b) Tip.none]]
      (q74_5 n_1 Post) := fun s e acc n i k t u l b n Post h => Go.Ab.awp_sound g74 n _ _ _ _ (Go.Ab.kc (by kernel_rfl) h)
noncomputable def q74_6 : Nat → (AV → List AObj → Prop) → AQ := fun (n : Nat) (Post : AV → List AObj → Prop) => seqQ (fun (s' : Slots) (H' : List AObj) => awp Try.prog g74 n (codeSnd (codeSnd c74_16)) s' H' (q74_0 n Post)) (q74_0 n Post)
noncomputable def q74_7 : Nat → (AV → List AObj → Prop) → AQ := fun (n : Nat) (Post : AV → List AObj → Prop) => blockQ 2 (q74_6 n Post)
noncomputable def c74_18 : Go.Code := codeFst (codeSnd (codeFst (codeSnd c74_16)))
theorem v74_16 : ∀ (s : ByteArray) (e : Int) (acc : List T.Ev) (n : Nat) (Post : AV → List AObj → Prop),
  (ASpec Try.prog 149 [AV.ptr 0 0] [AObj.cells [AV.str s, AV.int IntKind.i64 e], AObj.tok] fun (r : AV) (H' : List AObj) =>
      ∃ (x : Int),
        r = AV.int IntKind.i64 x ∧
        H' = [AObj.cells [AV.str s, AV.int IntKind.i64 e], AObj.tok] ∧
        AWP Try.prog 84 n c74_18
        [(5, AV.sl 5 (Seq.map T.encE T.noEv acc) (Tip.tok 1)), (9, AV.int IntKind.i64 x), (10, AV.int IntKind.i64 (0 : Int))]
        [AObj.cells [AV.str s, AV.int IntKind.i64 e], AObj.tok] (q74_7 n Post)) →
    AWP Try.prog 84 n c74_16 [(4, AV.ptr 0 0), (5, AV.sl 5 (Seq.map T.encE T.noEv acc) (Tip.tok 1))]
      [AObj.cells [AV.str s, AV.int IntKind.i64 e], AObj.tok] (q74_0 n Post) := fun s e acc n Post h => Go.Ab.awp_sound g74 n _ _ _ _ (Go.Ab.kc (by kernel_rfl) h)
theorem v74_18 : ∀ (s : ByteArray) (e : Int) (acc : List T.Ev) (f i : Int) (n : Nat) (Post : AV → List AObj → Prop),
  condP (decide (i < (↑(List.length acc) : Int)))
      (condP (f == (0 : Int))
        (needP ((0 : Int) ≤ i ∧ i < (↑(List.length acc) : Int))
        (ASpec Try.prog 194
        [AV.agg
        [AV.int IntKind.i64 (Prod.fst (List.getD acc (Int.toNat i) T.noEv)), AV.sl 2 (Seq.map T.encN ([], []) (Prod.fst (Prod.snd (List.getD acc (Int.toNat i) T.noEv)))) Tip.none,
        AV.int IntKind.i64 (Prod.fst (Prod.snd (Prod.snd (List.getD acc (Int.toNat i) T.noEv)))),
        AV.int IntKind.i64 (Prod.fst (Prod.snd (Prod.snd (Prod.snd (List.getD acc (Int.toNat i) T.noEv))))),
        AV.sl 1 (Seq.map encB (0 : UInt8) (Prod.snd (Prod.snd (Prod.snd (Prod.snd (List.getD acc (Int.toNat i) T.noEv)))))) Tip.none]]
        [AObj.cells [AV.str s, AV.int IntKind.i64 e], AObj.tok] fun (r : AV) (H' : List AObj) =>
        ∃ (x : Bool),
        r = AV.bool x ∧
        H' = [AObj.cells [AV.str s, AV.int IntKind.i64 e], AObj.tok] ∧
        condP (!x)
        (AWP Try.prog 84 n c74_18
        [(5, AV.sl 5 (Seq.map T.encE T.noEv acc) (Tip.tok 1)), (9, AV.int IntKind.i64 (3 : Int)),
        (10, AV.int IntKind.i64 (IntKind.wrap IntKind.i64 (i + (1 : Int))))]
        [AObj.cells [AV.str s, AV.int IntKind.i64 e], AObj.tok] (q74_7 n Post))
        (AWP Try.prog 84 n c74_18
        [(5, AV.sl 5 (Seq.map T.encE T.noEv acc) (Tip.tok 1)), (9, AV.int IntKind.i64 f),
        (10, AV.int IntKind.i64 (IntKind.wrap IntKind.i64 (i + (1 : Int))))]
        [AObj.cells [AV.str s, AV.int IntKind.i64 e], AObj.tok] (q74_7 n Post))))
        (condP (f != (0 : Int)) (Post (AV.tup [AV.sl 0 (Seq.raw []) Tip.nil, AV.int IntKind.i64 f]) [AObj.cells [AV.str s, AV.int IntKind.i64 e], AObj.tok])
        (Post (AV.tup [AV.sl 5 (Seq.map T.encE T.noEv acc) (Tip.tok 1), AV.int IntKind.i64 (0 : Int)]) [AObj.cells [AV.str s, AV.int IntKind.i64 e], AObj.tok])))
      (condP (f != (0 : Int)) (Post (AV.tup [AV.sl 0 (Seq.raw []) Tip.nil, AV.int IntKind.i64 f]) [AObj.cells [AV.str s, AV.int IntKind.i64 e], AObj.tok])
        (Post (AV.tup [AV.sl 5 (Seq.map T.encE T.noEv acc) (Tip.tok 1), AV.int IntKind.i64 (0 : Int)]) [AObj.cells [AV.str s, AV.int IntKind.i64 e], AObj.tok])) →
    AWP Try.prog 84 n c74_18 [(5, AV.sl 5 (Seq.map T.encE T.noEv acc) (Tip.tok 1)), (9, AV.int IntKind.i64 f), (10, AV.int IntKind.i64 i)]
      [AObj.cells [AV.str s, AV.int IntKind.i64 e], AObj.tok] (q74_7 n Post) := fun s e acc f i n Post h => Go.Ab.AWP.loop' g74 (Cfg.live g74) c74_18 (by kernel_rfl) (by kernel_rfl) (Go.Ab.kc (by kernel_rfl) h)

-- 195
noncomputable def l195 : Nat → List Nat
  | 5 => [1, 3, 4]
  | 10 => [1, 3, 4, 5, 6]
  | 13 => [1, 3]
  | 15 => [1, 3]
  | _ => []
noncomputable def u195 : Nat → Bool
  | 13 => true
  | 15 => true
  | _ => false
noncomputable def m195 : Nat → Bool
  | _ => false
noncomputable def g195 : Cfg := { N := 98, live := l195, cut := u195, mu := m195, ret := rets }
noncomputable def c195 : Go.Code := Go.Ab.bodyOf Go.Proofs.Try.f195
noncomputable def q195_0 : Nat → (AV → List AObj → Prop) → AQ := fun (n : Nat) (Post : AV → List AObj → Prop) => endQ Try.prog (resultsOf Try.f195) Post
noncomputable def c195_13 : Go.Code := codeSnd (codeSnd (codeSnd c195))
noncomputable def q195_1 : Nat → (AV → List AObj → Prop) → AQ := fun (n : Nat) (Post : AV → List AObj → Prop) => seqQ (fun (s' : Slots) (H' : List AObj) => AWP Try.prog (Cfg.N g195) n c195_13 (restrict s' (Cfg.live g195 13)) H' (q195_0 n Post)) (q195_0 n Post)
noncomputable def q195_2 : Nat → (AV → List AObj → Prop) → AQ := fun (n : Nat) (Post : AV → List AObj → Prop) => blockQ 0 (q195_1 n Post)
noncomputable def c195_5 : Go.Code := codeFst (codeSnd (codeSnd (codeFst (codeSnd (codeFst (codeSnd (codeSnd c195)))))))
theorem s195 : ∀ (e : T.Ev) (Post : AV → List AObj → Prop),
  (ASpec Try.prog 150 [AV.int IntKind.i64 (Prod.fst e)]
      [AObj.cells
        [AV.int IntKind.i64 (Prod.fst e), AV.sl 2 (Seq.map T.encN ([], []) (Prod.fst (Prod.snd e))) Tip.none, AV.int IntKind.i64 (Prod.fst (Prod.snd (Prod.snd e))),
        AV.int IntKind.i64 (Prod.fst (Prod.snd (Prod.snd (Prod.snd e)))), AV.sl 1 (Seq.map encB (0 : UInt8) (Prod.snd (Prod.snd (Prod.snd (Prod.snd e))))) Tip.none]]
      fun (r : AV) (H' : List AObj) =>
      ∃ (x : ByteArray),
        r = AV.str x ∧
        H' =
        [AObj.cells
        [AV.int IntKind.i64 (Prod.fst e), AV.sl 2 (Seq.map T.encN ([], []) (Prod.fst (Prod.snd e))) Tip.none, AV.int IntKind.i64 (Prod.fst (Prod.snd (Prod.snd e))),
        AV.int IntKind.i64 (Prod.fst (Prod.snd (Prod.snd (Prod.snd e)))), AV.sl 1 (Seq.map encB (0 : UInt8) (Prod.snd (Prod.snd (Prod.snd (Prod.snd e))))) Tip.none]] ∧
        condP (Prod.fst e == (1 : Int))
        (ASpec Try.prog 150 [AV.int IntKind.i64 (Prod.fst (Prod.snd (Prod.snd e)))]
        [AObj.cells
        [AV.int IntKind.i64 (Prod.fst e), AV.sl 2 (Seq.map T.encN ([], []) (Prod.fst (Prod.snd e))) Tip.none, AV.int IntKind.i64 (Prod.fst (Prod.snd (Prod.snd e))),
        AV.int IntKind.i64 (Prod.fst (Prod.snd (Prod.snd (Prod.snd e)))), AV.sl 1 (Seq.map encB (0 : UInt8) (Prod.snd (Prod.snd (Prod.snd (Prod.snd e))))) Tip.none]]
        fun (r : AV) (H' : List AObj) =>
        ∃ (x_1 : ByteArray),
        r = AV.str x_1 ∧
        H' =
        [AObj.cells
        [AV.int IntKind.i64 (Prod.fst e), AV.sl 2 (Seq.map T.encN ([], []) (Prod.fst (Prod.snd e))) Tip.none, AV.int IntKind.i64 (Prod.fst (Prod.snd (Prod.snd e))),
        AV.int IntKind.i64 (Prod.fst (Prod.snd (Prod.snd (Prod.snd e)))), AV.sl 1 (Seq.map encB (0 : UInt8) (Prod.snd (Prod.snd (Prod.snd (Prod.snd e))))) Tip.none]] ∧
        (AV.int IntKind.i64 (↑(List.length (Prod.fst (Prod.snd e))) : Int) = AV.int IntKind.i64 (↑(List.length (Prod.fst (Prod.snd e))) : Int) ∧
        [AObj.cells
        [AV.int IntKind.i64 (Prod.fst e), AV.sl 2 (Seq.map T.encN ([], []) (Prod.fst (Prod.snd e))) Tip.none, AV.int IntKind.i64 (Prod.fst (Prod.snd (Prod.snd e))),
        AV.int IntKind.i64 (Prod.fst (Prod.snd (Prod.snd (Prod.snd e)))),
        AV.sl 1 (Seq.map encB (0 : UInt8) (Prod.snd (Prod.snd (Prod.snd (Prod.snd e))))) Tip.none]] =
        [AObj.cells
        [AV.int IntKind.i64 (Prod.fst e), AV.sl 2 (Seq.map T.encN ([], []) (Prod.fst (Prod.snd e))) Tip.none, AV.int IntKind.i64 (Prod.fst (Prod.snd (Prod.snd e))),
        AV.int IntKind.i64 (Prod.fst (Prod.snd (Prod.snd (Prod.snd e)))),
        AV.sl 1 (Seq.map encB (0 : UInt8) (Prod.snd (Prod.snd (Prod.snd (Prod.snd e))))) Tip.none]]) ∧
        (AV.sl 2 (Seq.map T.encN ([], []) (Prod.fst (Prod.snd e))) Tip.none = AV.sl 2 (Seq.map T.encN ([], []) (Prod.fst (Prod.snd e))) Tip.none ∧
        [AObj.cells
        [AV.int IntKind.i64 (Prod.fst e), AV.sl 2 (Seq.map T.encN ([], []) (Prod.fst (Prod.snd e))) Tip.none, AV.int IntKind.i64 (Prod.fst (Prod.snd (Prod.snd e))),
        AV.int IntKind.i64 (Prod.fst (Prod.snd (Prod.snd (Prod.snd e)))),
        AV.sl 1 (Seq.map encB (0 : UInt8) (Prod.snd (Prod.snd (Prod.snd (Prod.snd e))))) Tip.none]] =
        [AObj.cells
        [AV.int IntKind.i64 (Prod.fst e), AV.sl 2 (Seq.map T.encN ([], []) (Prod.fst (Prod.snd e))) Tip.none, AV.int IntKind.i64 (Prod.fst (Prod.snd (Prod.snd e))),
        AV.int IntKind.i64 (Prod.fst (Prod.snd (Prod.snd (Prod.snd e)))),
        AV.sl 1 (Seq.map encB (0 : UInt8) (Prod.snd (Prod.snd (Prod.snd (Prod.snd e))))) Tip.none]]) ∧
        needP ((↑(ByteArray.size x + ByteArray.size x_1) : Int) ≤ (9223372036854775807 : Int))
        (ASpec Try.prog 150 [AV.int IntKind.i64 (↑(List.length (Prod.fst (Prod.snd e))) : Int)]
        [AObj.cells
        [AV.int IntKind.i64 (Prod.fst e), AV.sl 2 (Seq.map T.encN ([], []) (Prod.fst (Prod.snd e))) Tip.none, AV.int IntKind.i64 (Prod.fst (Prod.snd (Prod.snd e))),
        AV.int IntKind.i64 (Prod.fst (Prod.snd (Prod.snd (Prod.snd e)))),
        AV.sl 1 (Seq.map encB (0 : UInt8) (Prod.snd (Prod.snd (Prod.snd (Prod.snd e))))) Tip.none]]
        fun (r : AV) (H' : List AObj) =>
        ∃ (x_2 : ByteArray),
        r = AV.str x_2 ∧
        H' =
        [AObj.cells
        [AV.int IntKind.i64 (Prod.fst e), AV.sl 2 (Seq.map T.encN ([], []) (Prod.fst (Prod.snd e))) Tip.none,
        AV.int IntKind.i64 (Prod.fst (Prod.snd (Prod.snd e))), AV.int IntKind.i64 (Prod.fst (Prod.snd (Prod.snd (Prod.snd e)))),
        AV.sl 1 (Seq.map encB (0 : UInt8) (Prod.snd (Prod.snd (Prod.snd (Prod.snd e))))) Tip.none]] ∧
        needP ((↑(ByteArray.size (x ++ x_1) + ByteArray.size x_2) : Int) ≤ (9223372036854775807 : Int))
        (AWP Try.prog 98 0 c195_5
        [(1, AV.ptr 0 0), (3, AV.str (x ++ x_1 ++ x_2)), (4, AV.int IntKind.i64 (0 : Int))]
        [AObj.cells
        [AV.int IntKind.i64 (Prod.fst e), AV.sl 2 (Seq.map T.encN ([], []) (Prod.fst (Prod.snd e))) Tip.none,
        AV.int IntKind.i64 (Prod.fst (Prod.snd (Prod.snd e))), AV.int IntKind.i64 (Prod.fst (Prod.snd (Prod.snd (Prod.snd e)))),
        AV.sl 1 (Seq.map encB (0 : UInt8) (Prod.snd (Prod.snd (Prod.snd (Prod.snd e))))) Tip.none]]
        (q195_2 0 Post))))
        (AWP Try.prog 98 0 c195_13 [(1, AV.ptr 0 0), (3, AV.str x)]
        [AObj.cells
        [AV.int IntKind.i64 (Prod.fst e), AV.sl 2 (Seq.map T.encN ([], []) (Prod.fst (Prod.snd e))) Tip.none, AV.int IntKind.i64 (Prod.fst (Prod.snd (Prod.snd e))),
        AV.int IntKind.i64 (Prod.fst (Prod.snd (Prod.snd (Prod.snd e)))), AV.sl 1 (Seq.map encB (0 : UInt8) (Prod.snd (Prod.snd (Prod.snd (Prod.snd e))))) Tip.none]]
        (q195_0 0 Post))) →
    ASpec Try.prog 195 [AV.agg (T.encE e)] [] Post := fun e Post h => Go.Ab.ASpec.of_vc g195 Go.Proofs.Try.func195 (by kernel_rfl) (by kernel_rfl) (by kernel_rfl) (Go.Ab.kc (by kernel_rfl) h)
noncomputable def q195_3 : Nat → (AV → List AObj → Prop) → AQ := fun (n : Nat) (Post : AV → List AObj → Prop) => loopQ Try.prog 98 n c195_5 (q195_2 n Post) (Cfg.live g195)
noncomputable def q195_4 : Nat → (AV → List AObj → Prop) → AQ := fun (n : Nat) (Post : AV → List AObj → Prop) => seqQ (fun (s' : Slots) (H' : List AObj) => awp Try.prog g195 n (codeSnd (codeSnd (codeFst c195_5))) s' H' (q195_3 n Post)) (q195_3 n Post)
noncomputable def q195_5 : Nat → (AV → List AObj → Prop) → AQ := fun (n : Nat) (Post : AV → List AObj → Prop) => blockQ 1 (q195_4 n Post)
noncomputable def q195_6 : Nat → (AV → List AObj → Prop) → AQ := fun (n : Nat) (Post : AV → List AObj → Prop) => blockQ 2 (q195_5 n Post)
noncomputable def c195_10 : Go.Code := codeFst (codeSnd (codeSnd (codeSnd (codeFst (codeFst (codeSnd (codeFst c195_5)))))))
theorem v195_5 : ∀ (e : T.Ev) (s : ByteArray) (i : Int) (n : Nat) (Post : AV → List AObj → Prop),
  condP (decide (i < (↑(List.length (Prod.fst (Prod.snd e))) : Int)))
      (needP ((0 : Int) ≤ i ∧ i < (↑(List.length (Prod.fst (Prod.snd e))) : Int))
        (ASpec Try.prog 151 [AV.str { data := List.toArray (Prod.fst (List.getD (Prod.fst (Prod.snd e)) (Int.toNat i) ([], []))) }]
        [AObj.cells
        [AV.int IntKind.i64 (Prod.fst e), AV.sl 2 (Seq.map T.encN ([], []) (Prod.fst (Prod.snd e))) Tip.none, AV.int IntKind.i64 (Prod.fst (Prod.snd (Prod.snd e))),
        AV.int IntKind.i64 (Prod.fst (Prod.snd (Prod.snd (Prod.snd e)))), AV.sl 1 (Seq.map encB (0 : UInt8) (Prod.snd (Prod.snd (Prod.snd (Prod.snd e))))) Tip.none],
        AObj.cells
        [AV.str { data := List.toArray (Prod.fst (List.getD (Prod.fst (Prod.snd e)) (Int.toNat i) ([], []))) },
        AV.sl 2 (Seq.map T.encS ((0 : Int), (0 : Int)) (Prod.snd (List.getD (Prod.fst (Prod.snd e)) (Int.toNat i) ([], [])))) Tip.none]]
        fun (r : AV) (H' : List AObj) =>
        ∃ (x : ByteArray),
        r = AV.str x ∧
        H' =
        [AObj.cells
        [AV.int IntKind.i64 (Prod.fst e), AV.sl 2 (Seq.map T.encN ([], []) (Prod.fst (Prod.snd e))) Tip.none, AV.int IntKind.i64 (Prod.fst (Prod.snd (Prod.snd e))),
        AV.int IntKind.i64 (Prod.fst (Prod.snd (Prod.snd (Prod.snd e)))), AV.sl 1 (Seq.map encB (0 : UInt8) (Prod.snd (Prod.snd (Prod.snd (Prod.snd e))))) Tip.none],
        AObj.cells
        [AV.str { data := List.toArray (Prod.fst (List.getD (Prod.fst (Prod.snd e)) (Int.toNat i) ([], []))) },
        AV.sl 2 (Seq.map T.encS ((0 : Int), (0 : Int)) (Prod.snd (List.getD (Prod.fst (Prod.snd e)) (Int.toNat i) ([], [])))) Tip.none]] ∧
        (AV.int IntKind.i64 (↑(List.length (Prod.snd (List.getD (Prod.fst (Prod.snd e)) (Int.toNat i) ([], [])))) : Int) =
        AV.int IntKind.i64 (↑(List.length (Prod.snd (List.getD (Prod.fst (Prod.snd e)) (Int.toNat i) ([], [])))) : Int) ∧
        [AObj.cells
        [AV.int IntKind.i64 (Prod.fst e), AV.sl 2 (Seq.map T.encN ([], []) (Prod.fst (Prod.snd e))) Tip.none, AV.int IntKind.i64 (Prod.fst (Prod.snd (Prod.snd e))),
        AV.int IntKind.i64 (Prod.fst (Prod.snd (Prod.snd (Prod.snd e)))), AV.sl 1 (Seq.map encB (0 : UInt8) (Prod.snd (Prod.snd (Prod.snd (Prod.snd e))))) Tip.none],
        AObj.cells
        [AV.str { data := List.toArray (Prod.fst (List.getD (Prod.fst (Prod.snd e)) (Int.toNat i) ([], []))) },
        AV.sl 2 (Seq.map T.encS ((0 : Int), (0 : Int)) (Prod.snd (List.getD (Prod.fst (Prod.snd e)) (Int.toNat i) ([], [])))) Tip.none]] =
        [AObj.cells
        [AV.int IntKind.i64 (Prod.fst e), AV.sl 2 (Seq.map T.encN ([], []) (Prod.fst (Prod.snd e))) Tip.none, AV.int IntKind.i64 (Prod.fst (Prod.snd (Prod.snd e))),
        AV.int IntKind.i64 (Prod.fst (Prod.snd (Prod.snd (Prod.snd e)))), AV.sl 1 (Seq.map encB (0 : UInt8) (Prod.snd (Prod.snd (Prod.snd (Prod.snd e))))) Tip.none],
        AObj.cells
        [AV.str { data := List.toArray (Prod.fst (List.getD (Prod.fst (Prod.snd e)) (Int.toNat i) ([], []))) },
        AV.sl 2 (Seq.map T.encS ((0 : Int), (0 : Int)) (Prod.snd (List.getD (Prod.fst (Prod.snd e)) (Int.toNat i) ([], [])))) Tip.none]]) ∧
        (AV.sl 2 (Seq.map T.encS ((0 : Int), (0 : Int)) (Prod.snd (List.getD (Prod.fst (Prod.snd e)) (Int.toNat i) ([], [])))) Tip.none =
        AV.sl 2 (Seq.map T.encS ((0 : Int), (0 : Int)) (Prod.snd (List.getD (Prod.fst (Prod.snd e)) (Int.toNat i) ([], [])))) Tip.none ∧
        [AObj.cells
        [AV.int IntKind.i64 (Prod.fst e), AV.sl 2 (Seq.map T.encN ([], []) (Prod.fst (Prod.snd e))) Tip.none, AV.int IntKind.i64 (Prod.fst (Prod.snd (Prod.snd e))),
        AV.int IntKind.i64 (Prod.fst (Prod.snd (Prod.snd (Prod.snd e)))), AV.sl 1 (Seq.map encB (0 : UInt8) (Prod.snd (Prod.snd (Prod.snd (Prod.snd e))))) Tip.none],
        AObj.cells
        [AV.str { data := List.toArray (Prod.fst (List.getD (Prod.fst (Prod.snd e)) (Int.toNat i) ([], []))) },
        AV.sl 2 (Seq.map T.encS ((0 : Int), (0 : Int)) (Prod.snd (List.getD (Prod.fst (Prod.snd e)) (Int.toNat i) ([], [])))) Tip.none]] =
        [AObj.cells
        [AV.int IntKind.i64 (Prod.fst e), AV.sl 2 (Seq.map T.encN ([], []) (Prod.fst (Prod.snd e))) Tip.none, AV.int IntKind.i64 (Prod.fst (Prod.snd (Prod.snd e))),
        AV.int IntKind.i64 (Prod.fst (Prod.snd (Prod.snd (Prod.snd e)))), AV.sl 1 (Seq.map encB (0 : UInt8) (Prod.snd (Prod.snd (Prod.snd (Prod.snd e))))) Tip.none],
        AObj.cells
        [AV.str { data := List.toArray (Prod.fst (List.getD (Prod.fst (Prod.snd e)) (Int.toNat i) ([], []))) },
        AV.sl 2 (Seq.map T.encS ((0 : Int), (0 : Int)) (Prod.snd (List.getD (Prod.fst (Prod.snd e)) (Int.toNat i) ([], [])))) Tip.none]]) ∧
        needP ((↑(ByteArray.size s + ByteArray.size x) : Int) ≤ (9223372036854775807 : Int))
        (ASpec Try.prog 150 [AV.int IntKind.i64 (↑(List.length (Prod.snd (List.getD (Prod.fst (Prod.snd e)) (Int.toNat i) ([], [])))) : Int)]
        [AObj.cells
        [AV.int IntKind.i64 (Prod.fst e), AV.sl 2 (Seq.map T.encN ([], []) (Prod.fst (Prod.snd e))) Tip.none, AV.int IntKind.i64 (Prod.fst (Prod.snd (Prod.snd e))),
        AV.int IntKind.i64 (Prod.fst (Prod.snd (Prod.snd (Prod.snd e)))), AV.sl 1 (Seq.map encB (0 : UInt8) (Prod.snd (Prod.snd (Prod.snd (Prod.snd e))))) Tip.none],
        AObj.cells
        [AV.str { data := List.toArray (Prod.fst (List.getD (Prod.fst (Prod.snd e)) (Int.toNat i) ([], []))) },
        AV.sl 2 (Seq.map T.encS ((0 : Int), (0 : Int)) (Prod.snd (List.getD (Prod.fst (Prod.snd e)) (Int.toNat i) ([], [])))) Tip.none]]
        fun (r : AV) (H' : List AObj) =>
        ∃ (x_1 : ByteArray),
        r = AV.str x_1 ∧
        H' =
        [AObj.cells
        [AV.int IntKind.i64 (Prod.fst e), AV.sl 2 (Seq.map T.encN ([], []) (Prod.fst (Prod.snd e))) Tip.none, AV.int IntKind.i64 (Prod.fst (Prod.snd (Prod.snd e))),
        AV.int IntKind.i64 (Prod.fst (Prod.snd (Prod.snd (Prod.snd e)))),
        AV.sl 1 (Seq.map encB (0 : UInt8) (Prod.snd (Prod.snd (Prod.snd (Prod.snd e))))) Tip.none],
        AObj.cells
        [AV.str { data := List.toArray (Prod.fst (List.getD (Prod.fst (Prod.snd e)) (Int.toNat i) ([], []))) },
        AV.sl 2 (Seq.map T.encS ((0 : Int), (0 : Int)) (Prod.snd (List.getD (Prod.fst (Prod.snd e)) (Int.toNat i) ([], [])))) Tip.none]] ∧
        needP ((↑(ByteArray.size (s ++ x) + ByteArray.size x_1) : Int) ≤ (9223372036854775807 : Int))
        (AWP Try.prog 98 n c195_10
        [(1, AV.ptr 0 0), (3, AV.str (s ++ x ++ x_1)), (4, AV.int IntKind.i64 i), (5, AV.ptr 1 0),
        (6, AV.int IntKind.i64 (0 : Int))]
        [AObj.cells
        [AV.int IntKind.i64 (Prod.fst e), AV.sl 2 (Seq.map T.encN ([], []) (Prod.fst (Prod.snd e))) Tip.none,
        AV.int IntKind.i64 (Prod.fst (Prod.snd (Prod.snd e))), AV.int IntKind.i64 (Prod.fst (Prod.snd (Prod.snd (Prod.snd e)))),
        AV.sl 1 (Seq.map encB (0 : UInt8) (Prod.snd (Prod.snd (Prod.snd (Prod.snd e))))) Tip.none],
        AObj.cells
        [AV.str { data := List.toArray (Prod.fst (List.getD (Prod.fst (Prod.snd e)) (Int.toNat i) ([], []))) },
        AV.sl 2 (Seq.map T.encS ((0 : Int), (0 : Int)) (Prod.snd (List.getD (Prod.fst (Prod.snd e)) (Int.toNat i) ([], [])))) Tip.none]]
        (q195_6 n Post)))))
      (AWP Try.prog 98 n c195_13 [(1, AV.ptr 0 0), (3, AV.str s)]
        [AObj.cells
        [AV.int IntKind.i64 (Prod.fst e), AV.sl 2 (Seq.map T.encN ([], []) (Prod.fst (Prod.snd e))) Tip.none, AV.int IntKind.i64 (Prod.fst (Prod.snd (Prod.snd e))),
        AV.int IntKind.i64 (Prod.fst (Prod.snd (Prod.snd (Prod.snd e)))), AV.sl 1 (Seq.map encB (0 : UInt8) (Prod.snd (Prod.snd (Prod.snd (Prod.snd e))))) Tip.none]]
        (q195_0 n Post)) →
    AWP Try.prog 98 n c195_5 [(1, AV.ptr 0 0), (3, AV.str s), (4, AV.int IntKind.i64 i)] [AObj.cells (T.encE e)] (q195_2 n Post) := fun e s i n Post h => Go.Ab.AWP.loop' g195 (Cfg.live g195) c195_5 (by kernel_rfl) (by kernel_rfl) (Go.Ab.kc (by kernel_rfl) h)
theorem v195_10 : ∀ (e : T.Ev) (s : ByteArray) (i : Int) (nd : T.Need) (k : Int) (n : Nat) (Post : AV → List AObj → Prop),
  condP (decide (k < (↑(List.length (Prod.snd nd)) : Int)))
      (needP ((0 : Int) ≤ k ∧ k < (↑(List.length (Prod.snd nd)) : Int))
        (needP ((0 : Int) ≤ k ∧ k < (↑(List.length (Prod.snd nd)) : Int))
        (needP ((0 : Int) ≤ k ∧ k < (↑(List.length (Prod.snd nd)) : Int))
        (ASpec Try.prog 150 [AV.int IntKind.i64 (Prod.fst (List.getD (Prod.snd nd) (Int.toNat k) ((0 : Int), (0 : Int))))]
        [AObj.cells
        [AV.int IntKind.i64 (Prod.fst e), AV.sl 2 (Seq.map T.encN ([], []) (Prod.fst (Prod.snd e))) Tip.none, AV.int IntKind.i64 (Prod.fst (Prod.snd (Prod.snd e))),
        AV.int IntKind.i64 (Prod.fst (Prod.snd (Prod.snd (Prod.snd e)))), AV.sl 1 (Seq.map encB (0 : UInt8) (Prod.snd (Prod.snd (Prod.snd (Prod.snd e))))) Tip.none],
        AObj.cells [AV.str { data := List.toArray (Prod.fst nd) }, AV.sl 2 (Seq.map T.encS ((0 : Int), (0 : Int)) (Prod.snd nd)) Tip.none]]
        fun (r : AV) (H' : List AObj) =>
        ∃ (x : ByteArray),
        r = AV.str x ∧
        H' =
        [AObj.cells
        [AV.int IntKind.i64 (Prod.fst e), AV.sl 2 (Seq.map T.encN ([], []) (Prod.fst (Prod.snd e))) Tip.none, AV.int IntKind.i64 (Prod.fst (Prod.snd (Prod.snd e))),
        AV.int IntKind.i64 (Prod.fst (Prod.snd (Prod.snd (Prod.snd e)))), AV.sl 1 (Seq.map encB (0 : UInt8) (Prod.snd (Prod.snd (Prod.snd (Prod.snd e))))) Tip.none],
        AObj.cells [AV.str { data := List.toArray (Prod.fst nd) }, AV.sl 2 (Seq.map T.encS ((0 : Int), (0 : Int)) (Prod.snd nd)) Tip.none]] ∧
        (AV.int IntKind.i64 (Prod.fst (List.getD (Prod.snd nd) (Int.toNat k) ((0 : Int), (0 : Int)))) =
        AV.int IntKind.i64 (Prod.fst (List.getD (Prod.snd nd) (Int.toNat k) ((0 : Int), (0 : Int)))) ∧
        [AObj.cells
        [AV.int IntKind.i64 (Prod.fst e), AV.sl 2 (Seq.map T.encN ([], []) (Prod.fst (Prod.snd e))) Tip.none, AV.int IntKind.i64 (Prod.fst (Prod.snd (Prod.snd e))),
        AV.int IntKind.i64 (Prod.fst (Prod.snd (Prod.snd (Prod.snd e)))), AV.sl 1 (Seq.map encB (0 : UInt8) (Prod.snd (Prod.snd (Prod.snd (Prod.snd e))))) Tip.none],
        AObj.cells [AV.str { data := List.toArray (Prod.fst nd) }, AV.sl 2 (Seq.map T.encS ((0 : Int), (0 : Int)) (Prod.snd nd)) Tip.none]] =
        [AObj.cells
        [AV.int IntKind.i64 (Prod.fst e), AV.sl 2 (Seq.map T.encN ([], []) (Prod.fst (Prod.snd e))) Tip.none, AV.int IntKind.i64 (Prod.fst (Prod.snd (Prod.snd e))),
        AV.int IntKind.i64 (Prod.fst (Prod.snd (Prod.snd (Prod.snd e)))), AV.sl 1 (Seq.map encB (0 : UInt8) (Prod.snd (Prod.snd (Prod.snd (Prod.snd e))))) Tip.none],
        AObj.cells [AV.str { data := List.toArray (Prod.fst nd) }, AV.sl 2 (Seq.map T.encS ((0 : Int), (0 : Int)) (Prod.snd nd)) Tip.none]]) ∧
        (AV.sl 2 (Seq.map T.encS ((0 : Int), (0 : Int)) (Prod.snd nd)) Tip.none = AV.sl 2 (Seq.map T.encS ((0 : Int), (0 : Int)) (Prod.snd nd)) Tip.none ∧
        [AObj.cells
        [AV.int IntKind.i64 (Prod.fst e), AV.sl 2 (Seq.map T.encN ([], []) (Prod.fst (Prod.snd e))) Tip.none, AV.int IntKind.i64 (Prod.fst (Prod.snd (Prod.snd e))),
        AV.int IntKind.i64 (Prod.fst (Prod.snd (Prod.snd (Prod.snd e)))), AV.sl 1 (Seq.map encB (0 : UInt8) (Prod.snd (Prod.snd (Prod.snd (Prod.snd e))))) Tip.none],
        AObj.cells [AV.str { data := List.toArray (Prod.fst nd) }, AV.sl 2 (Seq.map T.encS ((0 : Int), (0 : Int)) (Prod.snd nd)) Tip.none]] =
        [AObj.cells
        [AV.int IntKind.i64 (Prod.fst e), AV.sl 2 (Seq.map T.encN ([], []) (Prod.fst (Prod.snd e))) Tip.none, AV.int IntKind.i64 (Prod.fst (Prod.snd (Prod.snd e))),
        AV.int IntKind.i64 (Prod.fst (Prod.snd (Prod.snd (Prod.snd e)))), AV.sl 1 (Seq.map encB (0 : UInt8) (Prod.snd (Prod.snd (Prod.snd (Prod.snd e))))) Tip.none],
        AObj.cells [AV.str { data := List.toArray (Prod.fst nd) }, AV.sl 2 (Seq.map T.encS ((0 : Int), (0 : Int)) (Prod.snd nd)) Tip.none]]) ∧
        (AV.int IntKind.i64 (Prod.snd (List.getD (Prod.snd nd) (Int.toNat k) ((0 : Int), (0 : Int)))) =
        AV.int IntKind.i64 (Prod.snd (List.getD (Prod.snd nd) (Int.toNat k) ((0 : Int), (0 : Int)))) ∧
        [AObj.cells
        [AV.int IntKind.i64 (Prod.fst e), AV.sl 2 (Seq.map T.encN ([], []) (Prod.fst (Prod.snd e))) Tip.none, AV.int IntKind.i64 (Prod.fst (Prod.snd (Prod.snd e))),
        AV.int IntKind.i64 (Prod.fst (Prod.snd (Prod.snd (Prod.snd e)))),
        AV.sl 1 (Seq.map encB (0 : UInt8) (Prod.snd (Prod.snd (Prod.snd (Prod.snd e))))) Tip.none],
        AObj.cells [AV.str { data := List.toArray (Prod.fst nd) }, AV.sl 2 (Seq.map T.encS ((0 : Int), (0 : Int)) (Prod.snd nd)) Tip.none]] =
        [AObj.cells
        [AV.int IntKind.i64 (Prod.fst e), AV.sl 2 (Seq.map T.encN ([], []) (Prod.fst (Prod.snd e))) Tip.none, AV.int IntKind.i64 (Prod.fst (Prod.snd (Prod.snd e))),
        AV.int IntKind.i64 (Prod.fst (Prod.snd (Prod.snd (Prod.snd e)))),
        AV.sl 1 (Seq.map encB (0 : UInt8) (Prod.snd (Prod.snd (Prod.snd (Prod.snd e))))) Tip.none],
        AObj.cells [AV.str { data := List.toArray (Prod.fst nd) }, AV.sl 2 (Seq.map T.encS ((0 : Int), (0 : Int)) (Prod.snd nd)) Tip.none]]) ∧
        (AV.sl 2 (Seq.map T.encS ((0 : Int), (0 : Int)) (Prod.snd nd)) Tip.none = AV.sl 2 (Seq.map T.encS ((0 : Int), (0 : Int)) (Prod.snd nd)) Tip.none ∧
        [AObj.cells
        [AV.int IntKind.i64 (Prod.fst e), AV.sl 2 (Seq.map T.encN ([], []) (Prod.fst (Prod.snd e))) Tip.none, AV.int IntKind.i64 (Prod.fst (Prod.snd (Prod.snd e))),
        AV.int IntKind.i64 (Prod.fst (Prod.snd (Prod.snd (Prod.snd e)))),
        AV.sl 1 (Seq.map encB (0 : UInt8) (Prod.snd (Prod.snd (Prod.snd (Prod.snd e))))) Tip.none],
        AObj.cells [AV.str { data := List.toArray (Prod.fst nd) }, AV.sl 2 (Seq.map T.encS ((0 : Int), (0 : Int)) (Prod.snd nd)) Tip.none]] =
        [AObj.cells
        [AV.int IntKind.i64 (Prod.fst e), AV.sl 2 (Seq.map T.encN ([], []) (Prod.fst (Prod.snd e))) Tip.none, AV.int IntKind.i64 (Prod.fst (Prod.snd (Prod.snd e))),
        AV.int IntKind.i64 (Prod.fst (Prod.snd (Prod.snd (Prod.snd e)))),
        AV.sl 1 (Seq.map encB (0 : UInt8) (Prod.snd (Prod.snd (Prod.snd (Prod.snd e))))) Tip.none],
        AObj.cells [AV.str { data := List.toArray (Prod.fst nd) }, AV.sl 2 (Seq.map T.encS ((0 : Int), (0 : Int)) (Prod.snd nd)) Tip.none]]) ∧
        needP ((↑(ByteArray.size s + ByteArray.size x) : Int) ≤ (9223372036854775807 : Int))
        (ASpec Try.prog 150
        [AV.int IntKind.i64
        (IntKind.wrap IntKind.i64
        (Prod.snd (List.getD (Prod.snd nd) (Int.toNat k) ((0 : Int), (0 : Int))) - Prod.fst (List.getD (Prod.snd nd) (Int.toNat k) ((0 : Int), (0 : Int)))))]
        [AObj.cells
        [AV.int IntKind.i64 (Prod.fst e), AV.sl 2 (Seq.map T.encN ([], []) (Prod.fst (Prod.snd e))) Tip.none, AV.int IntKind.i64 (Prod.fst (Prod.snd (Prod.snd e))),
        AV.int IntKind.i64 (Prod.fst (Prod.snd (Prod.snd (Prod.snd e)))),
        AV.sl 1 (Seq.map encB (0 : UInt8) (Prod.snd (Prod.snd (Prod.snd (Prod.snd e))))) Tip.none],
        AObj.cells [AV.str { data := List.toArray (Prod.fst nd) }, AV.sl 2 (Seq.map T.encS ((0 : Int), (0 : Int)) (Prod.snd nd)) Tip.none]]
        fun (r : AV) (H' : List AObj) =>
        ∃ (x_1 : ByteArray),
        r = AV.str x_1 ∧
        H' =
        [AObj.cells
        [AV.int IntKind.i64 (Prod.fst e), AV.sl 2 (Seq.map T.encN ([], []) (Prod.fst (Prod.snd e))) Tip.none,
        AV.int IntKind.i64 (Prod.fst (Prod.snd (Prod.snd e))), AV.int IntKind.i64 (Prod.fst (Prod.snd (Prod.snd (Prod.snd e)))),
        AV.sl 1 (Seq.map encB (0 : UInt8) (Prod.snd (Prod.snd (Prod.snd (Prod.snd e))))) Tip.none],
        AObj.cells [AV.str { data := List.toArray (Prod.fst nd) }, AV.sl 2 (Seq.map T.encS ((0 : Int), (0 : Int)) (Prod.snd nd)) Tip.none]] ∧
        needP ((↑(ByteArray.size (s ++ x) + ByteArray.size x_1) : Int) ≤ (9223372036854775807 : Int))
        (AWP Try.prog 98 n c195_10
        [(1, AV.ptr 0 0), (3, AV.str (s ++ x ++ x_1)), (4, AV.int IntKind.i64 i), (5, AV.ptr 1 0),
        (6, AV.int IntKind.i64 (IntKind.wrap IntKind.i64 (k + (1 : Int))))]
        [AObj.cells
        [AV.int IntKind.i64 (Prod.fst e), AV.sl 2 (Seq.map T.encN ([], []) (Prod.fst (Prod.snd e))) Tip.none,
        AV.int IntKind.i64 (Prod.fst (Prod.snd (Prod.snd e))), AV.int IntKind.i64 (Prod.fst (Prod.snd (Prod.snd (Prod.snd e)))),
        AV.sl 1 (Seq.map encB (0 : UInt8) (Prod.snd (Prod.snd (Prod.snd (Prod.snd e))))) Tip.none],
        AObj.cells [AV.str { data := List.toArray (Prod.fst nd) }, AV.sl 2 (Seq.map T.encS ((0 : Int), (0 : Int)) (Prod.snd nd)) Tip.none]]
        (q195_6 n Post)))))))
      (AWP Try.prog 98 n c195_5 [(1, AV.ptr 0 0), (3, AV.str s), (4, AV.int IntKind.i64 (IntKind.wrap IntKind.i64 (i + (1 : Int))))]
        [AObj.cells
        [AV.int IntKind.i64 (Prod.fst e), AV.sl 2 (Seq.map T.encN ([], []) (Prod.fst (Prod.snd e))) Tip.none, AV.int IntKind.i64 (Prod.fst (Prod.snd (Prod.snd e))),
        AV.int IntKind.i64 (Prod.fst (Prod.snd (Prod.snd (Prod.snd e)))), AV.sl 1 (Seq.map encB (0 : UInt8) (Prod.snd (Prod.snd (Prod.snd (Prod.snd e))))) Tip.none],
        AObj.cells [AV.str { data := List.toArray (Prod.fst nd) }, AV.sl 2 (Seq.map T.encS ((0 : Int), (0 : Int)) (Prod.snd nd)) Tip.none]]
        (q195_2 n Post)) →
    AWP Try.prog 98 n c195_10
      [(1, AV.ptr 0 0), (3, AV.str s), (4, AV.int IntKind.i64 i), (5, AV.ptr 1 0), (6, AV.int IntKind.i64 k)]
      [AObj.cells (T.encE e), AObj.cells (T.encN nd)] (q195_6 n Post) := fun e s i nd k n Post h => Go.Ab.AWP.loop' g195 (Cfg.live g195) c195_10 (by kernel_rfl) (by kernel_rfl) (Go.Ab.kc (by kernel_rfl) h)
noncomputable def c195_15 : Go.Code := codeSnd c195_13
theorem v195_13 : ∀ (e : T.Ev) (s : ByteArray) (n : Nat) (Post : AV → List AObj → Prop),
  condP (Prod.fst e == (3 : Int))
      (needP (allBytes (Seq.map encB (0 : UInt8) (Prod.snd (Prod.snd (Prod.snd (Prod.snd e))))))
        (ASpec Try.prog 150 [AV.int IntKind.i64 (Prod.fst (Prod.snd (Prod.snd (Prod.snd e))))]
        [AObj.cells
        [AV.int IntKind.i64 (Prod.fst e), AV.sl 2 (Seq.map T.encN ([], []) (Prod.fst (Prod.snd e))) Tip.none, AV.int IntKind.i64 (Prod.fst (Prod.snd (Prod.snd e))),
        AV.int IntKind.i64 (Prod.fst (Prod.snd (Prod.snd (Prod.snd e)))), AV.sl 1 (Seq.map encB (0 : UInt8) (Prod.snd (Prod.snd (Prod.snd (Prod.snd e))))) Tip.none]]
        fun (r : AV) (H' : List AObj) =>
        ∃ (x : ByteArray),
        r = AV.str x ∧
        H' =
        [AObj.cells
        [AV.int IntKind.i64 (Prod.fst e), AV.sl 2 (Seq.map T.encN ([], []) (Prod.fst (Prod.snd e))) Tip.none, AV.int IntKind.i64 (Prod.fst (Prod.snd (Prod.snd e))),
        AV.int IntKind.i64 (Prod.fst (Prod.snd (Prod.snd (Prod.snd e)))), AV.sl 1 (Seq.map encB (0 : UInt8) (Prod.snd (Prod.snd (Prod.snd (Prod.snd e))))) Tip.none]] ∧
        (AV.sl 1 (Seq.map encB (0 : UInt8) (Prod.snd (Prod.snd (Prod.snd (Prod.snd e))))) Tip.none =
        AV.sl 1 (Seq.map encB (0 : UInt8) (Prod.snd (Prod.snd (Prod.snd (Prod.snd e))))) Tip.none ∧
        [AObj.cells
        [AV.int IntKind.i64 (Prod.fst e), AV.sl 2 (Seq.map T.encN ([], []) (Prod.fst (Prod.snd e))) Tip.none, AV.int IntKind.i64 (Prod.fst (Prod.snd (Prod.snd e))),
        AV.int IntKind.i64 (Prod.fst (Prod.snd (Prod.snd (Prod.snd e)))), AV.sl 1 (Seq.map encB (0 : UInt8) (Prod.snd (Prod.snd (Prod.snd (Prod.snd e))))) Tip.none]] =
        [AObj.cells
        [AV.int IntKind.i64 (Prod.fst e), AV.sl 2 (Seq.map T.encN ([], []) (Prod.fst (Prod.snd e))) Tip.none, AV.int IntKind.i64 (Prod.fst (Prod.snd (Prod.snd e))),
        AV.int IntKind.i64 (Prod.fst (Prod.snd (Prod.snd (Prod.snd e)))), AV.sl 1 (Seq.map encB (0 : UInt8) (Prod.snd (Prod.snd (Prod.snd (Prod.snd e))))) Tip.none]]) ∧
        needP ((↑(ByteArray.size s + ByteArray.size x) : Int) ≤ (9223372036854775807 : Int))
        (ASpec Try.prog 151 [AV.str (bytesOf (Seq.map encB (0 : UInt8) (Prod.snd (Prod.snd (Prod.snd (Prod.snd e))))))]
        [AObj.cells
        [AV.int IntKind.i64 (Prod.fst e), AV.sl 2 (Seq.map T.encN ([], []) (Prod.fst (Prod.snd e))) Tip.none, AV.int IntKind.i64 (Prod.fst (Prod.snd (Prod.snd e))),
        AV.int IntKind.i64 (Prod.fst (Prod.snd (Prod.snd (Prod.snd e)))), AV.sl 1 (Seq.map encB (0 : UInt8) (Prod.snd (Prod.snd (Prod.snd (Prod.snd e))))) Tip.none]]
        fun (r : AV) (H' : List AObj) =>
        ∃ (x_1 : ByteArray),
        r = AV.str x_1 ∧
        H' =
        [AObj.cells
        [AV.int IntKind.i64 (Prod.fst e), AV.sl 2 (Seq.map T.encN ([], []) (Prod.fst (Prod.snd e))) Tip.none, AV.int IntKind.i64 (Prod.fst (Prod.snd (Prod.snd e))),
        AV.int IntKind.i64 (Prod.fst (Prod.snd (Prod.snd (Prod.snd e)))),
        AV.sl 1 (Seq.map encB (0 : UInt8) (Prod.snd (Prod.snd (Prod.snd (Prod.snd e))))) Tip.none]] ∧
        needP ((↑(ByteArray.size (s ++ x) + ByteArray.size x_1) : Int) ≤ (9223372036854775807 : Int))
        (AWP Try.prog 98 n c195_15 [(1, AV.ptr 0 0), (3, AV.str (s ++ x ++ x_1))]
        [AObj.cells
        [AV.int IntKind.i64 (Prod.fst e), AV.sl 2 (Seq.map T.encN ([], []) (Prod.fst (Prod.snd e))) Tip.none, AV.int IntKind.i64 (Prod.fst (Prod.snd (Prod.snd e))),
        AV.int IntKind.i64 (Prod.fst (Prod.snd (Prod.snd (Prod.snd e)))),
        AV.sl 1 (Seq.map encB (0 : UInt8) (Prod.snd (Prod.snd (Prod.snd (Prod.snd e))))) Tip.none]]
        (q195_0 n Post)))))
      (AWP Try.prog 98 n c195_15 [(1, AV.ptr 0 0), (3, AV.str s)]
        [AObj.cells
        [AV.int IntKind.i64 (Prod.fst e), AV.sl 2 (Seq.map T.encN ([], []) (Prod.fst (Prod.snd e))) Tip.none, AV.int IntKind.i64 (Prod.fst (Prod.snd (Prod.snd e))),
        AV.int IntKind.i64 (Prod.fst (Prod.snd (Prod.snd (Prod.snd e)))), AV.sl 1 (Seq.map encB (0 : UInt8) (Prod.snd (Prod.snd (Prod.snd (Prod.snd e))))) Tip.none]]
        (q195_0 n Post)) →
    AWP Try.prog 98 n c195_13 [(1, AV.ptr 0 0), (3, AV.str s)] [AObj.cells (T.encE e)] (q195_0 n Post) := fun e s n Post h => Go.Ab.awp_sound g195 n _ _ _ _ (Go.Ab.kc (by kernel_rfl) h)
theorem v195_15 : ∀ (e : T.Ev) (s : ByteArray) (n : Nat) (Post : AV → List AObj → Prop),
  condP (Prod.fst e == (4 : Int))
      (ASpec Try.prog 150 [AV.int IntKind.i64 (Prod.fst (Prod.snd (Prod.snd (Prod.snd e))))]
        [AObj.cells
        [AV.int IntKind.i64 (Prod.fst e), AV.sl 2 (Seq.map T.encN ([], []) (Prod.fst (Prod.snd e))) Tip.none, AV.int IntKind.i64 (Prod.fst (Prod.snd (Prod.snd e))),
        AV.int IntKind.i64 (Prod.fst (Prod.snd (Prod.snd (Prod.snd e)))), AV.sl 1 (Seq.map encB (0 : UInt8) (Prod.snd (Prod.snd (Prod.snd (Prod.snd e))))) Tip.none]]
        fun (r : AV) (H' : List AObj) =>
        ∃ (x : ByteArray),
        r = AV.str x ∧
        H' =
        [AObj.cells
        [AV.int IntKind.i64 (Prod.fst e), AV.sl 2 (Seq.map T.encN ([], []) (Prod.fst (Prod.snd e))) Tip.none, AV.int IntKind.i64 (Prod.fst (Prod.snd (Prod.snd e))),
        AV.int IntKind.i64 (Prod.fst (Prod.snd (Prod.snd (Prod.snd e)))), AV.sl 1 (Seq.map encB (0 : UInt8) (Prod.snd (Prod.snd (Prod.snd (Prod.snd e))))) Tip.none]] ∧
        needP ((↑(ByteArray.size s + ByteArray.size x) : Int) ≤ (9223372036854775807 : Int))
        (Post (AV.str (s ++ x))
        [AObj.cells
        [AV.int IntKind.i64 (Prod.fst e), AV.sl 2 (Seq.map T.encN ([], []) (Prod.fst (Prod.snd e))) Tip.none, AV.int IntKind.i64 (Prod.fst (Prod.snd (Prod.snd e))),
        AV.int IntKind.i64 (Prod.fst (Prod.snd (Prod.snd (Prod.snd e)))), AV.sl 1 (Seq.map encB (0 : UInt8) (Prod.snd (Prod.snd (Prod.snd (Prod.snd e))))) Tip.none]]))
      (Post (AV.str s)
        [AObj.cells
        [AV.int IntKind.i64 (Prod.fst e), AV.sl 2 (Seq.map T.encN ([], []) (Prod.fst (Prod.snd e))) Tip.none, AV.int IntKind.i64 (Prod.fst (Prod.snd (Prod.snd e))),
        AV.int IntKind.i64 (Prod.fst (Prod.snd (Prod.snd (Prod.snd e)))), AV.sl 1 (Seq.map encB (0 : UInt8) (Prod.snd (Prod.snd (Prod.snd (Prod.snd e))))) Tip.none]]) →
    AWP Try.prog 98 n c195_15 [(1, AV.ptr 0 0), (3, AV.str s)] [AObj.cells (T.encE e)] (q195_0 n Post) := fun e s n Post h => Go.Ab.awp_sound g195 n _ _ _ _ (Go.Ab.kc (by kernel_rfl) h)

-- 75
noncomputable def l75 : Nat → List Nat
  | 5 => [0, 3, 4]
  | _ => []
noncomputable def u75 : Nat → Bool
  | _ => false
noncomputable def m75 : Nat → Bool
  | _ => false
noncomputable def g75 : Cfg := { N := 31, live := l75, cut := u75, mu := m75, ret := rets }
noncomputable def c75 : Go.Code := Go.Ab.bodyOf Go.Proofs.Try.f75
noncomputable def q75_0 : Nat → (AV → List AObj → Prop) → AQ := fun (n : Nat) (Post : AV → List AObj → Prop) => endQ Try.prog (resultsOf Try.f75) Post
noncomputable def q75_1 : Nat → (AV → List AObj → Prop) → AQ := fun (n : Nat) (Post : AV → List AObj → Prop) => seqQ (fun (s' : Slots) (H' : List AObj) => awp Try.prog g75 n (codeSnd (codeSnd (codeSnd (codeSnd c75)))) s' H' (q75_0 n Post)) (q75_0 n Post)
noncomputable def q75_2 : Nat → (AV → List AObj → Prop) → AQ := fun (n : Nat) (Post : AV → List AObj → Prop) => blockQ 0 (q75_1 n Post)
noncomputable def c75_5 : Go.Code := codeFst (codeSnd (codeFst (codeSnd (codeSnd (codeSnd c75)))))
theorem s75 : ∀ (l : List T.Ev) (Post : AV → List AObj → Prop),
  condP (decide ((↑(List.length l) : Int) > (400 : Int))) (Post (AV.str { data := #[] }) [])
      (ASpec Try.prog 150 [AV.int IntKind.i64 (↑(List.length l) : Int)] [] fun (r : AV) (H' : List AObj) =>
        ∃ (x : ByteArray),
        r = AV.str x ∧
        H' = [] ∧
        AWP Try.prog 31 0 c75_5 [(0, AV.sl 5 (Seq.map T.encE T.noEv l) Tip.none), (3, AV.str x), (4, AV.int IntKind.i64 (0 : Int))] []
        (q75_2 0 Post)) →
    ASpec Try.prog 75 [AV.sl 5 (Seq.map T.encE T.noEv l) Tip.none] [] Post := fun l Post h => Go.Ab.ASpec.of_vc g75 Go.Proofs.Try.func75 (by kernel_rfl) (by kernel_rfl) (by kernel_rfl) (Go.Ab.kc (by kernel_rfl) h)
theorem v75_5 : ∀ (l : List T.Ev) (s : ByteArray) (i : Int) (n : Nat) (Post : AV → List AObj → Prop),
  condP (decide (i < (↑(List.length l) : Int)))
      (needP ((0 : Int) ≤ i ∧ i < (↑(List.length l) : Int))
        (ASpec Try.prog 194
        [AV.agg
        [AV.int IntKind.i64 (Prod.fst (List.getD l (Int.toNat i) T.noEv)), AV.sl 2 (Seq.map T.encN ([], []) (Prod.fst (Prod.snd (List.getD l (Int.toNat i) T.noEv)))) Tip.none,
        AV.int IntKind.i64 (Prod.fst (Prod.snd (Prod.snd (List.getD l (Int.toNat i) T.noEv)))),
        AV.int IntKind.i64 (Prod.fst (Prod.snd (Prod.snd (Prod.snd (List.getD l (Int.toNat i) T.noEv))))),
        AV.sl 1 (Seq.map encB (0 : UInt8) (Prod.snd (Prod.snd (Prod.snd (Prod.snd (List.getD l (Int.toNat i) T.noEv)))))) Tip.none]]
        [] fun (r : AV) (H' : List AObj) =>
        ∃ (x : Bool),
        r = AV.bool x ∧
        H' = [] ∧
        condP (!x) (Post (AV.str { data := #[] }) [])
        (needP ((0 : Int) ≤ i ∧ i < (↑(List.length l) : Int))
        (ASpec Try.prog 195
        [AV.agg
        [AV.int IntKind.i64 (Prod.fst (List.getD l (Int.toNat i) T.noEv)),
        AV.sl 2 (Seq.map T.encN ([], []) (Prod.fst (Prod.snd (List.getD l (Int.toNat i) T.noEv)))) Tip.none,
        AV.int IntKind.i64 (Prod.fst (Prod.snd (Prod.snd (List.getD l (Int.toNat i) T.noEv)))),
        AV.int IntKind.i64 (Prod.fst (Prod.snd (Prod.snd (Prod.snd (List.getD l (Int.toNat i) T.noEv))))),
        AV.sl 1 (Seq.map encB (0 : UInt8) (Prod.snd (Prod.snd (Prod.snd (Prod.snd (List.getD l (Int.toNat i) T.noEv)))))) Tip.none]]
        [] fun (r : AV) (H' : List AObj) =>
        ∃ (x : ByteArray),
        r = AV.str x ∧
        H' = [] ∧
        needP ((↑(ByteArray.size s + ByteArray.size x) : Int) ≤ (9223372036854775807 : Int))
        (AWP Try.prog 31 n c75_5
        [(0, AV.sl 5 (Seq.map T.encE T.noEv l) Tip.none), (3, AV.str (s ++ x)),
        (4, AV.int IntKind.i64 (IntKind.wrap IntKind.i64 (i + (1 : Int))))]
        [] (q75_2 n Post))))))
      (Post (AV.str s) []) →
    AWP Try.prog 31 n c75_5 [(0, AV.sl 5 (Seq.map T.encE T.noEv l) Tip.none), (3, AV.str s), (4, AV.int IntKind.i64 i)] [] (q75_2 n Post) := fun l s i n Post h => Go.Ab.AWP.loop' g75 (Cfg.live g75) c75_5 (by kernel_rfl) (by kernel_rfl) (Go.Ab.kc (by kernel_rfl) h)

-- 76
noncomputable def l76 : Nat → List Nat
  | 4 => [0, 1, 5]
  | _ => []
noncomputable def u76 : Nat → Bool
  | _ => false
noncomputable def m76 : Nat → Bool
  | _ => false
noncomputable def g76 : Cfg := { N := 27, live := l76, cut := u76, mu := m76, ret := rets }
noncomputable def c76 : Go.Code := Go.Ab.bodyOf Go.Proofs.Try.f76
noncomputable def q76_0 : Nat → (AV → List AObj → Prop) → AQ := fun (n : Nat) (Post : AV → List AObj → Prop) => endQ Try.prog (resultsOf Try.f76) Post
noncomputable def q76_1 : Nat → (AV → List AObj → Prop) → AQ := fun (n : Nat) (Post : AV → List AObj → Prop) => seqQ (fun (s' : Slots) (H' : List AObj) => awp Try.prog g76 n (codeSnd (codeSnd (codeSnd c76))) s' H' (q76_0 n Post)) (q76_0 n Post)
noncomputable def q76_2 : Nat → (AV → List AObj → Prop) → AQ := fun (n : Nat) (Post : AV → List AObj → Prop) => blockQ 0 (q76_1 n Post)
noncomputable def c76_4 : Go.Code := codeFst (codeSnd (codeFst (codeSnd (codeSnd c76))))
theorem s76 : ∀ (a b : List T.Ev) (Post : AV → List AObj → Prop),
  condP ((↑(List.length a) : Int) != (↑(List.length b) : Int)) (Post (AV.bool false) [])
      (AWP Try.prog 27 0 c76_4
        [(0, AV.sl 5 (Seq.map T.encE T.noEv a) Tip.none), (1, AV.sl 5 (Seq.map T.encE T.noEv b) Tip.none), (5, AV.int IntKind.i64 (0 : Int))] []
        (q76_2 0 Post)) →
    ASpec Try.prog 76 [AV.sl 5 (Seq.map T.encE T.noEv a) Tip.none, AV.sl 5 (Seq.map T.encE T.noEv b) Tip.none] [] Post := fun a b Post h => Go.Ab.ASpec.of_vc g76 Go.Proofs.Try.func76 (by kernel_rfl) (by kernel_rfl) (by kernel_rfl) (Go.Ab.kc (by kernel_rfl) h)
theorem v76_4 : ∀ (a b : List T.Ev) (i : Int) (n : Nat) (Post : AV → List AObj → Prop),
  condP (decide (i < (↑(List.length a) : Int)))
      (needP ((0 : Int) ≤ i ∧ i < (↑(List.length a) : Int))
        (needP ((0 : Int) ≤ i ∧ i < (↑(List.length b) : Int))
        (ASpec Try.prog 48
        [AV.agg
        [AV.int IntKind.i64 (Prod.fst (List.getD a (Int.toNat i) T.noEv)), AV.sl 2 (Seq.map T.encN ([], []) (Prod.fst (Prod.snd (List.getD a (Int.toNat i) T.noEv)))) Tip.none,
        AV.int IntKind.i64 (Prod.fst (Prod.snd (Prod.snd (List.getD a (Int.toNat i) T.noEv)))),
        AV.int IntKind.i64 (Prod.fst (Prod.snd (Prod.snd (Prod.snd (List.getD a (Int.toNat i) T.noEv))))),
        AV.sl 1 (Seq.map encB (0 : UInt8) (Prod.snd (Prod.snd (Prod.snd (Prod.snd (List.getD a (Int.toNat i) T.noEv)))))) Tip.none],
        AV.agg
        [AV.int IntKind.i64 (Prod.fst (List.getD b (Int.toNat i) T.noEv)), AV.sl 2 (Seq.map T.encN ([], []) (Prod.fst (Prod.snd (List.getD b (Int.toNat i) T.noEv)))) Tip.none,
        AV.int IntKind.i64 (Prod.fst (Prod.snd (Prod.snd (List.getD b (Int.toNat i) T.noEv)))),
        AV.int IntKind.i64 (Prod.fst (Prod.snd (Prod.snd (Prod.snd (List.getD b (Int.toNat i) T.noEv))))),
        AV.sl 1 (Seq.map encB (0 : UInt8) (Prod.snd (Prod.snd (Prod.snd (Prod.snd (List.getD b (Int.toNat i) T.noEv)))))) Tip.none]]
        [] fun (r : AV) (H' : List AObj) =>
        ∃ (x : Bool),
        r = AV.bool x ∧
        H' = [] ∧
        condP (!x) (Post (AV.bool false) [])
        (AWP Try.prog 27 n c76_4
        [(0, AV.sl 5 (Seq.map T.encE T.noEv a) Tip.none), (1, AV.sl 5 (Seq.map T.encE T.noEv b) Tip.none),
        (5, AV.int IntKind.i64 (IntKind.wrap IntKind.i64 (i + (1 : Int))))]
        [] (q76_2 n Post)))))
      (Post (AV.bool true) []) →
    AWP Try.prog 27 n c76_4
      [(0, AV.sl 5 (Seq.map T.encE T.noEv a) Tip.none), (1, AV.sl 5 (Seq.map T.encE T.noEv b) Tip.none), (5, AV.int IntKind.i64 i)] [] (q76_2 n Post) := fun a b i n Post h => Go.Ab.AWP.loop' g76 (Cfg.live g76) c76_4 (by kernel_rfl) (by kernel_rfl) (Go.Ab.kc (by kernel_rfl) h)

-- 9
noncomputable def l9 : Nat → List Nat
  | 8 => [0, 5]
  | _ => []
noncomputable def u9 : Nat → Bool
  | 8 => true
  | _ => false
noncomputable def m9 : Nat → Bool
  | _ => false
noncomputable def g9 : Cfg := { N := 81, live := l9, cut := u9, mu := m9, ret := rets }
noncomputable def c9 : Go.Code := Go.Ab.bodyOf Go.Proofs.Try.f9
noncomputable def q9_0 : Nat → (AV → List AObj → Prop) → AQ := fun (n : Nat) (Post : AV → List AObj → Prop) => endQ Try.prog (resultsOf Try.f9) Post
noncomputable def c9_8 : Go.Code := codeSnd (codeSnd (codeSnd (codeSnd (codeSnd (codeSnd c9)))))
theorem s9 : ∀ (l : List T.Ev) (b : List UInt8) (Post : AV → List AObj → Prop),
  (ASpec Try.prog 70 [AV.sl 5 (Seq.map T.encE T.noEv l) Tip.none] [] fun (r : AV) (H' : List AObj) =>
      ∃ (x : Bool),
        r = AV.bool x ∧
        H' = [] ∧
        condP x (ASpec Try.prog 71 [] [] fun (r : AV) (H' : List AObj) => ∃ (x : Unit), r = AV.bool true ∧ H' = [] ∧ Post (AV.bool true) [])
        (condP (decide ((↑(List.length b) : Int) > (12000 : Int)))
        (ASpec Try.prog 71 [] [] fun (r : AV) (H' : List AObj) => ∃ (x : Unit), r = AV.bool true ∧ H' = [] ∧ Post (AV.bool true) [])
        (ASpec Try.prog 72 [AV.sl 5 (Seq.map T.encE T.noEv l) Tip.none] [] fun (r : AV) (H' : List AObj) =>
        ∃ (x : List UInt8),
        r = AV.sl 1 (Seq.map encB (0 : UInt8) x) Tip.none ∧
        H' = [] ∧
        ASpec Try.prog 73 [AV.sl 1 (Seq.map encB (0 : UInt8) b) Tip.none] [] fun (r : AV) (H' : List AObj) =>
        ∃ (x_1 : List T.Ev × Int),
        r = AV.tup [AV.sl 5 (Seq.map T.encE T.noEv (Prod.fst x_1)) Tip.none, AV.int IntKind.i64 (Prod.snd x_1)] ∧
        H' = [] ∧
        needP (allBytes (Seq.map encB (0 : UInt8) b))
        (ASpec Try.prog 74 [AV.str (bytesOf (Seq.map encB (0 : UInt8) b))] [] fun (r : AV) (H' : List AObj) =>
        ∃ (x_2 : List T.Ev × Int),
        r = AV.tup [AV.sl 5 (Seq.map T.encE T.noEv (Prod.fst x_2)) Tip.none, AV.int IntKind.i64 (Prod.snd x_2)] ∧
        H' = [] ∧
        needP (allBytes (Seq.map encB (0 : UInt8) x))
        (ASpec Try.prog 75 [AV.sl 5 (Seq.map T.encE T.noEv l) Tip.none] [] fun (r : AV) (H' : List AObj) =>
        ∃ (x_3 : ByteArray),
        r = AV.str x_3 ∧
        H' = [] ∧
        condP (!ByteArray.toList (bytesOf (Seq.map encB (0 : UInt8) x)) == ByteArray.toList x_3) (Post (AV.bool false) [])
        (ASpec Try.prog 76
        [AV.sl 5 (Seq.map T.encE T.noEv (Prod.fst x_1)) Tip.none, AV.sl 5 (Seq.map T.encE T.noEv (Prod.fst x_2)) Tip.none] []
        fun (r : AV) (H' : List AObj) =>
        ∃ (x_4 : Bool),
        r = AV.bool x_4 ∧
        H' = [] ∧
        condP (!x_4) (Post (AV.bool false) [])
        (condP (Prod.snd x_1 != Prod.snd x_2) (Post (AV.bool false) [])
        (condP (Prod.snd x_1 == (0 : Int))
        (needP (allBytes (Seq.map encB (0 : UInt8) b))
        (ASpec Try.prog 72 [AV.sl 5 (Seq.map T.encE T.noEv (Prod.fst x_1)) Tip.none] [] fun (r : AV) (H' : List AObj) =>
        ∃ (x_5 : List UInt8),
        r = AV.sl 1 (Seq.map encB (0 : UInt8) x_5) Tip.none ∧
        H' = [] ∧
        needP (allBytes (Seq.map encB (0 : UInt8) x_5))
        (condP
        (!ByteArray.toList (bytesOf (Seq.map encB (0 : UInt8) x_5)) ==
        ByteArray.toList (bytesOf (Seq.map encB (0 : UInt8) b)))
        (Post (AV.bool false) [])
        (AWP Try.prog 81 0 c9_8
        [(0, AV.sl 5 (Seq.map T.encE T.noEv l) Tip.none),
        (5, AV.sl 1 (Seq.map encB (0 : UInt8) x) Tip.none)]
        [] (q9_0 0 Post)))))
        (AWP Try.prog 81 0 c9_8
        [(0, AV.sl 5 (Seq.map T.encE T.noEv l) Tip.none),
        (5, AV.sl 1 (Seq.map encB (0 : UInt8) x) Tip.none)]
        [] (q9_0 0 Post)))))))))) →
    ASpec Try.prog 9 [AV.sl 5 (Seq.map T.encE T.noEv l) Tip.none, AV.sl 1 (Seq.map encB (0 : UInt8) b) Tip.none] [] Post := fun l b Post h => Go.Ab.ASpec.of_vc g9 Go.Proofs.Try.func9 (by kernel_rfl) (by kernel_rfl) (by kernel_rfl) (Go.Ab.kc (by kernel_rfl) h)
theorem v9_8 : ∀ (l : List T.Ev) (w : List UInt8) (n : Nat) (Post : AV → List AObj → Prop),
  (ASpec Try.prog 73 [AV.sl 1 (Seq.map encB (0 : UInt8) w) Tip.none] [] fun (r : AV) (H' : List AObj) =>
      ∃ (x : List T.Ev × Int),
        r = AV.tup [AV.sl 5 (Seq.map T.encE T.noEv (Prod.fst x)) Tip.none, AV.int IntKind.i64 (Prod.snd x)] ∧
        H' = [] ∧
        ASpec Try.prog 75 [AV.sl 5 (Seq.map T.encE T.noEv l) Tip.none] [] fun (r : AV) (H' : List AObj) =>
        ∃ (x_1 : ByteArray),
        r = AV.str x_1 ∧
        H' = [] ∧
        condP (ByteArray.toList x_1 == ByteArray.toList { data := #[] })
        (ASpec Try.prog 71 [] [] fun (r : AV) (H' : List AObj) => ∃ (x : Unit), r = AV.bool true ∧ H' = [] ∧ Post (AV.bool true) [])
        (condP (Prod.snd x == (0 : Int))
        (ASpec Try.prog 76 [AV.sl 5 (Seq.map T.encE T.noEv (Prod.fst x)) Tip.none, AV.sl 5 (Seq.map T.encE T.noEv l) Tip.none] []
        fun (r : AV) (H' : List AObj) =>
        ∃ (x : Bool),
        r = AV.bool x ∧
        H' = [] ∧
        condP x (ASpec Try.prog 71 [] [] fun (r : AV) (H' : List AObj) => ∃ (x : Unit), r = AV.bool true ∧ H' = [] ∧ Post (AV.bool true) []) (Post (AV.bool false) []))
        (Post (AV.bool false) []))) →
    AWP Try.prog 81 n c9_8 [(0, AV.sl 5 (Seq.map T.encE T.noEv l) Tip.none), (5, AV.sl 1 (Seq.map encB (0 : UInt8) w) Tip.none)] [] (q9_0 n Post) := fun l w n Post h => Go.Ab.awp_sound g9 n _ _ _ _ (Go.Ab.kc (by kernel_rfl) h)

end
end EB
end

section
/- Printed: what the code of functions 184, 264, 172, 270, 271, 273, 272, 276, 275, 274, 181, 326, 277 asks for, by the framework's own reading of it; each line is checked against the code. -/

set_option linter.unusedVariables false
set_option maxRecDepth 100000
set_option maxHeartbeats 4000000
open Go Go.Ab Go.Proofs
namespace W
noncomputable section

end
end W
end

section
/- Printed: what the code of functions 373, 324, 393, 372, 323, 263, 170, 253, 165, 154, 322, 261, 164, 39, 262, 325, 45 asks for, by the framework's own reading of it; each line is checked against the code. -/

set_option linter.unusedVariables false
set_option maxRecDepth 100000
set_option maxHeartbeats 4000000
open Go Go.Ab Go.Proofs
namespace S
noncomputable section

noncomputable def retS : List (Nat × Ret) := [
  (9032, ⟨Unit, fun _ _ _ => .bool true, fun _ H _ => H⟩),
  (9033, ⟨ByteArray × List UInt8 × Int, fun _ _ x => .tup [.str x.1, .sl 1 (.map encB 0 x.2.1) .none, .int .i64 x.2.2], fun _ H _ => H⟩),
  (45, ⟨ByteArray × ByteArray × Int, fun _ _ x => .tup [.str x.1, .str x.2.1, .int .i64 x.2.2], fun _ H _ => H⟩),
  (262, ⟨List UInt8, fun _ _ x => .sl 1 (.map encB 0 x) .none, fun _ H _ => H⟩),
  (325, ⟨ByteArray, fun _ _ x => .str x, fun _ H _ => H⟩),
  (39, ⟨Bool, fun _ _ x => .bool x, fun _ H _ => H⟩),
  (9090, ⟨List UInt8 × Bool, fun _ _ x => .tup [.sl 1 (.map encB 0 x.1) .none, .bool x.2], fun _ H _ => H⟩),
  (154, ⟨Bool, fun _ _ x => .bool x, fun _ H _ => H⟩),
  (170, ⟨ByteArray × Bool, fun _ _ x => .tup [.str x.1, .bool x.2], fun _ H _ => H⟩),
  (323, ⟨List UInt8, fun _ _ x => .sl 1 (.map encB 0 x) .none, fun _ H _ => H⟩),
  (263, ⟨ByteArray, fun _ _ x => .str x, fun _ H _ => H⟩),
  (164, ⟨List Int, fun _ _ x => .sl 1 (.map encI 0 x) .none, fun _ H _ => H⟩),
  (165, ⟨Int, fun _ _ x => .int .i64 x, fun _ H _ => H⟩),
  (372, ⟨Int, fun _ _ x => .int .u32 x, fun _ H _ => H⟩),
  (253, ⟨Int, fun _ _ x => .int .i64 x, fun _ H _ => H⟩),
  (324, ⟨Int, fun _ _ x => .int .i64 x, fun _ H _ => H⟩),
  (261, ⟨Int × Int, fun _ _ x => .tup [.int .i64 x.1, .int .i64 x.2], fun _ H _ => H⟩),
  (393, ⟨Int, fun _ _ x => .int .u32 x, fun _ H _ => H⟩),
  (373, ⟨Int, fun _ _ x => .int .i64 x, fun _ H _ => H⟩),
  (322, ⟨Int, fun _ _ x => .int .i64 x, fun _ H _ => H⟩)]
noncomputable def rets : FuncId → List Ret := lookupR (retS ++ V.retL)

-- 373
noncomputable def m373 : Nat → Bool
  | _ => false
noncomputable def l324 : Nat → List Nat
  | 3 => [0, 3, 4]
  | _ => []
noncomputable def l253 : Nat → List Nat
  | _ => []
noncomputable def u253 : Nat → Bool
  | _ => false
noncomputable def m253 : Nat → Bool
  | _ => false
noncomputable def g253 : Cfg := { N := 27, live := l253, cut := u253, mu := m253, ret := rets }
theorem s253 : ∀ (c : Int) (Post : AV → List AObj → Prop),
  condP (decide (c ≥ (97 : Int)))
      (condP (decide (c ≤ (122 : Int))) (Post (AV.int IntKind.i64 (0 : Int)) [])
        (condP (decide (c ≥ (945 : Int)))
        (condP (decide (c ≤ (969 : Int))) (Post (AV.int IntKind.i64 (1 : Int)) [])
        (condP (decide (c ≥ (48 : Int)))
        (condP (decide (c ≤ (57 : Int))) (Post (AV.int IntKind.i64 (2 : Int)) []) (condP (c == (45 : Int)) (Post (AV.int IntKind.i64 (3 : Int)) []) (Post (AV.int IntKind.i64 (4 : Int)) [])))
        (condP (c == (45 : Int)) (Post (AV.int IntKind.i64 (3 : Int)) []) (Post (AV.int IntKind.i64 (4 : Int)) []))))
        (condP (decide (c ≥ (48 : Int)))
        (condP (decide (c ≤ (57 : Int))) (Post (AV.int IntKind.i64 (2 : Int)) []) (condP (c == (45 : Int)) (Post (AV.int IntKind.i64 (3 : Int)) []) (Post (AV.int IntKind.i64 (4 : Int)) [])))
        (condP (c == (45 : Int)) (Post (AV.int IntKind.i64 (3 : Int)) []) (Post (AV.int IntKind.i64 (4 : Int)) [])))))
      (condP (decide (c ≥ (945 : Int)))
        (condP (decide (c ≤ (969 : Int))) (Post (AV.int IntKind.i64 (1 : Int)) [])
        (condP (decide (c ≥ (48 : Int)))
        (condP (decide (c ≤ (57 : Int))) (Post (AV.int IntKind.i64 (2 : Int)) []) (condP (c == (45 : Int)) (Post (AV.int IntKind.i64 (3 : Int)) []) (Post (AV.int IntKind.i64 (4 : Int)) [])))
        (condP (c == (45 : Int)) (Post (AV.int IntKind.i64 (3 : Int)) []) (Post (AV.int IntKind.i64 (4 : Int)) []))))
        (condP (decide (c ≥ (48 : Int)))
        (condP (decide (c ≤ (57 : Int))) (Post (AV.int IntKind.i64 (2 : Int)) []) (condP (c == (45 : Int)) (Post (AV.int IntKind.i64 (3 : Int)) []) (Post (AV.int IntKind.i64 (4 : Int)) [])))
        (condP (c == (45 : Int)) (Post (AV.int IntKind.i64 (3 : Int)) []) (Post (AV.int IntKind.i64 (4 : Int)) [])))) →
    ASpec Try.prog 253 [AV.int IntKind.i32 c] [] Post := fun c Post h => Go.Ab.ASpec.of_vc g253 Go.Proofs.Try.func253 (by kernel_rfl) (by kernel_rfl) (by kernel_rfl) (Go.Ab.kc (by kernel_rfl) h)

-- 165
noncomputable def l165 : Nat → List Nat
  | _ => []
noncomputable def u165 : Nat → Bool
  | _ => false
noncomputable def m165 : Nat → Bool
  | _ => false
noncomputable def g165 : Cfg := { N := 23, live := l165, cut := u165, mu := m165, ret := rets }
theorem s165 : ∀ (c : Int) (Post : AV → List AObj → Prop),
  condP (decide (c ≥ (97 : Int)))
      (condP (decide (c ≤ (122 : Int))) (Post (AV.int IntKind.i64 (0 : Int)) [])
        (condP (decide (c ≥ (945 : Int)))
        (condP (decide (c ≤ (969 : Int))) (Post (AV.int IntKind.i64 (1 : Int)) [])
        (condP (decide (c ≥ (48 : Int)))
        (condP (decide (c ≤ (57 : Int))) (Post (AV.int IntKind.i64 (2 : Int)) []) (condP (c == (45 : Int)) (Post (AV.int IntKind.i64 (3 : Int)) []) (Post (AV.int IntKind.i64 (4 : Int)) [])))
        (condP (c == (45 : Int)) (Post (AV.int IntKind.i64 (3 : Int)) []) (Post (AV.int IntKind.i64 (4 : Int)) []))))
        (condP (decide (c ≥ (48 : Int)))
        (condP (decide (c ≤ (57 : Int))) (Post (AV.int IntKind.i64 (2 : Int)) []) (condP (c == (45 : Int)) (Post (AV.int IntKind.i64 (3 : Int)) []) (Post (AV.int IntKind.i64 (4 : Int)) [])))
        (condP (c == (45 : Int)) (Post (AV.int IntKind.i64 (3 : Int)) []) (Post (AV.int IntKind.i64 (4 : Int)) [])))))
      (condP (decide (c ≥ (945 : Int)))
        (condP (decide (c ≤ (969 : Int))) (Post (AV.int IntKind.i64 (1 : Int)) [])
        (condP (decide (c ≥ (48 : Int)))
        (condP (decide (c ≤ (57 : Int))) (Post (AV.int IntKind.i64 (2 : Int)) []) (condP (c == (45 : Int)) (Post (AV.int IntKind.i64 (3 : Int)) []) (Post (AV.int IntKind.i64 (4 : Int)) [])))
        (condP (c == (45 : Int)) (Post (AV.int IntKind.i64 (3 : Int)) []) (Post (AV.int IntKind.i64 (4 : Int)) []))))
        (condP (decide (c ≥ (48 : Int)))
        (condP (decide (c ≤ (57 : Int))) (Post (AV.int IntKind.i64 (2 : Int)) []) (condP (c == (45 : Int)) (Post (AV.int IntKind.i64 (3 : Int)) []) (Post (AV.int IntKind.i64 (4 : Int)) [])))
        (condP (c == (45 : Int)) (Post (AV.int IntKind.i64 (3 : Int)) []) (Post (AV.int IntKind.i64 (4 : Int)) [])))) →
    ASpec Try.prog 165 [AV.int IntKind.i64 c] [] Post := fun c Post h => Go.Ab.ASpec.of_vc g165 Go.Proofs.Try.func165 (by kernel_rfl) (by kernel_rfl) (by kernel_rfl) (Go.Ab.kc (by kernel_rfl) h)

-- 154
noncomputable def l154 : Nat → List Nat
  | 3 => [3, 8]
  | _ => []
noncomputable def u154 : Nat → Bool
  | _ => false
noncomputable def m154 : Nat → Bool
  | _ => false
noncomputable def g154 : Cfg := { N := 32, live := l154, cut := u154, mu := m154, ret := rets }
noncomputable def c154 : Go.Code := Go.Ab.bodyOf Go.Proofs.Try.f154
noncomputable def q154_0 : Nat → (AV → List AObj → Prop) → AQ := fun (n : Nat) (Post : AV → List AObj → Prop) => endQ Try.prog (resultsOf Try.f154) Post
noncomputable def q154_1 : Nat → (AV → List AObj → Prop) → AQ := fun (n : Nat) (Post : AV → List AObj → Prop) => seqQ (fun (s' : Slots) (H' : List AObj) => awp Try.prog g154 n (codeSnd (codeSnd (codeSnd c154))) s' H' (q154_0 n Post)) (q154_0 n Post)
noncomputable def q154_2 : Nat → (AV → List AObj → Prop) → AQ := fun (n : Nat) (Post : AV → List AObj → Prop) => blockQ 0 (q154_1 n Post)
noncomputable def c154_3 : Go.Code := codeFst (codeSnd (codeFst (codeSnd (codeSnd c154))))
theorem s154 : ∀ (s : ByteArray) (Post : AV → List AObj → Prop),
  AWP Try.prog 32 0 c154_3 [(3, AV.int IntKind.i64 (0 : Int)), (8, AV.ptr 0 0)] [AObj.siter s 0] (q154_2 0 Post) →
    ASpec Try.prog 154 [AV.str s] [] Post := fun s Post h => Go.Ab.ASpec.of_vc g154 Go.Proofs.Try.func154 (by kernel_rfl) (by kernel_rfl) (by kernel_rfl) (Go.Ab.kc (by kernel_rfl) h)
theorem v154_3 : ∀ (s : ByteArray) (pos : Nat) (n : Int) (n_1 : Nat) (Post : AV → List AObj → Prop),
  condP (decide (pos < ByteArray.size s))
      (ASpec Try.prog 253 [AV.int IntKind.i32 (↑(Prod.fst (Utf8.decode s pos)) : Int)] [AObj.siter s (pos + Prod.snd (Utf8.decode s pos))] fun (r : AV) (H' : List AObj) =>
        ∃ (x : Int),
        r = AV.int IntKind.i64 x ∧
        H' = [AObj.siter s (pos + Prod.snd (Utf8.decode s pos))] ∧
        condP (decide (x > (3 : Int))) (Post (AV.bool false) [AObj.siter s (pos + Prod.snd (Utf8.decode s pos))])
        (condP (n == (0 : Int))
        (condP (decide (x > (1 : Int))) (Post (AV.bool false) [AObj.siter s (pos + Prod.snd (Utf8.decode s pos))])
        (condP (n == (12 : Int)) (Post (AV.bool false) [AObj.siter s (pos + Prod.snd (Utf8.decode s pos))])
        (AWP Try.prog 32 n_1 c154_3 [(3, AV.int IntKind.i64 (IntKind.wrap IntKind.i64 (n + (1 : Int)))), (8, AV.ptr 0 0)]
        [AObj.siter s (pos + Prod.snd (Utf8.decode s pos))] (q154_2 n_1 Post))))
        (condP (n == (12 : Int)) (Post (AV.bool false) [AObj.siter s (pos + Prod.snd (Utf8.decode s pos))])
        (AWP Try.prog 32 n_1 c154_3 [(3, AV.int IntKind.i64 (IntKind.wrap IntKind.i64 (n + (1 : Int)))), (8, AV.ptr 0 0)]
        [AObj.siter s (pos + Prod.snd (Utf8.decode s pos))] (q154_2 n_1 Post)))))
      (Post (AV.bool (decide (n > (0 : Int)))) [AObj.siter s pos]) →
    AWP Try.prog 32 n_1 c154_3 [(3, AV.int IntKind.i64 n), (8, AV.ptr 0 0)] [AObj.siter s pos] (q154_2 n_1 Post) := fun s pos n n Post h => Go.Ab.AWP.loop' g154 (Cfg.live g154) c154_3 (by kernel_rfl) (by kernel_rfl) (Go.Ab.kc (by kernel_rfl) h)

-- 322
noncomputable def l322 : Nat → List Nat
  | 5 => [0, 1, 5, 6]
  | 7 => [0, 1, 5, 6]
  | 9 => [0, 1, 5, 6]
  | 11 => [0, 1, 5, 6]
  | 12 => [0, 1, 5, 6, 7]
  | 16 => [0, 1, 5, 6]
  | _ => []
noncomputable def u322 : Nat → Bool
  | 5 => true
  | 7 => true
  | 9 => true
  | 11 => true
  | 16 => true
  | _ => false
noncomputable def m322 : Nat → Bool
  | _ => false
noncomputable def g322 : Cfg := { N := 96, live := l322, cut := u322, mu := m322, ret := rets }
noncomputable def c322 : Go.Code := Go.Ab.bodyOf Go.Proofs.Try.f322
noncomputable def q322_0 : Nat → (AV → List AObj → Prop) → AQ := fun (n : Nat) (Post : AV → List AObj → Prop) => endQ Try.prog (resultsOf Try.f322) Post
noncomputable def c322_5 : Go.Code := codeSnd (codeSnd (codeSnd (codeSnd c322)))
theorem s322 : ∀ (s : ByteArray) (p : Int) (Post : AV → List AObj → Prop),
  needP ((0 : Int) ≤ p ∧ p < (↑(ByteArray.size s) : Int))
      (condP (decide (IntKind.wrap IntKind.i64 (↑(UInt8.toNat (List.getD (Array.toList (ByteArray.data s)) (Int.toNat p) (0 : UInt8))) : Int) ≥ (194 : Int)))
        (condP (decide (IntKind.wrap IntKind.i64 (↑(UInt8.toNat (List.getD (Array.toList (ByteArray.data s)) (Int.toNat p) (0 : UInt8))) : Int) ≤ (223 : Int)))
        (AWP Try.prog 96 0 c322_5
        [(0, AV.str s), (1, AV.int IntKind.i64 p), (5, AV.int IntKind.i64 (2 : Int)),
        (6, AV.int IntKind.i64 (IntKind.wrap IntKind.i64 (↑(UInt8.toNat (List.getD (Array.toList (ByteArray.data s)) (Int.toNat p) (0 : UInt8))) : Int)))]
        [] (q322_0 0 Post))
        (AWP Try.prog 96 0 c322_5
        [(0, AV.str s), (1, AV.int IntKind.i64 p), (5, AV.int IntKind.i64 (0 : Int)),
        (6, AV.int IntKind.i64 (IntKind.wrap IntKind.i64 (↑(UInt8.toNat (List.getD (Array.toList (ByteArray.data s)) (Int.toNat p) (0 : UInt8))) : Int)))]
        [] (q322_0 0 Post)))
        (AWP Try.prog 96 0 c322_5
        [(0, AV.str s), (1, AV.int IntKind.i64 p), (5, AV.int IntKind.i64 (0 : Int)),
        (6, AV.int IntKind.i64 (IntKind.wrap IntKind.i64 (↑(UInt8.toNat (List.getD (Array.toList (ByteArray.data s)) (Int.toNat p) (0 : UInt8))) : Int)))]
        [] (q322_0 0 Post))) →
    ASpec Try.prog 322 [AV.str s, AV.int IntKind.i64 p] [] Post := fun s p Post h => Go.Ab.ASpec.of_vc g322 Go.Proofs.Try.func322 (by kernel_rfl) (by kernel_rfl) (by kernel_rfl) (Go.Ab.kc (by kernel_rfl) h)
noncomputable def c322_7 : Go.Code := codeSnd c322_5
theorem v322_5 : ∀ (s : ByteArray) (p n c : Int) (n_1 : Nat) (Post : AV → List AObj → Prop),
  condP (decide (c ≥ (224 : Int)))
      (condP (decide (c ≤ (239 : Int)))
        (AWP Try.prog 96 n_1 c322_7 [(0, AV.str s), (1, AV.int IntKind.i64 p), (5, AV.int IntKind.i64 (3 : Int)), (6, AV.int IntKind.i64 c)] []
        (q322_0 n_1 Post))
        (AWP Try.prog 96 n_1 c322_7 [(0, AV.str s), (1, AV.int IntKind.i64 p), (5, AV.int IntKind.i64 n), (6, AV.int IntKind.i64 c)] [] (q322_0 n_1 Post)))
      (AWP Try.prog 96 n_1 c322_7 [(0, AV.str s), (1, AV.int IntKind.i64 p), (5, AV.int IntKind.i64 n), (6, AV.int IntKind.i64 c)] [] (q322_0 n_1 Post)) →
    AWP Try.prog 96 n_1 c322_5 [(0, AV.str s), (1, AV.int IntKind.i64 p), (5, AV.int IntKind.i64 n), (6, AV.int IntKind.i64 c)] [] (q322_0 n_1 Post) := fun s p n c n Post h => Go.Ab.awp_sound g322 n _ _ _ _ (Go.Ab.kc (by kernel_rfl) h)
noncomputable def c322_9 : Go.Code := codeSnd c322_7
theorem v322_7 : ∀ (s : ByteArray) (p n c : Int) (n_1 : Nat) (Post : AV → List AObj → Prop),
  condP (decide (c ≥ (240 : Int)))
      (condP (decide (c ≤ (244 : Int)))
        (AWP Try.prog 96 n_1 c322_9 [(0, AV.str s), (1, AV.int IntKind.i64 p), (5, AV.int IntKind.i64 (4 : Int)), (6, AV.int IntKind.i64 c)] []
        (q322_0 n_1 Post))
        (AWP Try.prog 96 n_1 c322_9 [(0, AV.str s), (1, AV.int IntKind.i64 p), (5, AV.int IntKind.i64 n), (6, AV.int IntKind.i64 c)] [] (q322_0 n_1 Post)))
      (AWP Try.prog 96 n_1 c322_9 [(0, AV.str s), (1, AV.int IntKind.i64 p), (5, AV.int IntKind.i64 n), (6, AV.int IntKind.i64 c)] [] (q322_0 n_1 Post)) →
    AWP Try.prog 96 n_1 c322_7 [(0, AV.str s), (1, AV.int IntKind.i64 p), (5, AV.int IntKind.i64 n), (6, AV.int IntKind.i64 c)] [] (q322_0 n_1 Post) := fun s p n c n Post h => Go.Ab.awp_sound g322 n _ _ _ _ (Go.Ab.kc (by kernel_rfl) h)
noncomputable def c322_11 : Go.Code := codeSnd c322_9
theorem v322_9 : ∀ (s : ByteArray) (p n c : Int) (n_1 : Nat) (Post : AV → List AObj → Prop),
  condP (n == (0 : Int)) (Post (AV.int IntKind.i64 (0 : Int)) [])
      (condP (decide (IntKind.wrap IntKind.i64 ((↑(ByteArray.size s) : Int) - p) < n)) (Post (AV.int IntKind.i64 (0 : Int)) [])
        (AWP Try.prog 96 n_1 c322_11 [(0, AV.str s), (1, AV.int IntKind.i64 p), (5, AV.int IntKind.i64 n), (6, AV.int IntKind.i64 c)] [] (q322_0 n_1 Post))) →
    AWP Try.prog 96 n_1 c322_9 [(0, AV.str s), (1, AV.int IntKind.i64 p), (5, AV.int IntKind.i64 n), (6, AV.int IntKind.i64 c)] [] (q322_0 n_1 Post) := fun s p n c n Post h => Go.Ab.awp_sound g322 n _ _ _ _ (Go.Ab.kc (by kernel_rfl) h)
noncomputable def c322_16 : Go.Code := codeSnd c322_11
noncomputable def q322_1 : Nat → (AV → List AObj → Prop) → AQ := fun (n : Nat) (Post : AV → List AObj → Prop) => seqQ (fun (s' : Slots) (H' : List AObj) => AWP Try.prog (Cfg.N g322) n c322_16 (restrict s' (Cfg.live g322 16)) H' (q322_0 n Post)) (q322_0 n Post)
noncomputable def q322_2 : Nat → (AV → List AObj → Prop) → AQ := fun (n : Nat) (Post : AV → List AObj → Prop) => blockQ 0 (q322_1 n Post)
noncomputable def c322_12 : Go.Code := codeFst (codeSnd (codeFst c322_11))
theorem v322_11 : ∀ (s : ByteArray) (p n c : Int) (n_1 : Nat) (Post : AV → List AObj → Prop),
  AWP Try.prog 96 n_1 c322_12
      [(0, AV.str s), (1, AV.int IntKind.i64 p), (5, AV.int IntKind.i64 n), (6, AV.int IntKind.i64 c), (7, AV.int IntKind.i64 (1 : Int))] [] (q322_2 n_1 Post) →
    AWP Try.prog 96 n_1 c322_11 [(0, AV.str s), (1, AV.int IntKind.i64 p), (5, AV.int IntKind.i64 n), (6, AV.int IntKind.i64 c)] [] (q322_0 n_1 Post) := fun s p n c n Post h => Go.Ab.awp_sound g322 n _ _ _ _ (Go.Ab.kc (by kernel_rfl) h)
theorem v322_16 : ∀ (s : ByteArray) (p n c : Int) (n_1 : Nat) (Post : AV → List AObj → Prop),
  needP ((0 : Int) ≤ IntKind.wrap IntKind.i64 (p + (1 : Int)) ∧ IntKind.wrap IntKind.i64 (p + (1 : Int)) < (↑(ByteArray.size s) : Int))
      (condP (c == (224 : Int))
        (condP (decide (IntKind.wrap IntKind.i64 (↑(UInt8.toNat (List.getD (Array.toList (ByteArray.data s)) (Int.toNat (IntKind.wrap IntKind.i64 (p + (1 : Int)))) (0 : UInt8))) : Int) < (160 : Int)))
        (Post (AV.int IntKind.i64 (0 : Int)) [])
        (condP (c == (237 : Int))
        (condP
        (decide (IntKind.wrap IntKind.i64 (↑(UInt8.toNat (List.getD (Array.toList (ByteArray.data s)) (Int.toNat (IntKind.wrap IntKind.i64 (p + (1 : Int)))) (0 : UInt8))) : Int) > (159 : Int)))
        (Post (AV.int IntKind.i64 (0 : Int)) [])
        (condP (c == (240 : Int))
        (condP
        (decide
        (IntKind.wrap IntKind.i64 (↑(UInt8.toNat (List.getD (Array.toList (ByteArray.data s)) (Int.toNat (IntKind.wrap IntKind.i64 (p + (1 : Int)))) (0 : UInt8))) : Int) < (144 : Int)))
        (Post (AV.int IntKind.i64 (0 : Int)) [])
        (condP (c == (244 : Int))
        (condP
        (decide
        (IntKind.wrap IntKind.i64 (↑(UInt8.toNat (List.getD (Array.toList (ByteArray.data s)) (Int.toNat (IntKind.wrap IntKind.i64 (p + (1 : Int)))) (0 : UInt8))) : Int) >
        (143 : Int)))
        (Post (AV.int IntKind.i64 (0 : Int)) []) (Post (AV.int IntKind.i64 n) []))
        (Post (AV.int IntKind.i64 n) [])))
        (condP (c == (244 : Int))
        (condP
        (decide
        (IntKind.wrap IntKind.i64 (↑(UInt8.toNat (List.getD (Array.toList (ByteArray.data s)) (Int.toNat (IntKind.wrap IntKind.i64 (p + (1 : Int)))) (0 : UInt8))) : Int) > (143 : Int)))
        (Post (AV.int IntKind.i64 (0 : Int)) []) (Post (AV.int IntKind.i64 n) []))
        (Post (AV.int IntKind.i64 n) []))))
        (condP (c == (240 : Int))
        (condP
        (decide
        (IntKind.wrap IntKind.i64 (↑(UInt8.toNat (List.getD (Array.toList (ByteArray.data s)) (Int.toNat (IntKind.wrap IntKind.i64 (p + (1 : Int)))) (0 : UInt8))) : Int) < (144 : Int)))
        (Post (AV.int IntKind.i64 (0 : Int)) [])
        (condP (c == (244 : Int))
        (condP
        (decide
        (IntKind.wrap IntKind.i64 (↑(UInt8.toNat (List.getD (Array.toList (ByteArray.data s)) (Int.toNat (IntKind.wrap IntKind.i64 (p + (1 : Int)))) (0 : UInt8))) : Int) > (143 : Int)))
        (Post (AV.int IntKind.i64 (0 : Int)) []) (Post (AV.int IntKind.i64 n) []))
        (Post (AV.int IntKind.i64 n) [])))
        (condP (c == (244 : Int))
        (condP
        (decide
        (IntKind.wrap IntKind.i64 (↑(UInt8.toNat (List.getD (Array.toList (ByteArray.data s)) (Int.toNat (IntKind.wrap IntKind.i64 (p + (1 : Int)))) (0 : UInt8))) : Int) > (143 : Int)))
        (Post (AV.int IntKind.i64 (0 : Int)) []) (Post (AV.int IntKind.i64 n) []))
        (Post (AV.int IntKind.i64 n) [])))))
        (condP (c == (237 : Int))
        (condP
        (decide (IntKind.wrap IntKind.i64 (↑(UInt8.toNat (List.getD (Array.toList (ByteArray.data s)) (Int.toNat (IntKind.wrap IntKind.i64 (p + (1 : Int)))) (0 : UInt8))) : Int) > (159 : Int)))
        (Post (AV.int IntKind.i64 (0 : Int)) [])
        (condP (c == (240 : Int))
        (condP
        (decide
        (IntKind.wrap IntKind.i64 (↑(UInt8.toNat (List.getD (Array.toList (ByteArray.data s)) (Int.toNat (IntKind.wrap IntKind.i64 (p + (1 : Int)))) (0 : UInt8))) : Int) < (144 : Int)))
        (Post (AV.int IntKind.i64 (0 : Int)) [])
        (condP (c == (244 : Int))
        (condP
        (decide
        (IntKind.wrap IntKind.i64 (↑(UInt8.toNat (List.getD (Array.toList (ByteArray.data s)) (Int.toNat (IntKind.wrap IntKind.i64 (p + (1 : Int)))) (0 : UInt8))) : Int) > (143 : Int)))
        (Post (AV.int IntKind.i64 (0 : Int)) []) (Post (AV.int IntKind.i64 n) []))
        (Post (AV.int IntKind.i64 n) [])))
        (condP (c == (244 : Int))
        (condP
        (decide
        (IntKind.wrap IntKind.i64 (↑(UInt8.toNat (List.getD (Array.toList (ByteArray.data s)) (Int.toNat (IntKind.wrap IntKind.i64 (p + (1 : Int)))) (0 : UInt8))) : Int) > (143 : Int)))
        (Post (AV.int IntKind.i64 (0 : Int)) []) (Post (AV.int IntKind.i64 n) []))
        (Post (AV.int IntKind.i64 n) []))))
        (condP (c == (240 : Int))
        (condP
        (decide (IntKind.wrap IntKind.i64 (↑(UInt8.toNat (List.getD (Array.toList (ByteArray.data s)) (Int.toNat (IntKind.wrap IntKind.i64 (p + (1 : Int)))) (0 : UInt8))) : Int) < (144 : Int)))
        (Post (AV.int IntKind.i64 (0 : Int)) [])
        (condP (c == (244 : Int))
        (condP
        (decide
        (IntKind.wrap IntKind.i64 (↑(UInt8.toNat (List.getD (Array.toList (ByteArray.data s)) (Int.toNat (IntKind.wrap IntKind.i64 (p + (1 : Int)))) (0 : UInt8))) : Int) > (143 : Int)))
        (Post (AV.int IntKind.i64 (0 : Int)) []) (Post (AV.int IntKind.i64 n) []))
        (Post (AV.int IntKind.i64 n) [])))
        (condP (c == (244 : Int))
        (condP
        (decide
        (IntKind.wrap IntKind.i64 (↑(UInt8.toNat (List.getD (Array.toList (ByteArray.data s)) (Int.toNat (IntKind.wrap IntKind.i64 (p + (1 : Int)))) (0 : UInt8))) : Int) > (143 : Int)))
        (Post (AV.int IntKind.i64 (0 : Int)) []) (Post (AV.int IntKind.i64 n) []))
        (Post (AV.int IntKind.i64 n) []))))) →
    AWP Try.prog 96 n_1 c322_16 [(0, AV.str s), (1, AV.int IntKind.i64 p), (5, AV.int IntKind.i64 n), (6, AV.int IntKind.i64 c)] [] (q322_0 n_1 Post) := fun s p n c n Post h => Go.Ab.awp_sound g322 n _ _ _ _ (Go.Ab.kc (by kernel_rfl) h)
theorem v322_12 : ∀ (s : ByteArray) (p n c i : Int) (n_1 : Nat) (Post : AV → List AObj → Prop),
  condP (decide (i < n))
      (needP ((0 : Int) ≤ IntKind.wrap IntKind.i64 (p + i) ∧ IntKind.wrap IntKind.i64 (p + i) < (↑(ByteArray.size s) : Int))
        (condP (decide ((↑(UInt8.toNat (List.getD (Array.toList (ByteArray.data s)) (Int.toNat (IntKind.wrap IntKind.i64 (p + i))) (0 : UInt8))) : Int) < (128 : Int)))
        (Post (AV.int IntKind.i64 (0 : Int)) [])
        (needP ((0 : Int) ≤ IntKind.wrap IntKind.i64 (p + i) ∧ IntKind.wrap IntKind.i64 (p + i) < (↑(ByteArray.size s) : Int))
        (condP (decide ((↑(UInt8.toNat (List.getD (Array.toList (ByteArray.data s)) (Int.toNat (IntKind.wrap IntKind.i64 (p + i))) (0 : UInt8))) : Int) > (191 : Int)))
        (Post (AV.int IntKind.i64 (0 : Int)) [])
        (AWP Try.prog 96 n_1 c322_12
        [(0, AV.str s), (1, AV.int IntKind.i64 p), (5, AV.int IntKind.i64 n), (6, AV.int IntKind.i64 c),
        (7, AV.int IntKind.i64 (IntKind.wrap IntKind.i64 (i + (1 : Int))))]
        [] (q322_2 n_1 Post))))))
      (AWP Try.prog 96 n_1 c322_16 [(0, AV.str s), (1, AV.int IntKind.i64 p), (5, AV.int IntKind.i64 n), (6, AV.int IntKind.i64 c)] [] (q322_0 n_1 Post)) →
    AWP Try.prog 96 n_1 c322_12
      [(0, AV.str s), (1, AV.int IntKind.i64 p), (5, AV.int IntKind.i64 n), (6, AV.int IntKind.i64 c), (7, AV.int IntKind.i64 i)] [] (q322_2 n_1 Post) := fun s p n c i n Post h => Go.Ab.AWP.loop' g322 (Cfg.live g322) c322_12 (by kernel_rfl) (by kernel_rfl) (Go.Ab.kc (by kernel_rfl) h)

-- 261
noncomputable def l261 : Nat → List Nat
  | 9 => [0, 1, 6, 7]
  | 11 => [0, 1, 6, 7]
  | 12 => [0, 1, 6, 7, 8]
  | _ => []
noncomputable def u261 : Nat → Bool
  | 9 => true
  | 11 => true
  | _ => false
noncomputable def m261 : Nat → Bool
  | _ => false
noncomputable def g261 : Cfg := { N := 58, live := l261, cut := u261, mu := m261, ret := rets }
noncomputable def c261 : Go.Code := Go.Ab.bodyOf Go.Proofs.Try.f261
noncomputable def q261_0 : Nat → (AV → List AObj → Prop) → AQ := fun (n : Nat) (Post : AV → List AObj → Prop) => endQ Try.prog (resultsOf Try.f261) Post
noncomputable def c261_9 : Go.Code := codeSnd (codeSnd (codeSnd (codeSnd (codeSnd (codeSnd c261)))))
theorem s261 : ∀ (s : ByteArray) (p : Int) (Post : AV → List AObj → Prop),
  needP ((0 : Int) ≤ p ∧ p < (↑(ByteArray.size s) : Int))
      (condP (decide ((↑(UInt8.toNat (List.getD (Array.toList (ByteArray.data s)) (Int.toNat p) (0 : UInt8))) : Int) < (128 : Int)))
        (needP ((0 : Int) ≤ p ∧ p < (↑(ByteArray.size s) : Int))
        (Post (AV.tup [AV.int IntKind.i64 (IntKind.wrap IntKind.i64 (↑(UInt8.toNat (List.getD (Array.toList (ByteArray.data s)) (Int.toNat p) (0 : UInt8))) : Int)), AV.int IntKind.i64 (1 : Int)])
        []))
        (ASpec Try.prog 322 [AV.str s, AV.int IntKind.i64 p] [] fun (r : AV) (H' : List AObj) =>
        ∃ (x : Int),
        r = AV.int IntKind.i64 x ∧
        H' = [] ∧
        condP (x == (0 : Int)) (Post (AV.tup [AV.int IntKind.i64 (65533 : Int), AV.int IntKind.i64 (1 : Int)]) [])
        (needP ((0 : Int) ≤ p ∧ p < (↑(ByteArray.size s) : Int))
        (needP ((32 : Int) ≠ (0 : Int))
        (condP (x == (3 : Int))
        (needP ((0 : Int) ≤ p ∧ p < (↑(ByteArray.size s) : Int))
        (needP ((16 : Int) ≠ (0 : Int))
        (AWP Try.prog 58 0 c261_9
        [(0, AV.str s), (1, AV.int IntKind.i64 p), (6, AV.int IntKind.i64 x),
        (7,
        AV.int IntKind.i64 (Int.tmod (IntKind.wrap IntKind.i64 (↑(UInt8.toNat (List.getD (Array.toList (ByteArray.data s)) (Int.toNat p) (0 : UInt8))) : Int)) (16 : Int)))]
        [] (q261_0 0 Post))))
        (AWP Try.prog 58 0 c261_9
        [(0, AV.str s), (1, AV.int IntKind.i64 p), (6, AV.int IntKind.i64 x),
        (7,
        AV.int IntKind.i64 (Int.tmod (IntKind.wrap IntKind.i64 (↑(UInt8.toNat (List.getD (Array.toList (ByteArray.data s)) (Int.toNat p) (0 : UInt8))) : Int)) (32 : Int)))]
        [] (q261_0 0 Post))))))) →
    ASpec Try.prog 261 [AV.str s, AV.int IntKind.i64 p] [] Post := fun s p Post h => Go.Ab.ASpec.of_vc g261 Go.Proofs.Try.func261 (by kernel_rfl) (by kernel_rfl) (by kernel_rfl) (Go.Ab.kc (by kernel_rfl) h)
noncomputable def c261_11 : Go.Code := codeSnd c261_9
theorem v261_9 : ∀ (s : ByteArray) (p n x : Int) (n_1 : Nat) (Post : AV → List AObj → Prop),
  condP (n == (4 : Int))
      (needP ((0 : Int) ≤ p ∧ p < (↑(ByteArray.size s) : Int))
        (needP ((8 : Int) ≠ (0 : Int))
        (AWP Try.prog 58 n_1 c261_11
        [(0, AV.str s), (1, AV.int IntKind.i64 p), (6, AV.int IntKind.i64 n),
        (7, AV.int IntKind.i64 (Int.tmod (IntKind.wrap IntKind.i64 (↑(UInt8.toNat (List.getD (Array.toList (ByteArray.data s)) (Int.toNat p) (0 : UInt8))) : Int)) (8 : Int)))]
        [] (q261_0 n_1 Post))))
      (AWP Try.prog 58 n_1 c261_11 [(0, AV.str s), (1, AV.int IntKind.i64 p), (6, AV.int IntKind.i64 n), (7, AV.int IntKind.i64 x)] [] (q261_0 n_1 Post)) →
    AWP Try.prog 58 n_1 c261_9 [(0, AV.str s), (1, AV.int IntKind.i64 p), (6, AV.int IntKind.i64 n), (7, AV.int IntKind.i64 x)] [] (q261_0 n_1 Post) := fun s p n x n Post h => Go.Ab.awp_sound g261 n _ _ _ _ (Go.Ab.kc (by kernel_rfl) h)
noncomputable def q261_1 : Nat → (AV → List AObj → Prop) → AQ := fun (n : Nat) (Post : AV → List AObj → Prop) => seqQ (fun (s' : Slots) (H' : List AObj) => awp Try.prog g261 n (codeSnd c261_11) s' H' (q261_0 n Post)) (q261_0 n Post)
noncomputable def q261_2 : Nat → (AV → List AObj → Prop) → AQ := fun (n : Nat) (Post : AV → List AObj → Prop) => blockQ 0 (q261_1 n Post)
noncomputable def c261_12 : Go.Code := codeFst (codeSnd (codeFst c261_11))
theorem v261_11 : ∀ (s : ByteArray) (p n x : Int) (n_1 : Nat) (Post : AV → List AObj → Prop),
  AWP Try.prog 58 n_1 c261_12
      [(0, AV.str s), (1, AV.int IntKind.i64 p), (6, AV.int IntKind.i64 n), (7, AV.int IntKind.i64 x), (8, AV.int IntKind.i64 (1 : Int))] [] (q261_2 n_1 Post) →
    AWP Try.prog 58 n_1 c261_11 [(0, AV.str s), (1, AV.int IntKind.i64 p), (6, AV.int IntKind.i64 n), (7, AV.int IntKind.i64 x)] [] (q261_0 n_1 Post) := fun s p n x n Post h => Go.Ab.awp_sound g261 n _ _ _ _ (Go.Ab.kc (by kernel_rfl) h)
theorem v261_12 : ∀ (s : ByteArray) (p n x i : Int) (n_1 : Nat) (Post : AV → List AObj → Prop),
  condP (decide (i < n))
      (needP ((0 : Int) ≤ IntKind.wrap IntKind.i64 (p + i) ∧ IntKind.wrap IntKind.i64 (p + i) < (↑(ByteArray.size s) : Int))
        (needP ((64 : Int) ≠ (0 : Int))
        (AWP Try.prog 58 n_1 c261_12
        [(0, AV.str s), (1, AV.int IntKind.i64 p), (6, AV.int IntKind.i64 n),
        (7,
        AV.int IntKind.i64
        (IntKind.wrap IntKind.i64
        (IntKind.wrap IntKind.i64 (x * (64 : Int)) +
        Int.tmod (IntKind.wrap IntKind.i64 (↑(UInt8.toNat (List.getD (Array.toList (ByteArray.data s)) (Int.toNat (IntKind.wrap IntKind.i64 (p + i))) (0 : UInt8))) : Int)) (64 : Int)))),
        (8, AV.int IntKind.i64 (IntKind.wrap IntKind.i64 (i + (1 : Int))))]
        [] (q261_2 n_1 Post))))
      (Post (AV.tup [AV.int IntKind.i64 x, AV.int IntKind.i64 n]) []) →
    AWP Try.prog 58 n_1 c261_12
      [(0, AV.str s), (1, AV.int IntKind.i64 p), (6, AV.int IntKind.i64 n), (7, AV.int IntKind.i64 x), (8, AV.int IntKind.i64 i)] [] (q261_2 n_1 Post) := fun s p n x i n Post h => Go.Ab.AWP.loop' g261 (Cfg.live g261) c261_12 (by kernel_rfl) (by kernel_rfl) (Go.Ab.kc (by kernel_rfl) h)

-- 164
noncomputable def l164 : Nat → List Nat
  | 3 => [0, 3, 4]
  | _ => []
noncomputable def u164 : Nat → Bool
  | _ => false
noncomputable def m164 : Nat → Bool
  | _ => false
noncomputable def g164 : Cfg := { N := 25, live := l164, cut := u164, mu := m164, ret := rets }
noncomputable def c164 : Go.Code := Go.Ab.bodyOf Go.Proofs.Try.f164
noncomputable def q164_0 : Nat → (AV → List AObj → Prop) → AQ := fun (n : Nat) (Post : AV → List AObj → Prop) => endQ Try.prog (resultsOf Try.f164) Post
noncomputable def q164_1 : Nat → (AV → List AObj → Prop) → AQ := fun (n : Nat) (Post : AV → List AObj → Prop) => seqQ (fun (s' : Slots) (H' : List AObj) => awp Try.prog g164 n (codeSnd (codeSnd (codeSnd (codeSnd c164)))) s' H' (q164_0 n Post)) (q164_0 n Post)
noncomputable def q164_2 : Nat → (AV → List AObj → Prop) → AQ := fun (n : Nat) (Post : AV → List AObj → Prop) => blockQ 0 (q164_1 n Post)
noncomputable def c164_3 : Go.Code := codeFst (codeFst (codeSnd (codeSnd (codeSnd c164))))
theorem s164 : ∀ (s : ByteArray) (Post : AV → List AObj → Prop),
  AWP Try.prog 25 0 c164_3 [(0, AV.str s), (3, AV.sl 0 (Seq.raw []) Tip.nil), (4, AV.int IntKind.i64 (0 : Int))] [] (q164_2 0 Post) →
    ASpec Try.prog 164 [AV.str s] [] Post := fun s Post h => Go.Ab.ASpec.of_vc g164 Go.Proofs.Try.func164 (by kernel_rfl) (by kernel_rfl) (by kernel_rfl) (Go.Ab.kc (by kernel_rfl) h)
theorem v164_3 : ∀ (s : ByteArray) (l : List Int) (p : Int) (n : Nat) (Post : AV → List AObj → Prop),
  condP (decide (p < (↑(ByteArray.size s) : Int)))
      (ASpec Try.prog 261 [AV.str s, AV.int IntKind.i64 p] [AObj.tok] fun (r : AV) (H' : List AObj) =>
        ∃ (x : Int × Int),
        r = AV.tup [AV.int IntKind.i64 (Prod.fst x), AV.int IntKind.i64 (Prod.snd x)] ∧
        H' = [AObj.tok] ∧
        needP ((List.length l + 1) * 8 ≤ 140737488351232)
        (AWP Try.prog 25 n c164_3
        [(0, AV.str s), (3, AV.sl 1 (Seq.app (Seq.map encI (0 : Int) l) (Seq.raw [[AV.int IntKind.i64 (Prod.fst x)]])) (Tip.tok 1)),
        (4, AV.int IntKind.i64 (IntKind.wrap IntKind.i64 (p + Prod.snd x)))]
        [AObj.gone, AObj.tok] (q164_2 n Post)))
      (Post (AV.sl 1 (Seq.map encI (0 : Int) l) (Tip.tok 0)) [AObj.tok]) →
    AWP Try.prog 25 n c164_3 [(0, AV.str s), (3, AV.sl 1 (Seq.map encI (0 : Int) l) (Tip.tok 0)), (4, AV.int IntKind.i64 p)] [AObj.tok] (q164_2 n Post) := fun s l p n Post h => Go.Ab.AWP.loop' g164 (Cfg.live g164) c164_3 (by kernel_rfl) (by kernel_rfl) (Go.Ab.kc (by kernel_rfl) h)

-- 39
noncomputable def l39 : Nat → List Nat
  | 5 => [3, 4]
  | _ => []
noncomputable def u39 : Nat → Bool
  | _ => false
noncomputable def m39 : Nat → Bool
  | _ => false
noncomputable def g39 : Cfg := { N := 42, live := l39, cut := u39, mu := m39, ret := rets }
noncomputable def c39 : Go.Code := Go.Ab.bodyOf Go.Proofs.Try.f39
noncomputable def q39_0 : Nat → (AV → List AObj → Prop) → AQ := fun (n : Nat) (Post : AV → List AObj → Prop) => endQ Try.prog (resultsOf Try.f39) Post
noncomputable def q39_1 : Nat → (AV → List AObj → Prop) → AQ := fun (n : Nat) (Post : AV → List AObj → Prop) => seqQ (fun (s' : Slots) (H' : List AObj) => awp Try.prog g39 n (codeSnd (codeSnd (codeSnd (codeSnd c39)))) s' H' (q39_0 n Post)) (q39_0 n Post)
noncomputable def q39_2 : Nat → (AV → List AObj → Prop) → AQ := fun (n : Nat) (Post : AV → List AObj → Prop) => blockQ 0 (q39_1 n Post)
noncomputable def c39_5 : Go.Code := codeFst (codeSnd (codeFst (codeSnd (codeSnd (codeSnd c39)))))
theorem s39 : ∀ (s : ByteArray) (Post : AV → List AObj → Prop),
  condP (decide ((↑(ByteArray.size s) : Int) > (100 : Int))) (Post (AV.bool false) [])
      (ASpec Try.prog 164 [AV.str s] [] fun (r : AV) (H' : List AObj) =>
        ∃ (x : List Int),
        r = AV.sl 1 (Seq.map encI (0 : Int) x) Tip.none ∧
        H' = [] ∧ AWP Try.prog 42 0 c39_5 [(3, AV.sl 1 (Seq.map encI (0 : Int) x) Tip.none), (4, AV.int IntKind.i64 (0 : Int))] [] (q39_2 0 Post)) →
    ASpec Try.prog 39 [AV.str s] [] Post := fun s Post h => Go.Ab.ASpec.of_vc g39 Go.Proofs.Try.func39 (by kernel_rfl) (by kernel_rfl) (by kernel_rfl) (Go.Ab.kc (by kernel_rfl) h)
theorem v39_5 : ∀ (l : List Int) (i : Int) (n : Nat) (Post : AV → List AObj → Prop),
  condP (decide (i < (↑(List.length l) : Int)))
      (needP ((0 : Int) ≤ i ∧ i < (↑(List.length l) : Int))
        (ASpec Try.prog 165 [AV.int IntKind.i64 (List.getD l (Int.toNat i) (0 : Int))] [] fun (r : AV) (H' : List AObj) =>
        ∃ (x : Int),
        r = AV.int IntKind.i64 x ∧
        H' = [] ∧
        condP (x == (4 : Int)) (Post (AV.bool false) [])
        (condP (i == (0 : Int))
        (needP ((0 : Int) ≤ i ∧ i < (↑(List.length l) : Int))
        (ASpec Try.prog 165 [AV.int IntKind.i64 (List.getD l (Int.toNat i) (0 : Int))] [] fun (r : AV) (H' : List AObj) =>
        ∃ (x : Int),
        r = AV.int IntKind.i64 x ∧
        H' = [] ∧
        condP (decide (x > (1 : Int))) (Post (AV.bool false) [])
        (AWP Try.prog 42 n c39_5
        [(3, AV.sl 1 (Seq.map encI (0 : Int) l) Tip.none), (4, AV.int IntKind.i64 (IntKind.wrap IntKind.i64 (i + (1 : Int))))] [] (q39_2 n Post))))
        (AWP Try.prog 42 n c39_5 [(3, AV.sl 1 (Seq.map encI (0 : Int) l) Tip.none), (4, AV.int IntKind.i64 (IntKind.wrap IntKind.i64 (i + (1 : Int))))] []
        (q39_2 n Post)))))
      (condP (decide ((↑(List.length l) : Int) ≥ (1 : Int))) (Post (AV.bool (decide ((↑(List.length l) : Int) ≤ (12 : Int)))) []) (Post (AV.bool false) [])) →
    AWP Try.prog 42 n c39_5 [(3, AV.sl 1 (Seq.map encI (0 : Int) l) Tip.none), (4, AV.int IntKind.i64 i)] [] (q39_2 n Post) := fun l i n Post h => Go.Ab.AWP.loop' g39 (Cfg.live g39) c39_5 (by kernel_rfl) (by kernel_rfl) (Go.Ab.kc (by kernel_rfl) h)

-- 262
end
end S
end

section
/- The plain law of numbers as bytes. -/

namespace V

/-- the digits that go on -/
def lead (v : Nat) : List UInt8 := if _h : v = 0 then [] else lead (v / 128) ++ [UInt8.ofNat (128 + v % 128)]
  termination_by v
  decreasing_by omega

def enc (v : Nat) : List UInt8 := lead (v / 128) ++ [UInt8.ofNat (v % 128)]

theorem lead_zero : lead 0 = [] := by rw [lead]; simp
theorem lead_pos {v : Nat} (h : 0 < v) : lead v = lead (v / 128) ++ [UInt8.ofNat (128 + v % 128)] := by rw [lead, dif_neg (by omega)]

/-- a number that is held -/
def held (x : Int) : Nat := (min (max x 0) 1099511627776).toNat

theorem held_le (x : Int) : held x ≤ 1099511627776 := by unfold held; omega
theorem held_of {x : Int} (h0 : 0 ≤ x) (h1 : x ≤ 1099511627776) : (held x : Int) = x := by unfold held; omega

/-- digits from the j-th down to the first -/
def down (v : Nat) : Nat → List UInt8
  | 0 => []
  | j + 1 => UInt8.ofNat (128 + v / 128 ^ (j + 1) % 128) :: down v j

theorem down_succ (v : Nat) : ∀ j, down v (j + 1) = down (v / 128) j ++ [UInt8.ofNat (128 + v / 128 % 128)]
  | 0 => by simp [down]
  | j + 1 => by
    rw [down, down_succ v j, down]
    have : v / 128 ^ (j + 1 + 1) = v / 128 / 128 ^ (j + 1) := by rw [Nat.div_div_eq_div_mul, Nat.pow_succ 128 (j + 1), Nat.mul_comm]
    rw [this]; rfl

theorem down_lead : ∀ (j v : Nat), v / 128 ^ j < 128 → (j = 0 ∨ 128 ^ j ≤ v) → down v j = lead (v / 128)
  | 0, v, h, _ => by
    have : v / 128 = 0 := by simp at h; omega
    rw [this, lead_zero]; rfl
  | j + 1, v, h, hj => by
    have hv : 128 ^ (j + 1) ≤ v := by rcases hj with e | e; · cases e
                                      · exact e
    have hp : 0 < 128 ^ j := Nat.pos_of_ne_zero (by simp)
    have h128 : 128 ≤ v := Nat.le_trans (by rw [Nat.pow_succ]; omega) hv
    rw [down_succ, lead_pos (by omega : 0 < v / 128)]
    congr 1
    refine down_lead j (v / 128) ?_ (.inr ?_)
    · rw [Nat.div_div_eq_div_mul, Nat.mul_comm, ← Nat.pow_succ]; exact h
    · rw [Nat.le_div_iff_mul_le (by omega), ← Nat.pow_succ]; exact hv

theorem lead_length : ∀ (k v : Nat), v < 128 ^ k → (lead v).length ≤ k
  | 0, v, h => by
    have : v = 0 := by simp at h; omega
    subst this; simp [lead_zero]
  | k + 1, v, h => by
    rcases Nat.eq_zero_or_pos v with e | e
    · subst e; simp [lead_zero]
    · rw [lead_pos e]
      have := lead_length k (v / 128) (by rw [Nat.div_lt_iff_lt_mul (by omega), ← Nat.pow_succ]; exact h)
      simp; omega

theorem enc_length (v : Nat) (h : v ≤ 1099511627776) : (enc v).length ≤ 6 := by
  have := lead_length 5 (v / 128) (by omega)
  simp [enc]; omega

end V
end

section
/- vlq.Put: what it computes. -/

set_option linter.unusedVariables false
set_option linter.unusedSimpArgs false
open Go Go.Ab Go.Proofs
namespace V

def big : Nat := 140737488351232

theorem tdivN (a b : Nat) : Int.tdiv (a : Int) (b : Int) = ((a / b : Nat) : Int) := by rfl
theorem tmodN (a b : Nat) : Int.tmod (a : Int) (b : Int) = ((a % b : Nat) : Int) := by rfl

theorem selTok : Sel 0 [1] [AObj.gone, AObj.tok] [AObj.tok] := Sel.one 1 rfl rfl

theorem leApp {l : List UInt8} {x : List AV} {b : UInt8} {H : List AObj} (hx : x = encB b) : Le (.sl 1 (.app (.map encB 0 l) (.raw [x])) (.tok 1)) (AV.ren (selR [1] H.length) (.sl 1 (.map encB 0 (l ++ [b])) (.tok 0))) := by
  refine Le.sl ?_ (.inl rfl) (.inl rfl)
  subst hx
  simp [Seq.toList, Seq.ren, encB, renL, AV.ren]

theorem put9 {ns : List Int} {k : Nat} {i : Int} {Post : AV → List AObj → Prop} {v : Nat} (hv : v ≤ 1099511627776) (hi : 0 ≤ i) (hi2 : i < 9223372036854775807) : ∀ (j : Nat) (l : List UInt8), j ≤ 6 → l.length + j + 1 ≤ big →
    AWP Try.prog 48 0 c140_3 [(5, .sl 1 (.map encB 0 (l ++ down v j ++ [UInt8.ofNat (v % 128)])) (.tok 0)), (12, .sl 1 (.map encI 0 ns) .none), (13, .int .i64 k), (14, .int .i64 (i + 1))] [.tok] (q140_2 0 Post) →
    AWP Try.prog 48 0 c140_9 [(5, .sl 1 (.map encB 0 l) (.tok 0)), (7, .int .i64 v), (8, .int .i64 ((128 ^ j : Nat) : Int)), (12, .sl 1 (.map encI 0 ns) .none), (13, .int .i64 k), (14, .int .i64 i)] [.tok] (q140_9 0 Post)
  | 0, l, _, hl, h => by
    refine v140_9 _ _ _ _ _ _ _ _ _ (condD (fun h => by simp at h) fun _ => needJ (by decide) (needJ (by unfold big at hl; omega) ?_))
    refine AWP.shape [1] _ _ selTok ?_ h
    rw [wrap64 (x := i + 1) (by omega) (by omega)]
    refine ⟨rfl, ?_, rfl, ?_, rfl, Le.refl _, rfl, Le.refl _, trivial⟩
    · have : l ++ down v 0 ++ [UInt8.ofNat (v % 128)] = l ++ [UInt8.ofNat (v % 128)] := by simp [down]
      rw [this]
      refine leApp ?_
      rw [show (128 : Int) = ((128 : Nat) : Int) from rfl, tmodN, wrapU8, Int.emod_eq_of_lt (by omega) (by omega)]
      rw [encB_ofNat (by omega) (by omega)]
      rfl
    · exact Le.refl _
  | j + 1, l, hj, hl, h => by
    have hw : (128 : Nat) ^ (j + 1) ≤ 128 ^ 6 := Nat.pow_le_pow_right (by omega) hj
    have hw6 : (128 : Nat) ^ 6 = 4398046511104 := by decide
    have hw1 : 0 < (128 : Nat) ^ j := Nat.pos_of_ne_zero (by simp)
    refine v140_9 _ _ _ _ _ _ _ _ _ (condD (fun _ => needJ ?_ (needJ (by decide) (needJ (by unfold big at hl; omega) (needJ (by decide) ?_)))) (fun hn => ?_))
    · rw [Nat.pow_succ]; omega
    · have hd : v / 128 ^ (j + 1) ≤ v := Nat.div_le_self _ _
      have hq : ((128 ^ (j + 1) : Nat) : Int).tdiv 128 = ((128 ^ j : Nat) : Int) := by
        rw [show (128 : Int) = ((128 : Nat) : Int) from rfl, tdivN, Nat.pow_succ, Nat.mul_div_cancel _ (by omega)]
      rw [hq, wrap64 (x := ((128 ^ j : Nat) : Int)) (by omega) (by rw [Nat.pow_succ] at hw; omega)]
      refine AWP.shape [1] _ _ selTok ?_ (put9 (ns := ns) (k := k) hv hi hi2 j (l ++ [UInt8.ofNat (128 + v / 128 ^ (j + 1) % 128)]) (by omega) (by simp; omega) ?_)
      · refine ⟨rfl, leApp ?_, rfl, Le.refl _, rfl, Le.refl _, rfl, ?_, rfl, Le.refl _, rfl, Le.refl _, trivial⟩
        · rw [tdivN, wrapN (Nat.le_trans hd (by omega)), show (128 : Int) = ((128 : Nat) : Int) from rfl, tmodN, wrap64 (by omega) (by omega), wrapU8,
            Int.emod_eq_of_lt (by omega) (by omega), encB_ofNat (by omega) (by omega)]
          congr 2
        · exact Le.refl _
      · simpa [down] using h
    · rw [Nat.pow_succ] at hn; omega

theorem put7 {ns : List Int} {k : Nat} {i : Int} {Post : AV → List AObj → Prop} {v : Nat} (hv : v ≤ 1099511627776) (hi : 0 ≤ i) (hi2 : i < 9223372036854775807) (l : List UInt8) (hl : l.length + 7 ≤ big)
    (h : AWP Try.prog 48 0 c140_3 [(5, .sl 1 (.map encB 0 (l ++ enc v)) (.tok 0)), (12, .sl 1 (.map encI 0 ns) .none), (13, .int .i64 k), (14, .int .i64 (i + 1))] [.tok] (q140_2 0 Post)) : ∀ (m j : Nat), m + j = 6 → (j = 0 ∨ 128 ^ j ≤ v) →
    AWP Try.prog 48 0 c140_7 [(5, .sl 1 (.map encB 0 l) (.tok 0)), (7, .int .i64 v), (8, .int .i64 ((128 ^ j : Nat) : Int)), (12, .sl 1 (.map encI 0 ns) .none), (13, .int .i64 k), (14, .int .i64 i)] [.tok] (q140_7 0 Post) := by
  intro m
  induction m with
  | zero =>
    intro j hm hj
    have : j = 6 := by omega
    subst this
    rcases hj with e | e
    · cases e
    · have : (128 : Nat) ^ 6 = 4398046511104 := by decide
      omega
  | succ m ih =>
    intro j hm hj
    have hw : (128 : Nat) ^ j ≤ 128 ^ 5 := Nat.pow_le_pow_right (by omega) (by omega)
    have hw5 : (128 : Nat) ^ 5 = 34359738368 := by decide
    have hw1 : 0 < (128 : Nat) ^ j := Nat.pos_of_ne_zero (by simp)
    have hd : v / 128 ^ j ≤ v := Nat.div_le_self _ _
    refine v140_7 _ _ _ _ _ _ _ _ _ (needJ (by omega) (condD (fun hc => ?_) (fun hc => ?_)))
    · rw [tdivN, wrapN (Nat.le_trans hd (by omega))] at hc
      have e : ((128 ^ j : Nat) : Int) * 128 = ((128 ^ (j + 1) : Nat) : Int) := by rw [Nat.pow_succ]; simp
      rw [e, wrap64 (by omega) (by rw [Nat.pow_succ]; omega)]
      refine ih (j + 1) (by omega) (.inr ?_)
      have : 128 ≤ v / 128 ^ j := by omega
      rw [Nat.le_div_iff_mul_le hw1] at this
      rw [Nat.pow_succ, Nat.mul_comm]; exact this
    · rw [tdivN, wrapN (Nat.le_trans hd (by omega))] at hc
      refine put9 hv hi hi2 j l (by omega) (by omega) ?_
      rw [down_lead j v (by omega) hj, List.append_assoc]
      exact h

def putM (bs : List UInt8) (ns : List Int) : List UInt8 := bs ++ ns.flatMap fun x => enc (held x)

theorem clamp_held (x : Int) : (if 1099511627776 < if 0 > x then 0 else x then 1099511627776 else if 0 > x then 0 else x) = ((held x : Nat) : Int) := by
  unfold held
  by_cases h : 0 > x
  · simp only [if_pos h]; omega
  · simp only [if_neg h]
    split <;> omega

theorem put3 {ns : List Int} {Post : AV → List AObj → Prop} (hns : ns.length ≤ big) : ∀ (m i : Nat) (l : List UInt8), m + i = ns.length → l.length + 7 * m ≤ big →
    Post (.sl 1 (.map encB 0 (l ++ (ns.drop i).flatMap fun x => enc (held x))) (.tok 0)) [.tok] →
    AWP Try.prog 48 0 c140_3 [(5, .sl 1 (.map encB 0 l) (.tok 0)), (12, .sl 1 (.map encI 0 ns) .none), (13, .int .i64 ns.length), (14, .int .i64 i)] [.tok] (q140_2 0 Post) := by
  intro m
  unfold big at hns
  induction m with
  | zero =>
    intro i l hm hl h
    refine v140_3 _ _ _ _ _ _ _ (condD (fun hc => by omega) fun hc => ?_)
    rw [List.drop_eq_nil_of_le (by omega)] at h
    simpa using h
  | succ m ih =>
    intro i l hm hl h
    refine v140_3 _ _ _ _ _ _ _ (condD (fun hc => needJ (by omega) ?_) fun hc => by omega)
    rw [Int.toNat_natCast, clamp_held]
    have hh := held_le (ns.getD i 0)
    refine put7 hh (by omega) (by omega) l (by omega) ?_ 6 0 rfl (.inl rfl)
    have hel := enc_length (held (ns.getD i 0)) hh
    refine ih (i + 1) _ (by omega) (by rw [List.length_append]; omega) ?_
    have hg : ns.drop i = ns.getD i 0 :: ns.drop (i + 1) := by
      rw [List.drop_eq_getElem_cons (by omega)]
      simp [List.getD, List.getElem?_eq_getElem (show i < ns.length by omega)]
    rw [hg] at h
    simpa using h

theorem put_spec (bs : List UInt8) (ns : List Int) (hb : bs.length + 7 * ns.length ≤ big) (H : List AObj) :
    ASpec Try.prog 140 [.sl 1 (.map encB 0 bs) .none, .sl 1 (.map encI 0 ns) .none] H (fun r H' => r = .sl 1 (.map encB 0 (putM bs ns)) (.tok H.length) ∧ H' = H ++ [.tok]) := by
  refine ASpec.anyH (args := [.sl 1 (.map encB 0 bs) .none, .sl 1 (.map encI 0 ns) .none]) (r0 := .sl 1 (.map encB 0 (putM bs ns)) (.tok 0)) (Hl := [.tok]) H ?_ _ _ _ rfl rfl rfl
  refine s140 _ _ _ _ _ (needJ oneB (needJ (by unfold big at hb; omega) ?_))
  refine AWP.spell _ ?_ (put3 (ns := ns) (by omega) ns.length 0 bs (by omega) (by omega) ⟨rfl, rfl⟩)
  exact ⟨rfl, Le.sl (by simp [Seq.toList]) (.inl rfl) (.inl rfl), rfl, Le.refl _, rfl, Le.refl _, rfl, Le.refl _, trivial⟩

end V
end

section
/- The reader of bytes: what its methods compute. -/

set_option linter.unusedVariables false
set_option linter.unusedSimpArgs false
open Go Go.Ab Go.Proofs
namespace V

def scan : Nat → List UInt8 → Nat → Nat → Int ⊕ (Nat × Nat)
  | 0, _, _, _ => .inl 4
  | _ + 1, [], _, _ => .inl 2
  | f + 1, c :: s, x, i => if 128 ≤ c.toNat then scan f s (x * 128 + c.toNat % 128) (i + 1) else .inr (x * 128 + c.toNat % 128, i + 1)

/-- the number ahead, how many bytes it has, and what is wrong -/
def lookM (s : List UInt8) (most : Int) : Int × Nat × Int :=
  match s with
  | [] => (0, 0, 2)
  | c :: _ => if c = 128 then (0, 0, 3) else match scan 6 s 0 0 with
    | .inl e => (0, 0, e)
    | .inr (n, k) => if (n : Int) > min most 1099511627776 then (0, 0, 4) else (n, k, 0)

theorem getD_drop (bs : List UInt8) (q : Nat) (h : q < bs.length) : bs.drop q = bs.getD q 0 :: bs.drop (q + 1) := by
  rw [List.drop_eq_getElem_cons h]
  simp [List.getD, List.getElem?_eq_getElem h]

def peekP (bs : List UInt8) (p : Nat) (most : Int) (Post : AV → List AObj → Prop) : Int ⊕ (Nat × Nat) → Prop
  | .inl e => Post (.tup [.int .i64 0, .int .i64 p]) [rd bs p e]
  | .inr (n, k) => if (n : Int) > min most 1099511627776 then Post (.tup [.int .i64 0, .int .i64 p]) [rd bs p 4] else Post (.tup [.int .i64 n, .int .i64 (p + k : Nat)]) [rd bs p 0]

theorem min_if (most : Int) : (if 1099511627776 < most then 1099511627776 else most) = min most 1099511627776 := by
  split <;> omega

theorem peek9 {bs : List UInt8} {p : Nat} {most : Int} {Post : AV → List AObj → Prop} (hb : bs.length ≤ big) (hp : p ≤ bs.length) : ∀ (f i x : Nat), f + i = 6 → p + i ≤ bs.length → x < 128 ^ i →
    peekP bs p most Post (scan f (bs.drop (p + i)) x i) →
    AWP Try.prog 113 1 c250_9 [(0, .ptr 0 0), (1, .int .i64 most), (6, .int .i64 x), (44, .int .i64 i)] [rd bs p 0] (q250_2 1 Post) := by
  intro f
  unfold big at hb
  induction f with
  | zero =>
    intro i x hf hpi hx h
    refine v250_9 _ _ _ _ _ _ _ _ (condD (fun hc => by omega) fun hc => ⟨⟨rfl, rfl⟩, h⟩)
  | succ f ih =>
    intro i x hf hpi hx h
    have hi6 : (128 : Nat) ^ i ≤ 128 ^ 5 := Nat.pow_le_pow_right (by omega) (by omega)
    have h5 : (128 : Nat) ^ 5 = 34359738368 := by decide
    have hwp : IntKind.wrap .i64 ((p : Int) + i) = ((p + i : Nat) : Int) := by rw [wrap64 (by omega) (by omega)]; simp
    refine v250_9 _ _ _ _ _ _ _ _ (condD (fun hc => ?_) fun hc => by omega)
    rw [hwp]
    refine condE (fun he => ?_) fun he => ?_
    · have he : p + i = bs.length := by omega
      refine ⟨⟨rfl, rfl⟩, ?_⟩
      rw [List.drop_eq_nil_of_le (by omega)] at h
      exact h
    · have he : p + i ≠ bs.length := by omega
      refine needJ (by omega) (needJ (by decide) ?_)
      rw [Int.toNat_natCast]
      rw [getD_drop bs (p + i) (by omega)] at h
      generalize bs.getD (p + i) 0 = c at h ⊢
      have hc8 : c.toNat < 256 := c.toNat_lt
      have hwc : IntKind.wrap .i64 (c.toNat : Int) = (c.toNat : Int) := wrapN (by omega)
      have hx1 : IntKind.wrap .i64 (IntKind.wrap .i64 ((x : Int) * 128) + (c.toNat : Int).tmod 128) = ((x * 128 + c.toNat % 128 : Nat) : Int) := by
        rw [show (128 : Int) = ((128 : Nat) : Int) from rfl, tmodN, wrap64 (x := (x : Int) * ((128 : Nat) : Int)) (by omega) (by omega), wrap64 (by omega) (by omega)]
        simp
      rw [hwc, hx1]
      simp only [scan] at h
      refine condD (fun hg => ?_) fun hg => ?_
      · rw [if_pos (by omega)] at h
        rw [show IntKind.wrap .i64 ((i : Int) + 1) = ((i + 1 : Nat) : Int) by rw [wrap64 (by omega) (by omega)]; simp]
        refine ih (i + 1) _ (by omega) (by omega) ?_ ?_
        · rw [Nat.pow_succ]; omega
        · exact h
      · rw [if_neg (by omega)] at h
        simp only [peekP] at h
        rw [min_if]
        refine condD (fun hm => ?_) fun hm => ?_
        · rw [if_pos hm] at h
          exact ⟨⟨rfl, rfl⟩, h⟩
        · rw [if_neg hm] at h
          rw [show IntKind.wrap .i64 (((p + i : Nat) : Int) + 1) = ((p + (i + 1) : Nat) : Int) by rw [wrap64 (by omega) (by omega)]; omega]
          exact ⟨⟨rfl, rfl⟩, h⟩

theorem peek_spec {bs : List UInt8} {p : Nat} (most : Int) (hb : bs.length ≤ big) (hp : p ≤ bs.length) :
    ASpec Try.prog 250 [.ptr 0 0, .int .i64 most] [rd bs p 0] (fun r H' => r = .tup [.int .i64 (lookM (bs.drop p) most).1, .int .i64 (p + (lookM (bs.drop p) most).2.1 : Nat)] ∧ H' = [rd bs p (lookM (bs.drop p) most).2.2]) := by
  refine s250 _ _ _ _ _ (condE (fun he => ?_) fun he => ?_)
  · have he : p = bs.length := by omega
    rw [List.drop_eq_nil_of_le (by omega)]
    exact ⟨⟨rfl, rfl⟩, rfl, rfl⟩
  · have he : p ≠ bs.length := by omega
    refine needJ (by omega) ?_
    rw [Int.toNat_natCast]
    have hd := getD_drop bs p (by omega)
    refine condE (fun h1 => ?_) fun h1 => ?_
    · have h1 : (bs.getD p 0) = 128 := by
        have : (bs.getD p 0).toNat = 128 := by omega
        exact UInt8.toNat_inj.1 this
      have e : lookM (bs.drop p) most = (0, 0, 3) := by rw [hd]; simp only [lookM, if_pos h1]
      rw [e]
      exact ⟨⟨rfl, rfl⟩, rfl, rfl⟩
    · have h1 : (bs.getD p 0) ≠ 128 := by
        intro e
        rw [e] at h1
        exact h1 rfl
      refine peek9 hb hp 6 0 0 rfl (by omega) (by simp) ?_
      rw [Nat.add_zero]
      have e : lookM (bs.drop p) most = match scan 6 (bs.drop p) 0 0 with
        | .inl e => (0, 0, e)
        | .inr (n, k) => if (n : Int) > min most 1099511627776 then (0, 0, 4) else (n, k, 0) := by
        rw [hd]; simp only [lookM, if_neg h1]
      rw [e]
      cases scan 6 (bs.drop p) 0 0 with
      | inl er => exact ⟨rfl, rfl⟩
      | inr nk =>
        obtain ⟨n, k⟩ := nk
        simp only [peekP]
        split
        · exact ⟨rfl, rfl⟩
        · exact ⟨rfl, rfl⟩

theorem scan_le : ∀ (f : Nat) (s : List UInt8) (x i n k : Nat), scan f s x i = .inr (n, k) → i < k ∧ k ≤ i + s.length
  | 0, s, x, i, n, k, h => by simp [scan] at h
  | f + 1, [], x, i, n, k, h => by simp [scan] at h
  | f + 1, c :: s, x, i, n, k, h => by
    simp only [scan] at h
    split at h
    · have := scan_le f s _ _ _ _ h
      simp; omega
    · simp at h
      simp; omega

theorem lookM_le (s : List UInt8) (most : Int) : (lookM s most).2.1 ≤ s.length ∧ 0 ≤ (lookM s most).1 ∧ (lookM s most).1 ≤ 1099511627776 ∧ ((lookM s most).2.2 ≠ 0 → (lookM s most).1 = 0 ∧ (lookM s most).2.1 = 0) := by
  cases s with
  | nil => simp [lookM]
  | cons c s =>
    simp only [lookM]
    split
    · simp
    · split
      · simp
      · rename_i n k hs
        have := scan_le _ _ _ _ _ _ hs
        split
        · simp
        · refine ⟨?_, by simp, ?_, by simp⟩
          · show k ≤ _
            omega
          · show (n : Int) ≤ _
            omega

/-- a reader's next number: the answer, the place, the error -/
def numM (bs : List UInt8) (p : Nat) (e most : Int) : Int × Nat × Int :=
  if e ≠ 0 then (0, p, e) else ((lookM (bs.drop p) most).1, p + (lookM (bs.drop p) most).2.1, (lookM (bs.drop p) most).2.2)

def strM (bs : List UInt8) (p : Nat) (e most : Int) : List UInt8 × Nat × Int :=
  if e ≠ 0 then ([], p, e) else
    if (lookM (bs.drop p) most).2.2 ≠ 0 then ([], p, (lookM (bs.drop p) most).2.2) else
    if (lookM (bs.drop p) most).1 > (bs.length : Int) - ((p + (lookM (bs.drop p) most).2.1 : Nat) : Int) then ([], p, 2) else
      ((bs.drop (p + (lookM (bs.drop p) most).2.1)).take (lookM (bs.drop p) most).1.toNat, p + (lookM (bs.drop p) most).2.1 + (lookM (bs.drop p) most).1.toNat, 0)

theorem num_spec0 {bs : List UInt8} {p : Nat} (e most : Int) (hb : bs.length ≤ big) (hp : p ≤ bs.length) :
    ASpec Try.prog 143 [.ptr 0 0, .int .i64 most] [rd bs p e] (fun r H' => r = .int .i64 (numM bs p e most).1 ∧ H' = [rd bs (numM bs p e most).2.1 (numM bs p e most).2.2]) := by
  refine s143 _ _ _ _ _ (condNe (fun he => ?_) fun he => ?_)
  · rw [show numM bs p e most = (0, p, e) by simp only [numM, if_pos he]]
    exact ⟨rfl, rfl⟩
  · subst he
    rw [show numM bs p 0 most = ((lookM (bs.drop p) most).1, p + (lookM (bs.drop p) most).2.1, (lookM (bs.drop p) most).2.2) by simp [numM]]
    refine ASpec.call (peek_spec most hb hp) (Les.refl _) ⟨(_, _, _, _), rfl, rfl, rfl, rfl⟩

theorem str_spec0 {bs : List UInt8} {p : Nat} (e most : Int) (hb : bs.length ≤ big) (hp : p ≤ bs.length) :
    ASpec Try.prog 145 [.ptr 0 0, .int .i64 most] [rd bs p e] (fun r H' => r = .str ⟨(strM bs p e most).1.toArray⟩ ∧ H' = [rd bs (strM bs p e most).2.1 (strM bs p e most).2.2]) := by
  refine s145 _ _ _ _ _ (condNe (fun he => ?_) fun he => ?_)
  · rw [show strM bs p e most = ([], p, e) by simp only [strM, if_pos he]]
    exact ⟨rfl, rfl⟩
  · subst he
    obtain ⟨h1, h2, h3, h4⟩ := lookM_le (bs.drop p) most
    have hs : strM bs p 0 most = if (lookM (bs.drop p) most).2.2 ≠ 0 then ([], p, (lookM (bs.drop p) most).2.2) else
      if (lookM (bs.drop p) most).1 > (bs.length : Int) - ((p + (lookM (bs.drop p) most).2.1 : Nat) : Int) then ([], p, 2) else
      ((bs.drop (p + (lookM (bs.drop p) most).2.1)).take (lookM (bs.drop p) most).1.toNat, p + (lookM (bs.drop p) most).2.1 + (lookM (bs.drop p) most).1.toNat, 0) := by simp [strM]
    refine ASpec.call (peek_spec most hb hp) (Les.refl _) ⟨((lookM (bs.drop p) most).1, ((p + (lookM (bs.drop p) most).2.1 : Nat) : Int), p, (lookM (bs.drop p) most).2.2), rfl, rfl, ?_⟩
    generalize lookM (bs.drop p) most = q at h1 h2 h3 h4 hs ⊢
    obtain ⟨n, k, er⟩ := q
    unfold big at hb
    rw [List.length_drop] at h1
    simp only at h1 h2 h3 h4 hs ⊢
    refine condNe (fun he => ?_) fun he => ?_
    · rw [hs, if_pos he]; exact ⟨rfl, rfl⟩
    · subst he
      rw [wrap64 (x := (bs.length : Int) - ((p + k : Nat) : Int)) (by omega) (by omega)]
      refine condD (fun hg => ?_) fun hg => ?_
      · rw [hs, if_neg (by simp), if_pos hg]; exact ⟨rfl, rfl⟩
      · rw [hs, if_neg (by simp), if_neg hg]
        have hw : IntKind.wrap .i64 (((p + k : Nat) : Int) + n) = ((p + k + n.toNat : Nat) : Int) := by
          have h5 : 0 ≤ n := h2
          rw [wrap64 (x := ((p + k : Nat) : Int) + n) (by omega) (by omega)]; omega
        rw [hw]
        refine needJ (by omega) (needJ (allBytes_map _) ?_)
        rw [bytesOf_map, Int.toNat_natCast, Int.toNat_natCast, List.drop_take]
        refine ⟨?_, rfl⟩
        rw [show p + k + n.toNat - (p + k) = n.toNat by omega]

end V
end

section
/- The document's numbers, texts and reader: what they compute. -/

set_option linter.unusedVariables false
set_option linter.unusedSimpArgs false
open Go Go.Ab Go.Proofs
namespace V

abbrev B (l : List UInt8) : ByteArray := ⟨l.toArray⟩

theorem B_size (l : List UInt8) : (B l).size = l.length := by simp [ByteArray.size]
theorem B_toList (l : List UInt8) : (B l).toList = l := by rw [ByteArray.toList_eq]
theorem B_append (a b : List UInt8) : B a ++ B b = B (a ++ b) := by
  apply ByteArray.ext
  simp
theorem B_beq (a b : List UInt8) : ((B a).toList == (B b).toList) = (a == b) := by rw [B_toList, B_toList]
theorem B_extract (l : List UInt8) (i j : Nat) (h : j ≤ l.length) : (B l).extract i j = B ((l.take j).drop i) := by
  apply ByteArray.ext
  apply Array.toList_inj.1
  simp [List.drop_take]

theorem condS {a b : List UInt8} {A C : Prop} (h1 : a = b → A) (h2 : a ≠ b → C) : condP ((B a).toList == (B b).toList) A C := by
  rw [B_beq]
  by_cases h : a = b
  · rw [beq_iff_eq.2 h]; exact h1 h
  · rw [beq_eq_false_iff_ne.2 h]; exact h2 h

theorem bytesOf_one {x : Int} : bytesOf (.raw [[.int .u8 x]]) = B [UInt8.ofNat x.toNat] := rfl
theorem allBytes_one {x : Int} : allBytes (.raw [[.int .u8 x]]) := by
  intro y hy
  simp only [Seq.toList, List.mem_singleton] at hy
  exact ⟨x, hy⟩

/-! ### numbers -/

theorem rnum3 {Post : AV → List AObj → Prop} : ∀ (f v : Nat) (l : List UInt8), v < 128 ^ (f + 1) → v ≤ 1099511627776 → l.length + f ≤ 100 →
    Post (.str (B (lead (v / 128) ++ l))) [] → AWP Try.prog 25 0 c150_3 [(0, .int .i64 v), (3, .str (B l))] [] (q150_2 0 Post) := by
  intro f
  induction f with
  | zero =>
    intro v l hv hv2 hl h
    refine v150_3 _ _ _ _ (condD (fun hc => by simp at hv; omega) fun hc => ?_)
    rw [show v / 128 = 0 by omega, lead_zero] at h
    exact h
  | succ f ih =>
    intro v l hv hv2 hl h
    refine v150_3 _ _ _ _ (condD (fun hc => ?_) fun hc => ?_)
    · have hw : IntKind.wrap .i64 ((v : Int).tdiv 128) = ((v / 128 : Nat) : Int) := by
        rw [show (128 : Int) = ((128 : Nat) : Int) from rfl, tdivN, wrapN (by omega)]
      have hw2 : IntKind.wrap .u8 (IntKind.wrap .i64 (128 + ((v / 128 : Nat) : Int).tmod 128)) = ((128 + v / 128 % 128 : Nat) : Int) := by
        rw [show (128 : Int) = ((128 : Nat) : Int) from rfl, tmodN, wrap64 (by omega) (by omega), wrapU8, Int.emod_eq_of_lt (by omega) (by omega)]
        simp
      rw [hw, hw2, bytesOf_one, B_append, Int.toNat_natCast]
      refine needJ (by decide) (needJ (by decide) (needJ allBytes_one (needJ ?_ ?_)))
      · rw [B_size, B_size]; simp; omega
      · refine ih (v / 128) _ ?_ (by omega) (by simp; omega) ?_
        · rw [Nat.div_lt_iff_lt_mul (by omega), ← Nat.pow_succ]; exact hv
        · rw [lead_pos (by omega : 0 < v / 128)] at h
          rw [List.append_assoc] at h
          exact h
    · rw [show v / 128 = 0 by omega, lead_zero] at h
      exact h

theorem rnum_spec (x : Int) (H : List AObj) : ASpec Try.prog 150 [.int .i64 x] H (fun r H' => r = .str (B (enc (held x))) ∧ H' = H) := by
  have k : ASpec Try.prog 150 [.int .i64 x] [] (fun r H' => r = .str (B (enc (held x))) ∧ H' = []) := by
    refine s150 _ _ (needJ (by decide) (needJ allBytes_one ?_))
    rw [clamp_held]
    have hh := held_le x
    generalize held x = v at hh ⊢
    rw [show (128 : Int) = ((128 : Nat) : Int) from rfl, tmodN, wrapU8, Int.emod_eq_of_lt (by omega) (by omega), bytesOf_one]
    refine rnum3 5 v _ (by omega) hh (by simp) ⟨?_, rfl⟩
    rfl
  exact ASpec.pureH H k _ _ rfl rfl

theorem rtext_spec (s : List UInt8) (hs : s.length ≤ big) (H : List AObj) : ASpec Try.prog 151 [.str (B s)] H (fun r H' => r = .str (B (enc (held s.length) ++ s)) ∧ H' = H) := by
  have k : ASpec Try.prog 151 [.str (B s)] [] (fun r H' => r = .str (B (enc (held s.length) ++ s)) ∧ H' = []) := by
    refine s151 _ _ (ASpec.call (rnum_spec _ _) (Les.refl _) ⟨_, rfl, rfl, ?_⟩)
    have hel := enc_length (held s.length) (held_le _)
    refine needJ ?_ ⟨by rw [B_append, B_size], rfl⟩
    simp only [B_size]
    unfold big at hs
    omega
  exact ASpec.pureH H k _ _ rfl rfl

/-! ### the document's look -/

def acc (x : Nat) : List UInt8 → Nat
  | [] => x
  | c :: s => acc (x * 128 + c.toNat % 128) s

theorem acc_lt : ∀ (s : List UInt8) (x i : Nat), x < 128 ^ i → acc x s < 128 ^ (i + s.length)
  | [], x, i, h => h
  | c :: s, x, i, h => by
    simp only [acc, List.length_cons]
    have := acc_lt s (x * 128 + c.toNat % 128) (i + 1) (by rw [Nat.pow_succ]; omega)
    rwa [show i + (s.length + 1) = i + 1 + s.length by omega]

theorem acc_append (x : Nat) : ∀ (s t : List UInt8), acc x (s ++ t) = acc (acc x s) t
  | [], t => rfl
  | c :: s, t => acc_append _ s t

theorem scan_hi : ∀ (k : Nat) (s : List UInt8) (x i f : Nat), k ≤ s.length → k ≤ f → (∀ j, j < k → 128 ≤ (s.getD j 0).toNat) → scan f s x i = scan (f - k) (s.drop k) (acc x (s.take k)) (i + k)
  | 0, s, x, i, f, _, _, _ => by simp [acc]
  | k + 1, [], x, i, f, h, _, _ => by simp at h
  | k + 1, c :: s, x, i, 0, _, h, _ => by omega
  | k + 1, c :: s, x, i, f + 1, h1, h2, h3 => by
    have hc : 128 ≤ c.toNat := by simpa using h3 0 (by omega)
    simp only [scan, if_pos hc]
    rw [scan_hi k s _ (i + 1) f (by simpa using h1) (by omega) (fun j hj => by simpa using h3 (j + 1) (by omega))]
    simp only [List.take_succ_cons, acc, List.drop_succ_cons]
    congr 1 <;> omega

theorem look14 {l : List UInt8} {most : Int} {k : Nat} {Post : AV → List AObj → Prop} (hk : k < 6) (hkl : k < l.length) : ∀ (m i : Nat), m + i = k + 1 →
    (if (acc 0 (l.take (k + 1)) : Int) > min most 1099511627776 then Post (.tup [.int .i64 0, .int .i64 0, .int .i64 4]) [] else Post (.tup [.int .i64 (acc 0 (l.take (k + 1)) : Nat), .int .i64 (k + 1 : Nat), .int .i64 0]) []) →
    AWP Try.prog 60 0 c252_14 [(0, .str (B l)), (1, .int .i64 most), (7, .int .i64 k), (8, .int .i64 (acc 0 (l.take i) : Nat)), (9, .int .i64 i)] [] (q252_4 0 Post) := by
  intro m
  induction m with
  | zero =>
    intro i hm h
    refine v252_14 _ _ _ _ _ _ _ (condD (fun hc => by omega) fun hc => ?_)
    rw [show i = k + 1 by omega]
    refine condD (fun h1 => ?_) fun h1 => condD (fun h2 => ?_) fun h2 => ?_
    · rw [if_pos (by omega)] at h; exact h
    · rw [if_pos (by omega)] at h; exact h
    · rw [if_neg (by omega)] at h
      rw [show IntKind.wrap .i64 ((k : Int) + 1) = ((k + 1 : Nat) : Int) by rw [wrap64 (by omega) (by omega)]; simp]
      exact h
  | succ m ih =>
    intro i hm h
    refine v252_14 _ _ _ _ _ _ _ (condD (fun hc => needJ ?_ (needJ (by decide) ?_)) fun hc => by omega)
    · rw [B_size]; omega
    · have hx := acc_lt (l.take i) 0 0 (by simp)
      have hlen : (l.take i).length ≤ 5 := by simp; omega
      have hp : (128 : Nat) ^ (0 + (l.take i).length) ≤ 128 ^ 5 := Nat.pow_le_pow_right (by omega) (by omega)
      have h5 : (128 : Nat) ^ 5 = 34359738368 := by decide
      have e : acc 0 (l.take (i + 1)) = acc 0 (l.take i) * 128 + (l.getD i 0).toNat % 128 := by
        have : l.take (i + 1) = l.take i ++ [l.getD i 0] := by
          rw [List.take_add_one]
          simp [List.getElem?_eq_getElem (show i < l.length by omega)]
        rw [this, acc_append]; rfl
      have := ih (i + 1) (by omega) h
      rw [e] at this
      generalize acc 0 (l.take i) = x at this hx ⊢
      have hg : (B l).data.toList.getD (Int.toNat (i : Int)) 0 = l.getD i 0 := rfl
      rw [hg]
      generalize l.getD i 0 = c at this ⊢
      have hc8 : c.toNat < 256 := c.toNat_lt
      rw [show IntKind.wrap .i64 ((i : Int) + 1) = ((i + 1 : Nat) : Int) by rw [wrap64 (by omega) (by omega)]; simp]
      rw [show (128 : Int) = ((128 : Nat) : Int) from rfl, tmodN, wrap64 (x := (x : Int) * ((128 : Nat) : Int)) (by omega) (by omega), wrap64 (x := ((c.toNat % 128 : Nat) : Int)) (by omega) (by omega), wrap64 (by omega) (by omega)]
      have e2 : (x : Int) * ((128 : Nat) : Int) + ((c.toNat % 128 : Nat) : Int) = ((x * 128 + c.toNat % 128 : Nat) : Int) := by simp
      rw [e2]
      exact this

def lookP (Post : AV → List AObj → Prop) (most : Int) : Int ⊕ (Nat × Nat) → Prop
  | .inl e => Post (.tup [.int .i64 0, .int .i64 0, .int .i64 e]) []
  | .inr (n, k) => if (n : Int) > min most 1099511627776 then Post (.tup [.int .i64 0, .int .i64 0, .int .i64 4]) [] else Post (.tup [.int .i64 n, .int .i64 k, .int .i64 0]) []

theorem look6 {l : List UInt8} {most : Int} {Post : AV → List AObj → Prop} (hl : l.length ≤ 10 * big) : ∀ (m k : Nat), m + k = 6 → k ≤ l.length → (∀ j, j < k → 128 ≤ (l.getD j 0).toNat) → lookP Post most (scan 6 l 0 0) →
    AWP Try.prog 60 0 c252_6 [(0, .str (B l)), (1, .int .i64 most), (7, .int .i64 k)] [] (q252_2 0 Post) := by
  unfold big at hl
  -- behind the loop
  have tail : ∀ k, k ≤ 6 → k ≤ l.length → (∀ j, j < k → 128 ≤ (l.getD j 0).toNat) → (k < 6 → k < l.length → (l.getD k 0).toNat < 128) → lookP Post most (scan 6 l 0 0) →
      condP ((k : Int) == (6 : Int)) (Post (.tup [.int .i64 0, .int .i64 0, .int .i64 4]) [])
        (condP ((k : Int) == ((B l).size : Int)) (Post (.tup [.int .i64 0, .int .i64 0, .int .i64 2]) [])
          (AWP Try.prog 60 0 c252_14 [(0, .str (B l)), (1, .int .i64 most), (7, .int .i64 k), (8, .int .i64 0), (9, .int .i64 0)] [] (q252_4 0 Post))) := by
    intro k hk hkl hhi hlo h
    rw [scan_hi k l 0 0 6 hkl hk hhi] at h
    refine condE (fun e => ?_) fun e => condE (fun e2 => ?_) fun e2 => ?_
    · have : k = 6 := by omega
      subst this
      exact h
    · rw [B_size] at e2
      have : k = l.length := by omega
      rw [List.drop_eq_nil_of_le (by omega), show 6 - k = (5 - k) + 1 by omega] at h
      exact h
    · rw [B_size] at e2
      have hlt : (l.getD k 0).toNat < 128 := hlo (by omega) (by omega)
      rw [getD_drop l k (by omega), show 6 - k = (5 - k) + 1 by omega] at h
      simp only [scan, if_neg (show ¬ 128 ≤ (l.getD k 0).toNat by omega)] at h
      refine look14 (by omega) (by omega) (k + 1) 0 rfl ?_
      have e : acc 0 (l.take (k + 1)) = acc 0 (l.take k) * 128 + (l.getD k 0).toNat % 128 := by
        have : l.take (k + 1) = l.take k ++ [l.getD k 0] := by
          rw [List.take_add_one]
          simp [List.getElem?_eq_getElem (show k < l.length by omega)]
        rw [this, acc_append]; rfl
      rw [e]
      simpa [lookP] using h
  intro m
  induction m with
  | zero =>
    intro k hm hkl hhi h
    have : k = 6 := by omega
    subst this
    refine v252_6 _ _ _ _ _ (condD (fun _ => condD (fun hc => by omega) fun _ => ?_) fun _ => ?_)
    · exact tail 6 (by omega) hkl hhi (fun h => by omega) h
    · exact tail 6 (by omega) hkl hhi (fun h => by omega) h
  | succ m ih =>
    intro k hm hkl hhi h
    refine v252_6 _ _ _ _ _ (condD (fun hc => condD (fun _ => needJ ?_ ?_) fun hc => by omega) fun hc => ?_)
    · exact ⟨by omega, hc⟩
    · rw [B_size] at hc
      have hg : (B l).data.toList.getD (Int.toNat (k : Int)) 0 = l.getD k 0 := rfl
      rw [hg]
      refine condD (fun hx => ?_) fun hx => ?_
      · rw [show IntKind.wrap .i64 ((k : Int) + 1) = ((k + 1 : Nat) : Int) by rw [wrap64 (by omega) (by omega)]; simp]
        refine ih (k + 1) (by omega) (by omega) (fun j hj => ?_) h
        by_cases e : j = k
        · subst e; omega
        · exact hhi j (by omega)
      · exact tail k (by omega) hkl hhi (fun _ _ => by omega) h
    · rw [B_size] at hc
      exact tail k (by omega) hkl hhi (fun _ h => by omega) h

theorem look_spec (l : List UInt8) (most : Int) (hl : l.length ≤ 10 * big) (H : List AObj) :
    ASpec Try.prog 252 [.str (B l), .int .i64 most] H (fun r H' => r = .tup [.int .i64 (lookM l most).1, .int .i64 (lookM l most).2.1, .int .i64 (lookM l most).2.2] ∧ H' = H) := by
  have k : ASpec Try.prog 252 [.str (B l), .int .i64 most] [] (fun r H' => r = .tup [.int .i64 (lookM l most).1, .int .i64 (lookM l most).2.1, .int .i64 (lookM l most).2.2] ∧ H' = []) := by
    refine s252 _ _ _ (condS (b := []) (fun e => ?_) fun e => ?_)
    · subst e; exact ⟨rfl, rfl⟩
    · cases l with
      | nil => exact (e rfl).elim
      | cons c l =>
        refine needJ ⟨by omega, by rw [B_size]; simp⟩ ?_
        have hg : (B (c :: l)).data.toList.getD 0 0 = c := rfl
        rw [hg]
        refine condE (fun h1 => ?_) fun h1 => ?_
        · have h1 : c = 128 := UInt8.toNat_inj.1 (by have : c.toNat = 128 := by omega
                                                     exact this)
          rw [show lookM (c :: l) most = (0, 0, 3) by simp only [lookM, if_pos h1]]
          exact ⟨rfl, rfl⟩
        · have h1 : c ≠ 128 := by intro e; rw [e] at h1; exact h1 rfl
          refine look6 hl 6 0 rfl (by omega) (fun j hj => by omega) ?_
          have e : lookM (c :: l) most = match scan 6 (c :: l) 0 0 with
            | .inl e => (0, 0, e)
            | .inr (n, k) => if (n : Int) > min most 1099511627776 then (0, 0, 4) else (n, k, 0) := by simp only [lookM, if_neg h1] <;> rfl
          rw [e]
          cases scan 6 (c :: l) 0 0 with
          | inl er => exact ⟨rfl, rfl⟩
          | inr nk =>
            obtain ⟨n, k⟩ := nk
            by_cases hm : (n : Int) > min most 1099511627776
            · simp [lookP, hm]
            · simp [lookP, hm]
  exact ASpec.pureH H k _ _ rfl rfl

end V
end

section
/- Readers as objects, in any heap; the chapter's examples. -/

set_option linter.unusedVariables false
set_option linter.unusedSimpArgs false
open Go Go.Ab Go.Proofs
namespace V

/-- a reader stands at id -/
abbrev At (H : List AObj) (id : Nat) (bs : List UInt8) (p : Nat) (e : Int) : Prop := H[id]? = some (rd bs p e)

theorem num_spec {H : List AObj} {id : Nat} {bs : List UInt8} {p : Nat} {e : Int} (most : Int) (hb : bs.length ≤ big) (hp : p ≤ bs.length) (h : At H id bs p e) :
    ASpec Try.prog 143 [.ptr id 0, .int .i64 most] H (fun r H' => r = .int .i64 (numM bs p e most).1 ∧ H' = H.set id (rd bs (numM bs p e most).2.1 (numM bs p e most).2.2)) :=
  ASpec.oneH H id (num_spec0 e most hb hp) _ _ _ rfl rfl h rfl

theorem str_spec {H : List AObj} {id : Nat} {bs : List UInt8} {p : Nat} {e : Int} (most : Int) (hb : bs.length ≤ big) (hp : p ≤ bs.length) (h : At H id bs p e) :
    ASpec Try.prog 145 [.ptr id 0, .int .i64 most] H (fun r H' => r = .str (B (strM bs p e most).1) ∧ H' = H.set id (rd bs (strM bs p e most).2.1 (strM bs p e most).2.2)) :=
  ASpec.oneH H id (str_spec0 e most hb hp) _ _ _ rfl rfl h rfl

theorem set_same {α : Type _} {l : List α} {i : Nat} {a : α} (h : l[i]? = some a) : l.set i a = l := by
  apply List.ext_getElem?
  intro j
  rw [List.getElem?_set]
  split
  · rename_i e; subst e
    have := (List.getElem?_eq_some_iff.1 h).1
    simp only [this, if_true]
    exact h.symm
  · rfl

theorem err_spec {H : List AObj} {id : Nat} {bs : List UInt8} {p : Nat} {e : Int} (h : At H id bs p e) : ASpec Try.prog 144 [.ptr id 0] H (fun r H' => r = .int .i64 e ∧ H' = H) := by
  have k : ASpec Try.prog 144 [.ptr 0 0] [rd bs p e] (fun r H' => r = .int .i64 e ∧ H' = [rd bs p e]) := s144 _ _ _ _ ⟨rfl, rfl⟩
  have := ASpec.oneH H id k [.ptr id 0] (.int .i64 e) (rd bs p e) rfl rfl h rfl
  rw [set_same h] at this
  exact this

theorem left_spec {H : List AObj} {id : Nat} {bs : List UInt8} {p : Nat} {e : Int} (hb : bs.length ≤ big) (hp : p ≤ bs.length) (h : At H id bs p e) : ASpec Try.prog 251 [.ptr id 0] H (fun r H' => r = .int .i64 (bs.length - p : Nat) ∧ H' = H) := by
  have k : ASpec Try.prog 251 [.ptr 0 0] [rd bs p e] (fun r H' => r = .int .i64 (bs.length - p : Nat) ∧ H' = [rd bs p e]) := by
    refine s251 _ _ _ _ ⟨?_, rfl⟩
    unfold big at hb
    rw [wrap64 (by omega) (by omega)]
    congr 1
    omega
  have := ASpec.oneH H id k [.ptr id 0] (.int .i64 (bs.length - p : Nat)) (rd bs p e) rfl rfl h rfl
  rw [set_same h] at this
  exact this

theorem copied_all (bs : List UInt8) (l : List (List AV)) (hl : l.length = bs.length) : (copied (.raw l) 0 (.map encB 0 bs)).toList = bs.map encB := by
  simp [copied, Seq.toList, hl]

theorem open_spec (bs : List UInt8) (hb : bs.length ≤ big) (H : List AObj) : ASpec Try.prog 142 [.sl 1 (.map encB 0 bs) .none] H (fun r H' => r = .ptr H.length 0 ∧ H' = H ++ [rd bs 0 0]) := by
  have k : ASpec Try.prog 142 [.sl 1 (.map encB 0 bs) .none] [] (fun r H' => r = .ptr 0 0 ∧ H' = [rd bs 0 0]) := by
    unfold big at hb
    refine s142 _ _ _ (needJ ⟨by omega, by omega, by omega, by omega⟩ (needJ oneB (needJ (by simp) ?_)))
    generalize hq : copied _ _ _ = q
    have hq2 : q.toList = bs.map encB := by rw [← hq]; exact copied_all _ _ (by simp)
    refine AWP.re (ReSt.freeze (id := 0) (sz := 1) (q := q) (s2 := [(3, .sl 1 (.map encB 0 bs) .none)]) rfl (by simp) (fun d => ?_)) ?_
    · by_cases e : d = 3
      · subst e
        right; right
        exact ⟨0, bs.length, .map encB 0 bs, rfl, by rw [hq2]; simp, rfl, by rw [hq2]; simp [Seq.toList, List.take_of_length_le]⟩
      · left
        have : Nat.beq 3 d = false := by
          cases hx : Nat.beq 3 d with
          | false => rfl
          | true => exact absurd (Nat.eq_of_beq_eq_true hx).symm e
        simp only [Ab.get, this]; rfl
    · exact AWP.shape [] [(3, .sl 1 (.map encB 0 bs) .none)] [] Sel.none ⟨rfl, Le.refl _, trivial⟩ (v142_3 _ _ _ ⟨rfl, rfl⟩)
  exact ASpec.anyH H k _ _ _ rfl rfl rfl

theorem put_spec' {args : List AV} {bs : List UInt8} {ns : List Int} {H : List AObj} {Post : AV → List AObj → Prop} (hle : Les args [.sl 1 (.map encB 0 bs) .none, .sl 1 (.map encI 0 ns) .none]) (hb : bs.length + 7 * ns.length ≤ big)
    (h : Post (.sl 1 (.map encB 0 (putM bs ns)) (.tok H.length)) (H ++ [.tok])) : ASpec Try.prog 140 args H Post := ASpec.call (put_spec bs ns hb H) hle h

theorem leNil : Le (.sl 0 (.raw []) .nil) (.sl 1 (.map encB 0 []) .none) := Le.sl rfl (.inr ⟨rfl, fun _ h => by cases h⟩) (.inr rfl)
theorem leOne (x : Int) : Le (.sl 1 (.raw [[.int .i64 x]]) .full) (.sl 1 (.map encI 0 [x]) .none) := Le.sl rfl (.inl rfl) (.inr rfl)

end V
end

section
/- VlqOrder: the law's function returns true. -/

set_option linter.unusedVariables false
set_option linter.unusedSimpArgs false
open Go Go.Ab Go.Proofs
namespace V

end V
end

section
/- VlqBack: what was put is read: the law's function returns true. -/

set_option linter.unusedVariables false
set_option linter.unusedSimpArgs false
open Go Go.Ab Go.Proofs
namespace V

theorem text_spec (bs s : List UInt8) (hb : bs.length + s.length + 100 ≤ big) (H : List AObj) :
    ASpec Try.prog 141 [.sl 1 (.map encB 0 bs) .none, .str (B s)] H (fun r H' => r = .sl 1 (.map encB 0 (bs ++ enc (held s.length) ++ s)) (.tok H.length) ∧ H' = H ++ [.tok]) := by
  refine ASpec.anyH (args := [.sl 1 (.map encB 0 bs) .none, .str (B s)]) (r0 := .sl 1 (.map encB 0 (bs ++ enc (held s.length) ++ s)) (.tok 0)) (Hl := [.tok]) H ?_ _ _ _ rfl rfl rfl
  have hel := enc_length (held s.length) (held_le _)
  unfold big at hb
  refine ASpec.sel (s141 _ _ _ _ (put_spec' (bs := bs) (ns := [(s.length : Int)]) ⟨Le.refl _, ?_, trivial⟩ (by unfold big; simp; omega) ⟨_, rfl, rfl, needJ oneB (needJ ?_ ?_)⟩))
  · rw [B_size]; exact leOne _
  · simp only [putM, Ab.Seq.len, bytesSeq, List.flatMap_cons, List.flatMap_nil, List.append_nil, List.length_append]
    have : (B s).data.toList.length = s.length := rfl
    omega
  · refine ⟨[1], [.tok], .sl 1 (.map encB 0 (bs ++ enc (held s.length) ++ s)) (.tok 0), selTok, Le.sl ?_ (.inl rfl) (.inl rfl), rfl, rfl⟩
    simp [Ab.Seq.toList, Seq.ren, encB, renL, AV.ren, bytesSeq, putM]
    rfl

theorem scan_lead (rest : List UInt8) : ∀ (m v f : Nat), v < 128 ^ m → (lead v).length ≤ f → scan f (lead v ++ rest) 0 0 = scan (f - (lead v).length) rest v (lead v).length
  | 0, v, f, hv, hf => by
    have : v = 0 := by simp at hv; omega
    subst this; simp [lead_zero]
  | m + 1, v, f, hv, hf => by
    rcases Nat.eq_zero_or_pos v with e | e
    · subst e; simp [lead_zero]
    · rw [lead_pos e, List.length_append, List.length_singleton, List.append_assoc] at *
      rw [scan_lead _ m (v / 128) f (by rw [Nat.div_lt_iff_lt_mul (by omega), ← Nat.pow_succ]; exact hv) (by omega)]
      have hd : (UInt8.ofNat (128 + v % 128)).toNat = 128 + v % 128 := by rw [UInt8.toNat_ofNat', Nat.mod_eq_of_lt (by omega)]
      rw [show f - (lead (v / 128)).length = (f - ((lead (v / 128)).length + 1)) + 1 by omega, List.singleton_append]
      simp only [scan]
      rw [hd, if_pos (by omega)]
      congr 1
      omega

theorem scan_enc (rest : List UInt8) {v : Nat} (hv : v ≤ 1099511627776) : scan 6 (enc v ++ rest) 0 0 = .inr (v, (enc v).length) := by
  have hl := lead_length 5 (v / 128) (by omega)
  unfold enc
  rw [List.append_assoc, scan_lead _ 5 (v / 128) 6 (by omega) (by omega), show 6 - (lead (v / 128)).length = (5 - (lead (v / 128)).length) + 1 by omega, List.singleton_append]
  have hd : (UInt8.ofNat (v % 128)).toNat = v % 128 := by rw [UInt8.toNat_ofNat', Nat.mod_eq_of_lt (by omega)]
  simp only [scan]
  rw [hd, if_neg (by omega)]
  congr 2
  · omega
  · simp

theorem lead_head : ∀ (m v : Nat), v < 128 ^ m → 0 < v → ∃ c l, lead v = c :: l ∧ c ≠ 128
  | 0, v, hv, h => by simp at hv; omega
  | m + 1, v, hv, h => by
    rw [lead_pos h]
    rcases Nat.eq_zero_or_pos (v / 128) with e | e
    · rw [e, lead_zero]
      refine ⟨_, _, rfl, fun hc => ?_⟩
      have := congrArg UInt8.toNat hc
      rw [UInt8.toNat_ofNat', Nat.mod_eq_of_lt (by omega)] at this
      have h2 : (128 : UInt8).toNat = 128 := rfl
      omega
    · obtain ⟨c, l, h1, h2⟩ := lead_head m (v / 128) (by rw [Nat.div_lt_iff_lt_mul (by omega), ← Nat.pow_succ]; exact hv) e
      exact ⟨c, l ++ [_], by rw [h1]; rfl, h2⟩

theorem enc_head {v : Nat} (hv : v ≤ 1099511627776) : ∃ c l, enc v = c :: l ∧ c ≠ 128 := by
  unfold enc
  rcases Nat.eq_zero_or_pos (v / 128) with e | e
  · rw [e, lead_zero]
    refine ⟨_, _, rfl, fun hc => ?_⟩
    have := congrArg UInt8.toNat hc
    rw [UInt8.toNat_ofNat', Nat.mod_eq_of_lt (by omega)] at this
    have h2 : (128 : UInt8).toNat = 128 := rfl
    omega
  · obtain ⟨c, l, h1, h2⟩ := lead_head 6 (v / 128) (by omega) e
    exact ⟨c, l ++ [_], by rw [h1]; rfl, h2⟩

theorem look_enc (rest : List UInt8) {v : Nat} {most : Int} (hv : v ≤ 1099511627776) (hm : (v : Int) ≤ most) : lookM (enc v ++ rest) most = ((v : Int), (enc v).length, 0) := by
  obtain ⟨c, l, h1, h2⟩ := enc_head hv
  have hs := scan_enc rest hv
  rw [h1, List.cons_append] at hs ⊢
  simp only [lookM, if_neg h2, hs]
  rw [if_neg (by omega)]

end V
end

section
/- The document's reader, and a reader that is none: what their methods compute, in any heap. -/

set_option linter.unusedVariables false
set_option linter.unusedSimpArgs false
open Go Go.Ab Go.Proofs
namespace V

/-- the document's reader -/
abbrev dr (l : List UInt8) (e : Int) : AObj := .cells [.str (B l), .int .i64 e]
abbrev AtD (H : List AObj) (id : Nat) (l : List UInt8) (e : Int) : Prop := H[id]? = some (dr l e)

def dnumM (l : List UInt8) (e most : Int) : Int × List UInt8 × Int :=
  if e ≠ 0 then (0, l, e) else ((lookM l most).1, l.drop (lookM l most).2.1, (lookM l most).2.2)
def dstrM (l : List UInt8) (e most : Int) : List UInt8 × List UInt8 × Int :=
  if e ≠ 0 then ([], l, e) else if (lookM l most).2.2 ≠ 0 then ([], l, (lookM l most).2.2) else
    if (lookM l most).1 > (l.length : Int) - ((lookM l most).2.1 : Nat) then ([], l, 2) else
    ((l.drop (lookM l most).2.1).take (lookM l most).1.toNat, l.drop ((lookM l most).2.1 + (lookM l most).1.toNat), 0)

theorem dnum_spec0 (l : List UInt8) (e most : Int) (hl : l.length ≤ 10 * big) :
    ASpec Try.prog 147 [.ptr 0 0, .int .i64 most] [dr l e] (fun r H' => r = .int .i64 (dnumM l e most).1 ∧ H' = [dr (dnumM l e most).2.1 (dnumM l e most).2.2]) := by
  refine s147 _ _ _ _ (condNe (fun he => ?_) fun he => ?_)
  · rw [show dnumM l e most = (0, l, e) by simp only [dnumM, if_pos he]]
    exact ⟨rfl, rfl⟩
  · subst he
    rw [show dnumM l 0 most = ((lookM l most).1, l.drop (lookM l most).2.1, (lookM l most).2.2) by simp [dnumM]]
    obtain ⟨h1, h2, h3, h4⟩ := lookM_le l most
    refine ASpec.call (look_spec l most hl _) (Les.refl _) ⟨((lookM l most).1, ((lookM l most).2.1 : Nat), (lookM l most).2.2), rfl, rfl, needJ ?_ ⟨rfl, ?_⟩⟩
    · simp only [B_size]; omega
    · simp only [Int.toNat_natCast, B_size]
      rw [B_extract _ _ _ (Nat.le_refl _), List.take_of_length_le (Nat.le_refl _)]

theorem dstr_spec0 (l : List UInt8) (e most : Int) (hl : l.length ≤ 10 * big) :
    ASpec Try.prog 148 [.ptr 0 0, .int .i64 most] [dr l e] (fun r H' => r = .str (B (dstrM l e most).1) ∧ H' = [dr (dstrM l e most).2.1 (dstrM l e most).2.2]) := by
  refine s148 _ _ _ _ (condNe (fun he => ?_) fun he => ?_)
  · rw [show dstrM l e most = ([], l, e) by simp only [dstrM, if_pos he]]
    exact ⟨rfl, rfl⟩
  · subst he
    obtain ⟨h1, h2, h3, h4⟩ := lookM_le l most
    refine ASpec.call (look_spec l most hl _) (Les.refl _) ⟨((lookM l most).1, ((lookM l most).2.1 : Nat), (lookM l most).2.2), rfl, rfl, ?_⟩
    have hs : dstrM l 0 most = if (lookM l most).2.2 ≠ 0 then ([], l, (lookM l most).2.2) else
      if (lookM l most).1 > (l.length : Int) - ((lookM l most).2.1 : Nat) then ([], l, 2) else
      ((l.drop (lookM l most).2.1).take (lookM l most).1.toNat, l.drop ((lookM l most).2.1 + (lookM l most).1.toNat), 0) := by simp [dstrM]
    rw [hs]
    generalize lookM l most = q at h1 h2 h3 h4 ⊢
    obtain ⟨n, k, er⟩ := q
    unfold big at hl
    simp only at h1 h2 h3 h4 ⊢
    simp only [B_size]
    refine condE (fun he => ?_) fun he => ?_
    · subst he
      rw [wrap64 (x := (l.length : Int) - ((k : Nat) : Int)) (by omega) (by omega)]
      refine condD (fun hg => ?_) fun hg => ?_
      · rw [if_neg (by simp), if_pos hg]; exact ⟨rfl, rfl⟩
      · rw [if_neg (by simp), if_neg hg]
        have hw : IntKind.wrap .i64 (((k : Nat) : Int) + n) = ((k + n.toNat : Nat) : Int) := by
          rw [wrap64 (x := ((k : Nat) : Int) + n) (by omega) (by omega)]; omega
        refine condNe (fun h => (h rfl).elim) fun _ => ?_
        rw [hw]
        refine needJ (by omega) (needJ (by omega) ?_)
        simp only [Int.toNat_natCast]
        rw [B_extract _ _ _ (by omega), B_extract _ _ _ (Nat.le_refl _), List.take_of_length_le (Nat.le_refl _), List.drop_take, show k + n.toNat - k = n.toNat by omega]
        exact ⟨rfl, rfl⟩
    · refine condNe (fun h => ?_) fun h => (he h).elim
      rw [if_pos he]; exact ⟨rfl, rfl⟩

theorem dnum_spec {H : List AObj} {id : Nat} {l : List UInt8} {e : Int} (most : Int) (hl : l.length ≤ 10 * big) (h : AtD H id l e) :
    ASpec Try.prog 147 [.ptr id 0, .int .i64 most] H (fun r H' => r = .int .i64 (dnumM l e most).1 ∧ H' = H.set id (dr (dnumM l e most).2.1 (dnumM l e most).2.2)) :=
  ASpec.oneH H id (dnum_spec0 l e most hl) _ _ _ rfl rfl h rfl
theorem dstr_spec {H : List AObj} {id : Nat} {l : List UInt8} {e : Int} (most : Int) (hl : l.length ≤ 10 * big) (h : AtD H id l e) :
    ASpec Try.prog 148 [.ptr id 0, .int .i64 most] H (fun r H' => r = .str (B (dstrM l e most).1) ∧ H' = H.set id (dr (dstrM l e most).2.1 (dstrM l e most).2.2)) :=
  ASpec.oneH H id (dstr_spec0 l e most hl) _ _ _ rfl rfl h rfl

def closeM (e : Int) (left : Nat) : Int := if e ≠ 0 then e else if 0 < left then 3 else 0

theorem close_spec {H : List AObj} {id : Nat} {bs : List UInt8} {p : Nat} {e : Int} (hb : bs.length ≤ big) (hp : p ≤ bs.length) (h : At H id bs p e) :
    ASpec Try.prog 146 [.ptr id 0] H (fun r H' => r = .int .i64 (closeM e (bs.length - p)) ∧ H' = H) := by
  have k : ASpec Try.prog 146 [.ptr 0 0] [rd bs p e] (fun r H' => r = .int .i64 (closeM e (bs.length - p)) ∧ H' = [rd bs p e]) := by
    refine s146 _ _ _ _ (ASpec.call (err_spec (id := 0) (bs := bs) (p := p) (e := e) rfl) (Les.refl _) ⟨e, rfl, rfl, ?_⟩)
    refine condNe (fun he => ?_) fun he => ?_
    · rw [show closeM e (bs.length - p) = e from if_pos he]; exact ⟨rfl, rfl⟩
    · subst he
      refine ASpec.call (left_spec (id := 0) (bs := bs) (p := p) (e := 0) hb hp rfl) (Les.refl _) ⟨_, rfl, rfl, ?_⟩
      refine condD (fun hc => ?_) fun hc => ?_
      · rw [show closeM 0 (bs.length - p) = 3 by simp only [closeM]; rw [if_neg (by simp), if_pos (by omega)]]; exact ⟨rfl, rfl⟩
      · rw [show closeM 0 (bs.length - p) = 0 by simp only [closeM]; rw [if_neg (by simp), if_neg (by omega)]]; exact ⟨rfl, rfl⟩
  have := ASpec.oneH H id k [.ptr id 0] (.int .i64 (closeM e (bs.length - p))) (rd bs p e) rfl rfl h rfl
  rw [set_same h] at this
  exact this

theorem condSn {a b : List UInt8} {A C : Prop} (h1 : a ≠ b → A) (h2 : a = b → C) : condP (!(B a).toList == (B b).toList) A C := by
  rw [B_beq]
  by_cases h : a = b
  · rw [beq_iff_eq.2 h]; exact h2 h
  · rw [beq_eq_false_iff_ne.2 h]; exact h1 h

theorem dclose_spec {H : List AObj} {id : Nat} {l : List UInt8} {e : Int} (h : AtD H id l e) :
    ASpec Try.prog 149 [.ptr id 0] H (fun r H' => r = .int .i64 (closeM e l.length) ∧ H' = H) := by
  have k : ASpec Try.prog 149 [.ptr 0 0] [dr l e] (fun r H' => r = .int .i64 (closeM e l.length) ∧ H' = [dr l e]) := by
    refine s149 _ _ _ (condE (fun he => condSn (b := []) (fun hl => ?_) fun hl => ?_) fun he => ?_)
    · subst he
      rw [show closeM 0 l.length = 3 by simp only [closeM]; rw [if_neg (by simp), if_pos (List.length_pos_iff.2 hl)]]; exact ⟨rfl, rfl⟩
    · subst he; subst hl
      exact ⟨rfl, rfl⟩
    · rw [show closeM e l.length = e from if_pos he]; exact ⟨rfl, rfl⟩
  have := ASpec.oneH H id k [.ptr id 0] (.int .i64 (closeM e l.length)) (dr l e) rfl rfl h rfl
  rw [set_same h] at this
  exact this

/-! ### a reader that is none -/

/-! ### the reader and the document's -/

theorem num_doc (bs : List UInt8) (p : Nat) (e most : Int) (hp : p ≤ bs.length) :
    dnumM (bs.drop p) e most = ((numM bs p e most).1, bs.drop (numM bs p e most).2.1, (numM bs p e most).2.2) ∧ (numM bs p e most).2.1 ≤ bs.length := by
  have h := (lookM_le (bs.drop p) most).1
  rw [List.length_drop] at h
  unfold dnumM numM
  split
  · exact ⟨rfl, hp⟩
  · refine ⟨by simp [List.drop_drop], by simp only; omega⟩

theorem str_doc (bs : List UInt8) (p : Nat) (e most : Int) (hp : p ≤ bs.length) :
    dstrM (bs.drop p) e most = ((strM bs p e most).1, bs.drop (strM bs p e most).2.1, (strM bs p e most).2.2) ∧ (strM bs p e most).2.1 ≤ bs.length := by
  obtain ⟨h, h2, -, -⟩ := lookM_le (bs.drop p) most
  rw [List.length_drop] at h
  unfold dstrM strM
  simp only [List.length_drop]
  split
  · exact ⟨rfl, hp⟩
  split
  · exact ⟨rfl, hp⟩
  split
  · rename_i hg
    rw [if_pos (by omega)]
    exact ⟨rfl, hp⟩
  · rename_i hg
    rw [if_neg (by omega)]
    refine ⟨by simp [List.drop_drop, Nat.add_assoc], by simp only; omega⟩

end V
end

section
/- Stamps: what the code and the document sum up, close and open. -/

set_option linter.unusedVariables false
set_option linter.unusedSimpArgs false
open Go Go.Ab Go.Proofs V
namespace Go.Ab

theorem Le.tup {l r : List AV} (h : Les l r) : Le (.tup l) (.tup r) := by
  intro M w loc v hv
  cases hv with
  | tup _ vs hs hr =>
    have hl := h.len
    exact .tup _ vs (by omega) fun i hi => h.get i (by omega) hi M w loc _ (hr i (by omega))

theorem Le.agg {l r : List AV} (h : Les l r) : Le (.agg l) (.agg r) := by
  intro M w loc v hv
  cases hv with
  | agg _ vs hs hr =>
    have hl := h.len
    exact .agg _ vs (by omega) fun i hi => h.get i (by omega) hi M w loc _ (hr i (by omega))

end Go.Ab
namespace S

def fnv : Nat → List UInt8 → Nat
  | n, [] => n
  | n, c :: l => fnv ((n ^^^ c.toNat) * 16777619 % 4294967296) l

abbrev sum (l : List UInt8) : Nat := fnv 2166136261 l
/-! ### xor, bit by bit -/

/-! ### sums -/

/-! ### sealing -/

theorem sealLe {q : Seq} {tip : Tip} {ρ : Nat → Nat} (l : List UInt8) (h : q.toList = l.map encB) : Le (.sl 1 q tip) (AV.ren ρ (.sl 1 (.map encB 0 l) .none)) :=
  Le.sl (s' := Seq.ren ρ (.map encB 0 l)) (by rw [h]; simp [Ab.Seq.toList, Seq.ren, encB, renL, AV.ren]) (.inl rfl) (.inr rfl)

/-! ### opening -/

end S
end

section
/- Labels: runes, kinds, and which names may be. -/

set_option linter.unusedVariables false
set_option linter.unusedSimpArgs false
set_option maxRecDepth 100000
open Go Go.Ab Go.Proofs V
namespace S

def kindM (c : Int) : Int := if 97 ≤ c ∧ c ≤ 122 then 0 else if 945 ≤ c ∧ c ≤ 969 then 1 else if 48 ≤ c ∧ c ≤ 57 then 2 else if c = 45 then 3 else 4

theorem kind_spec (c : Int) (H : List AObj) : ASpec Try.prog 253 [.int .i32 c] H (fun r H' => r = .int .i64 (kindM c) ∧ H' = H) := by
  have k : ASpec Try.prog 253 [.int .i32 c] [] (fun r H' => r = .int .i64 (kindM c) ∧ H' = []) := by
    refine s253 _ _ ?_
    repeat' (first | refine condD (fun _ => ?_) fun _ => ?_ | refine condE (fun _ => ?_) fun _ => ?_)
    all_goals (refine ⟨?_, rfl⟩; congr 1; unfold kindM; repeat' split)
    all_goals omega
  exact ASpec.pureH H k _ _ rfl rfl

theorem rkind_spec (c : Int) (H : List AObj) : ASpec Try.prog 165 [.int .i64 c] H (fun r H' => r = .int .i64 (kindM c) ∧ H' = H) := by
  have k : ASpec Try.prog 165 [.int .i64 c] [] (fun r H' => r = .int .i64 (kindM c) ∧ H' = []) := by
    refine s165 _ _ ?_
    repeat' (first | refine condD (fun _ => ?_) fun _ => ?_ | refine condE (fun _ => ?_) fun _ => ?_)
    all_goals (refine ⟨?_, rfl⟩; congr 1; unfold kindM; repeat' split)
    all_goals omega
  exact ASpec.pureH H k _ _ rfl rfl

theorem kindM_range (c : Int) : 0 ≤ kindM c ∧ kindM c ≤ 4 := by
  unfold kindM; repeat' split
  all_goals omega

/-! ### the rune at a place -/

/-- a byte behind a place -/
abbrev bt (l : List UInt8) (p k : Nat) : Nat := (l.getD (p + k) 0).toNat

theorem bt_lt (l : List UInt8) (p k : Nat) : bt l p k < 256 := (l.getD (p + k) 0).toNat_lt

theorem get_B (l : List UInt8) (j : Nat) : (B l).get! j = l.getD j 0 := by
  show l.toArray[j]! = _
  rw [getElem!_def]
  simp [List.getD]
  rfl

abbrev wideC (a b0 b1 b2 b3 : Nat) : Nat :=
  if 194 ≤ b0 ∧ b0 ≤ 223 then (if 2 ≤ a ∧ (128 ≤ b1 ∧ b1 ≤ 191) then 2 else 0)
  else if 224 ≤ b0 ∧ b0 ≤ 239 then (if 3 ≤ a ∧ (128 ≤ b1 ∧ b1 ≤ 191) ∧ (128 ≤ b2 ∧ b2 ≤ 191) ∧ ¬ (b0 = 224 ∧ b1 < 160) ∧ ¬ (b0 = 237 ∧ 159 < b1) then 3 else 0)
  else if 240 ≤ b0 ∧ b0 ≤ 244 then (if 4 ≤ a ∧ (128 ≤ b1 ∧ b1 ≤ 191) ∧ (128 ≤ b2 ∧ b2 ≤ 191) ∧ (128 ≤ b3 ∧ b3 ≤ 191) ∧ ¬ (b0 = 240 ∧ b1 < 144) ∧ ¬ (b0 = 244 ∧ 143 < b1) then 4 else 0)
  else 0

def wideM (l : List UInt8) (p : Nat) : Nat := wideC (l.length - p) (bt l p 0) (bt l p 1) (bt l p 2) (bt l p 3)

abbrev runeC (w b0 b1 b2 b3 : Nat) : Nat × Nat :=
  if b0 < 128 then (b0, 1) else if w = 0 then (65533, 1) else if w = 2 then (b0 % 32 * 64 + b1 % 64, 2)
  else if w = 3 then ((b0 % 16 * 64 + b1 % 64) * 64 + b2 % 64, 3) else (((b0 % 8 * 64 + b1 % 64) * 64 + b2 % 64) * 64 + b3 % 64, 4)

def runeM (l : List UInt8) (p : Nat) : Nat × Nat := runeC (wideM l p) (bt l p 0) (bt l p 1) (bt l p 2) (bt l p 3)

theorem decode_core (a b0 b1 b2 b3 : Nat) (h0 : b0 < 256) (h1 : b1 < 256) (h2 : b2 < 256) (h3 : b3 < 256) :
    (if b0 < 128 then (b0, 1)
     else if b0 / 32 = 6 ∧ (1 < a ∧ b1 / 64 = 2) then (if 128 ≤ b0 % 32 * 64 + b1 % 64 then (b0 % 32 * 64 + b1 % 64, 2) else (65533, 1))
     else if b0 / 16 = 14 ∧ (1 < a ∧ b1 / 64 = 2) ∧ (2 < a ∧ b2 / 64 = 2) then
       (if 2048 ≤ b0 % 16 * 4096 + b1 % 64 * 64 + b2 % 64 ∧ (b0 % 16 * 4096 + b1 % 64 * 64 + b2 % 64 < 55296 ∨ (57344 ≤ b0 % 16 * 4096 + b1 % 64 * 64 + b2 % 64 ∧ b0 % 16 * 4096 + b1 % 64 * 64 + b2 % 64 ≤ 1114111))
        then (b0 % 16 * 4096 + b1 % 64 * 64 + b2 % 64, 3) else (65533, 1))
     else if b0 / 8 = 30 ∧ (1 < a ∧ b1 / 64 = 2) ∧ (2 < a ∧ b2 / 64 = 2) ∧ (3 < a ∧ b3 / 64 = 2) then
       (if 65536 ≤ b0 % 8 * 262144 + b1 % 64 * 4096 + b2 % 64 * 64 + b3 % 64 ∧ (b0 % 8 * 262144 + b1 % 64 * 4096 + b2 % 64 * 64 + b3 % 64 < 55296 ∨ (57344 ≤ b0 % 8 * 262144 + b1 % 64 * 4096 + b2 % 64 * 64 + b3 % 64 ∧ b0 % 8 * 262144 + b1 % 64 * 4096 + b2 % 64 * 64 + b3 % 64 ≤ 1114111))
        then (b0 % 8 * 262144 + b1 % 64 * 4096 + b2 % 64 * 64 + b3 % 64, 4) else (65533, 1))
     else ((65533 : Nat), (1 : Nat))) = runeC (wideC a b0 b1 b2 b3) b0 b1 b2 b3 := by
  have e2 : ∀ w : Nat, w = 0 ∨ w = 2 ∨ w = 3 ∨ w = 4 ∨ 4 < w ∨ w = 1 := by omega
  by_cases c0 : b0 < 128
  · rw [if_pos c0]; unfold runeC; rw [if_pos c0]
  rw [if_neg c0]
  unfold runeC
  rw [if_neg c0]
  by_cases c1 : 194 ≤ b0 ∧ b0 ≤ 223
  · unfold wideC
    rw [if_pos c1]
    by_cases d : 1 < a ∧ b1 / 64 = 2
    · rw [if_pos ⟨by omega, d⟩, if_pos (by omega), if_pos (show 2 ≤ a ∧ (128 ≤ b1 ∧ b1 ≤ 191) by omega)]; rfl
    · rw [if_neg (fun h => d h.2), if_neg (fun h => d h.2.1), if_neg (fun h => d h.2.1), if_neg (show ¬ (2 ≤ a ∧ (128 ≤ b1 ∧ b1 ≤ 191)) by omega)]; rfl
  by_cases c2 : 224 ≤ b0 ∧ b0 ≤ 239
  · unfold wideC
    rw [if_neg c1, if_pos c2]
    rw [if_neg (show ¬ (b0 / 32 = 6 ∧ (1 < a ∧ b1 / 64 = 2)) by omega)]
    by_cases d : (1 < a ∧ b1 / 64 = 2) ∧ (2 < a ∧ b2 / 64 = 2)
    · rw [if_pos ⟨by omega, d⟩]
      by_cases f : ¬ (b0 = 224 ∧ b1 < 160) ∧ ¬ (b0 = 237 ∧ 159 < b1)
      · rw [if_pos (show 3 ≤ a ∧ (128 ≤ b1 ∧ b1 ≤ 191) ∧ (128 ≤ b2 ∧ b2 ≤ 191) ∧ ¬ (b0 = 224 ∧ b1 < 160) ∧ ¬ (b0 = 237 ∧ 159 < b1) by omega), if_pos (by omega)]
        simp only [if_neg (show ¬ (3 = 0) by omega), if_neg (show ¬ (3 = 2) by omega), if_true]
        rw [show b0 % 16 * 4096 + b1 % 64 * 64 + b2 % 64 = (b0 % 16 * 64 + b1 % 64) * 64 + b2 % 64 by omega]
      · rw [if_neg (show ¬ (3 ≤ a ∧ (128 ≤ b1 ∧ b1 ≤ 191) ∧ (128 ≤ b2 ∧ b2 ≤ 191) ∧ ¬ (b0 = 224 ∧ b1 < 160) ∧ ¬ (b0 = 237 ∧ 159 < b1)) by omega), if_neg (by omega)]; rfl
    · rw [if_neg (fun h => d h.2), if_neg (show ¬ (b0 / 8 = 30 ∧ (1 < a ∧ b1 / 64 = 2) ∧ (2 < a ∧ b2 / 64 = 2) ∧ (3 < a ∧ b3 / 64 = 2)) by omega),
        if_neg (show ¬ (3 ≤ a ∧ (128 ≤ b1 ∧ b1 ≤ 191) ∧ (128 ≤ b2 ∧ b2 ≤ 191) ∧ ¬ (b0 = 224 ∧ b1 < 160) ∧ ¬ (b0 = 237 ∧ 159 < b1)) by omega)]; rfl
  by_cases c3 : 240 ≤ b0 ∧ b0 ≤ 244
  · unfold wideC
    rw [if_neg c1, if_neg c2, if_pos c3]
    rw [if_neg (show ¬ (b0 / 32 = 6 ∧ (1 < a ∧ b1 / 64 = 2)) by omega), if_neg (show ¬ (b0 / 16 = 14 ∧ (1 < a ∧ b1 / 64 = 2) ∧ (2 < a ∧ b2 / 64 = 2)) by omega)]
    by_cases d : (1 < a ∧ b1 / 64 = 2) ∧ (2 < a ∧ b2 / 64 = 2) ∧ (3 < a ∧ b3 / 64 = 2)
    · rw [if_pos ⟨by omega, d⟩]
      by_cases f : ¬ (b0 = 240 ∧ b1 < 144) ∧ ¬ (b0 = 244 ∧ 143 < b1)
      · rw [if_pos (show 4 ≤ a ∧ (128 ≤ b1 ∧ b1 ≤ 191) ∧ (128 ≤ b2 ∧ b2 ≤ 191) ∧ (128 ≤ b3 ∧ b3 ≤ 191) ∧ ¬ (b0 = 240 ∧ b1 < 144) ∧ ¬ (b0 = 244 ∧ 143 < b1) by omega), if_pos (by omega)]
        simp only [if_neg (show ¬ (4 = 0) by omega), if_neg (show ¬ (4 = 2) by omega), if_neg (show ¬ (4 = 3) by omega)]
        rw [show b0 % 8 * 262144 + b1 % 64 * 4096 + b2 % 64 * 64 + b3 % 64 = ((b0 % 8 * 64 + b1 % 64) * 64 + b2 % 64) * 64 + b3 % 64 by omega]
      · rw [if_neg (show ¬ (4 ≤ a ∧ (128 ≤ b1 ∧ b1 ≤ 191) ∧ (128 ≤ b2 ∧ b2 ≤ 191) ∧ (128 ≤ b3 ∧ b3 ≤ 191) ∧ ¬ (b0 = 240 ∧ b1 < 144) ∧ ¬ (b0 = 244 ∧ 143 < b1)) by omega), if_neg (by omega)]; rfl
    · rw [if_neg (fun h => d h.2), if_neg (show ¬ (4 ≤ a ∧ (128 ≤ b1 ∧ b1 ≤ 191) ∧ (128 ≤ b2 ∧ b2 ≤ 191) ∧ (128 ≤ b3 ∧ b3 ≤ 191) ∧ ¬ (b0 = 240 ∧ b1 < 144) ∧ ¬ (b0 = 244 ∧ 143 < b1)) by omega)]; rfl
  · unfold wideC
    rw [if_neg c1, if_neg c2, if_neg c3]
    by_cases d : b0 / 32 = 6 ∧ (1 < a ∧ b1 / 64 = 2)
    · rw [if_pos d, if_neg (by omega)]; rfl
    rw [if_neg d, if_neg (show ¬ (b0 / 16 = 14 ∧ (1 < a ∧ b1 / 64 = 2) ∧ (2 < a ∧ b2 / 64 = 2)) by omega)]
    by_cases f : b0 / 8 = 30 ∧ (1 < a ∧ b1 / 64 = 2) ∧ (2 < a ∧ b2 / 64 = 2) ∧ (3 < a ∧ b3 / 64 = 2)
    · rw [if_pos f, if_neg (by omega)]; rfl
    · rw [if_neg f]; rfl

theorem validN (n : Nat) : Utf8.valid (n : Int) = (decide (n < 55296) || (decide (57344 ≤ n) && decide (n ≤ 1114111))) := by
  unfold Utf8.valid
  rw [Bool.eq_iff_iff]
  simp only [Bool.and_eq_true, Bool.or_eq_true, decide_eq_true_eq]
  omega

set_option maxRecDepth 100000 in
theorem decode_eq (l : List UInt8) (p : Nat) (hp : p < l.length) : Utf8.decode (B l) p = runeM l p := by
  unfold runeM wideM
  rw [← decode_core (l.length - p) _ _ _ _ (bt_lt l p 0) (bt_lt l p 1) (bt_lt l p 2) (bt_lt l p 3)]
  have hb : ∀ k, ((B l).get! (p + k)).toNat = bt l p k := fun k => by rw [get_B]
  have hc : ∀ k, decide (p + k < (B l).size) = decide (k < l.length - p) := fun k => by rw [B_size]; apply decide_eq_decide.2; omega
  unfold Utf8.decode
  simp only [hb, hc, validN]
  generalize bt l p 0 = b0
  generalize bt l p 1 = b1
  generalize bt l p 2 = b2
  generalize bt l p 3 = b3
  generalize l.length - p = a
  simp only [Utf8.runeError, Bool.and_eq_true, Bool.or_eq_true, decide_eq_true_eq, beq_iff_eq, ge_iff_le, and_assoc]

theorem runeM_width (l : List UInt8) (p : Nat) : 1 ≤ (runeM l p).2 ∧ (runeM l p).2 ≤ 4 := by
  unfold runeM runeC
  repeat' split
  all_goals simp

theorem wideM_cases (l : List UInt8) (p : Nat) : wideM l p = 0 ∨ (wideM l p = 2 ∧ 194 ≤ bt l p 0 ∧ bt l p 0 ≤ 223 ∧ p + 2 ≤ l.length) ∨
    (wideM l p = 3 ∧ 224 ≤ bt l p 0 ∧ bt l p 0 ≤ 239 ∧ p + 3 ≤ l.length ∧ (128 ≤ bt l p 1 ∧ bt l p 1 ≤ 191) ∧ ¬ (bt l p 0 = 224 ∧ bt l p 1 < 160)) ∨
    (wideM l p = 4 ∧ 240 ≤ bt l p 0 ∧ bt l p 0 ≤ 244 ∧ p + 4 ≤ l.length ∧ (128 ≤ bt l p 1 ∧ bt l p 1 ≤ 191) ∧ ¬ (bt l p 0 = 240 ∧ bt l p 1 < 144)) := by
  unfold wideM wideC
  repeat' split
  all_goals omega

/-- a rune that a name may have has two bytes at most -/
theorem runeM_small {l : List UInt8} {p : Nat} (h : kindM ((runeM l p).1 : Nat) ≤ 3) : (runeM l p).2 ≤ 2 := by
  have hk : ((runeM l p).1 : Int) ≤ 969 := by
    unfold kindM at h
    repeat' split at h
    all_goals omega
  rcases wideM_cases l p with e | ⟨e, h1⟩ | ⟨e, h1, h2, h3, h4, h5⟩ | ⟨e, h1, h2, h3, h4, h5⟩
  · unfold runeM runeC
    repeat' split
    all_goals simp_all
  · unfold runeM runeC
    repeat' split
    all_goals simp_all
  · exfalso
    unfold runeM runeC at hk
    rw [e] at hk
    rw [if_neg (by omega), if_neg (by omega), if_neg (by omega), if_pos rfl] at hk
    simp only at hk
    omega
  · exfalso
    unfold runeM runeC at hk
    rw [e] at hk
    rw [if_neg (by omega), if_neg (by omega), if_neg (by omega), if_neg (by omega)] at hk
    simp only at hk
    omega

/-! ### the document's walk over a rune's bytes -/

section
variable {l : List UInt8} {p : Nat} {Post : AV → List AObj → Prop}

theorem btInt (hl : l.length ≤ 10 * big) (i : Nat) (hp : p + i < l.length) :
    IntKind.wrap .i64 ((p : Int) + (i : Int)) = ((p + i : Nat) : Int) := by
  unfold big at hl
  rw [wrap64 (by omega) (by omega)]; simp

theorem btGet (i : Nat) : ((List.getD (Array.toList (ByteArray.data (B l))) (p + i) 0).toNat : Int) = (bt l p i : Nat) := rfl

def nOf (b0 : Nat) : Nat := if 194 ≤ b0 ∧ b0 ≤ 223 then 2 else if 224 ≤ b0 ∧ b0 ≤ 239 then 3 else if 240 ≤ b0 ∧ b0 ≤ 244 then 4 else 0

theorem nOf_cases (b0 : Nat) : (nOf b0 = 2 ∧ 194 ≤ b0 ∧ b0 ≤ 223) ∨ (nOf b0 = 3 ∧ 224 ≤ b0 ∧ b0 ≤ 239) ∨ (nOf b0 = 4 ∧ 240 ≤ b0 ∧ b0 ≤ 244) ∨ (nOf b0 = 0 ∧ ¬ (194 ≤ b0 ∧ b0 ≤ 244)) := by
  unfold nOf
  repeat' split
  all_goals omega

theorem wide_short (h : l.length - p < nOf (bt l p 0) ∨ nOf (bt l p 0) = 0) : wideM l p = 0 := by
  have := nOf_cases (bt l p 0)
  unfold wideM wideC
  repeat' split
  all_goals omega

theorem wide_bad {i : Nat} (h1 : 1 ≤ i) (h2 : i < nOf (bt l p 0)) (h : bt l p i < 128 ∨ 191 < bt l p i) : wideM l p = 0 := by
  have := nOf_cases (bt l p 0)
  have hi : i = 1 ∨ i = 2 ∨ i = 3 := by omega
  unfold wideM wideC
  rcases hi with rfl | rfl | rfl <;> repeat' split
  all_goals omega

theorem wideC_no {a b0 b1 b2 b3 : Nat} (h : (b0 = 224 ∧ b1 < 160) ∨ (b0 = 237 ∧ 159 < b1) ∨ (b0 = 240 ∧ b1 < 144) ∨ (b0 = 244 ∧ 143 < b1)) : wideC a b0 b1 b2 b3 = 0 := by
  unfold wideC
  repeat' split
  all_goals omega

theorem wideC_yes {a n b0 b1 b2 b3 : Nat} (hcs : (n = 2 ∧ 194 ≤ b0 ∧ b0 ≤ 223) ∨ (n = 3 ∧ 224 ≤ b0 ∧ b0 ≤ 239) ∨ (n = 4 ∧ 240 ≤ b0 ∧ b0 ≤ 244)) (ha : n ≤ a) (hc1 : 128 ≤ b1 ∧ b1 ≤ 191) (hc2 : 2 < n → 128 ≤ b2 ∧ b2 ≤ 191) (hc3 : 3 < n → 128 ≤ b3 ∧ b3 ≤ 191)
    (k1 : ¬ (b0 = 224 ∧ b1 < 160)) (k2 : ¬ (b0 = 237 ∧ 159 < b1)) (k3 : ¬ (b0 = 240 ∧ b1 < 144)) (k4 : ¬ (b0 = 244 ∧ 143 < b1)) : wideC a b0 b1 b2 b3 = n := by
  unfold wideC
  rcases hcs with ⟨rfl, g1, g2⟩ | ⟨rfl, g1, g2⟩ | ⟨rfl, g1, g2⟩
  · rw [if_pos ⟨g1, g2⟩, if_pos ⟨ha, hc1⟩]
  · rw [if_neg (by omega), if_pos ⟨g1, g2⟩, if_pos ⟨ha, hc1, hc2 (by omega), k1, k2⟩]
  · rw [if_neg (by omega), if_neg (by omega), if_pos ⟨g1, g2⟩, if_pos ⟨ha, hc1, hc2 (by omega), hc3 (by omega), k3, k4⟩]

theorem w16 (hl : l.length ≤ 10 * big) (hn : nOf (bt l p 0) ≠ 0) (hp : p + nOf (bt l p 0) ≤ l.length) (hc : ∀ i, 1 ≤ i → i < nOf (bt l p 0) → 128 ≤ bt l p i ∧ bt l p i ≤ 191) (h : Post (.int .i64 (wideM l p : Nat)) []) :
    AWP Try.prog 96 0 c322_16 [(0, .str (B l)), (1, .int .i64 p), (5, .int .i64 (nOf (bt l p 0) : Nat)), (6, .int .i64 (bt l p 0 : Nat))] [] (q322_0 0 Post) := by
  have hcs := nOf_cases (bt l p 0)
  have h256 := bt_lt l p 1
  have e1 : IntKind.wrap .i64 ((p : Int) + 1) = ((p + 1 : Nat) : Int) := by unfold big at hl; rw [wrap64 (by omega) (by omega)]; simp
  have hc1 := hc 1 (by omega) (by omega)
  have hc2 : 2 < nOf (bt l p 0) → 128 ≤ bt l p 2 ∧ bt l p 2 ≤ 191 := hc 2 (by omega)
  have hc3 : 3 < nOf (bt l p 0) → 128 ≤ bt l p 3 ∧ bt l p 3 ≤ 191 := hc 3 (by omega)
  have hcs3 : (nOf (bt l p 0) = 2 ∧ 194 ≤ bt l p 0 ∧ bt l p 0 ≤ 223) ∨ (nOf (bt l p 0) = 3 ∧ 224 ≤ bt l p 0 ∧ bt l p 0 ≤ 239) ∨ (nOf (bt l p 0) = 4 ∧ 240 ≤ bt l p 0 ∧ bt l p 0 ≤ 244) := by omega
  have fin0 : (bt l p 0 = 224 ∧ bt l p 1 < 160) ∨ (bt l p 0 = 237 ∧ 159 < bt l p 1) ∨ (bt l p 0 = 240 ∧ bt l p 1 < 144) ∨ (bt l p 0 = 244 ∧ 143 < bt l p 1) → Post (.int .i64 0) [] := by
    intro hh
    have := wideC_no (a := l.length - p) (b2 := bt l p 2) (b3 := bt l p 3) hh
    unfold wideM at h
    rw [this] at h
    exact h
  have finn : ¬ (bt l p 0 = 224 ∧ bt l p 1 < 160) → ¬ (bt l p 0 = 237 ∧ 159 < bt l p 1) → ¬ (bt l p 0 = 240 ∧ bt l p 1 < 144) → ¬ (bt l p 0 = 244 ∧ 143 < bt l p 1) → Post (.int .i64 (nOf (bt l p 0) : Nat)) [] := by
    intro k1 k2 k3 k4
    have := wideC_yes (a := l.length - p) (b2 := bt l p 2) (b3 := bt l p 3) hcs3 (by omega) hc1 hc2 hc3 k1 k2 k3 k4
    unfold wideM at h
    rw [this] at h
    exact h
  have hn2 : 2 ≤ nOf (bt l p 0) := by omega
  clear hc hcs hcs3 hc2 hc3 h
  refine v322_16 _ _ _ _ _ _ ?_
  rw [e1, Int.toNat_natCast, btGet 1, wrapN (n := bt l p 1) (by omega)]
  refine needJ ⟨by omega, by rw [B_size]; omega⟩ ?_
  generalize nOf (bt l p 0) = n at *
  generalize bt l p 0 = b0 at *
  generalize bt l p 1 = b1 at *
  repeat' (first | refine condD (fun _ => ?_) fun _ => ?_ | refine condE (fun _ => ?_) fun _ => ?_)
  all_goals first
    | exact fin0 (by omega)
    | exact finn (by omega) (by omega) (by omega) (by omega)

theorem w12 (hl : l.length ≤ 10 * big) (hn : nOf (bt l p 0) ≠ 0) (hp : p + nOf (bt l p 0) ≤ l.length) (h : Post (.int .i64 (wideM l p : Nat)) []) :
    ∀ (m i : Nat), m + i = nOf (bt l p 0) → 1 ≤ i → (∀ j, 1 ≤ j → j < i → 128 ≤ bt l p j ∧ bt l p j ≤ 191) →
    AWP Try.prog 96 0 c322_12 [(0, .str (B l)), (1, .int .i64 p), (5, .int .i64 (nOf (bt l p 0) : Nat)), (6, .int .i64 (bt l p 0 : Nat)), (7, .int .i64 i)] [] (q322_2 0 Post) := by
  have hcs := nOf_cases (bt l p 0)
  intro m
  induction m with
  | zero =>
    intro i hm h1 hc
    refine v322_12 _ _ _ _ _ _ _ (condD (fun hi => by omega) fun _ => w16 hl hn hp (fun j a b => hc j a (by omega)) h)
  | succ m ih =>
    intro i hm h1 hc
    have e1 := btInt (p := p) hl i (by omega)
    refine v322_12 _ _ _ _ _ _ _ (condD (fun hi => ?_) fun hi => by omega)
    rw [e1, Int.toNat_natCast, btGet i]
    refine needJ ⟨by omega, by rw [B_size]; omega⟩ (condD (fun hb => ?_) fun hb => needJ ⟨by omega, by rw [B_size]; omega⟩ (condD (fun hb2 => ?_) fun hb2 => ?_))
    · rw [wide_bad (l := l) (p := p) h1 (by omega) (.inl (by omega))] at h; exact h
    · rw [wide_bad (l := l) (p := p) h1 (by omega) (.inr (by omega))] at h; exact h
    · rw [show IntKind.wrap .i64 ((i : Int) + 1) = ((i + 1 : Nat) : Int) by rw [wrap64 (by omega) (by omega)]; simp]
      refine ih (i + 1) (by omega) (by omega) (fun j a b => ?_)
      by_cases e : j = i
      · subst e; omega
      · exact hc j a (by omega)

theorem w9 (hl : l.length ≤ 10 * big) (hp : p < l.length) (h : Post (.int .i64 (wideM l p : Nat)) []) :
    AWP Try.prog 96 0 c322_9 [(0, .str (B l)), (1, .int .i64 p), (5, .int .i64 (nOf (bt l p 0) : Nat)), (6, .int .i64 (bt l p 0 : Nat))] [] (q322_0 0 Post) := by
  have hcs := nOf_cases (bt l p 0)
  have hl' := hl
  unfold big at hl'
  refine v322_9 _ _ _ _ _ _ (condE (fun e => ?_) fun e => ?_)
  · rw [wide_short (l := l) (p := p) (.inr (by omega))] at h; exact h
  rw [B_size, wrap64 (x := (l.length : Int) - (p : Int)) (by omega) (by omega)]
  refine condD (fun e2 => ?_) fun e2 => ?_
  · rw [wide_short (l := l) (p := p) (.inl (by omega))] at h; exact h
  · refine v322_11 _ _ _ _ _ _ ?_
    exact w12 hl (by omega) (by omega) h (nOf (bt l p 0) - 1) 1 (by omega) (by omega) (fun j a b => by omega)

theorem wide_spec0 (hl : l.length ≤ 10 * big) (hp : p < l.length) : ASpec Try.prog 322 [.str (B l), .int .i64 p] [] (fun r H' => r = .int .i64 (wideM l p : Nat) ∧ H' = []) := by
  have h256 := bt_lt l p 0
  have hcs := nOf_cases (bt l p 0)
  have k9 : ∀ n : Int, n = (nOf (bt l p 0) : Nat) → AWP Try.prog 96 0 c322_9 [(0, .str (B l)), (1, .int .i64 p), (5, .int .i64 n), (6, .int .i64 (bt l p 0 : Nat))] [] (q322_0 0 (fun r H' => r = .int .i64 (wideM l p : Nat) ∧ H' = [])) := by
    intro n e; subst e; exact w9 hl hp ⟨rfl, rfl⟩
  refine s322 _ _ _ (needJ ⟨by omega, by rw [B_size]; omega⟩ ?_)
  rw [Int.toNat_natCast, show ((List.getD (Array.toList (ByteArray.data (B l))) p 0).toNat : Int) = (bt l p 0 : Nat) from rfl, wrapN (n := bt l p 0) (by omega)]
  generalize nOf (bt l p 0) = n at *
  generalize bt l p 0 = b0 at *
  have k7 : ∀ m : Int, m = (if 240 ≤ b0 ∧ b0 ≤ 244 then m else (n : Int)) → AWP Try.prog 96 0 c322_7 [(0, .str (B l)), (1, .int .i64 p), (5, .int .i64 m), (6, .int .i64 (b0 : Nat))] [] (q322_0 0 (fun r H' => r = .int .i64 (wideM l p : Nat) ∧ H' = [])) := by
    intro m hm
    refine v322_7 _ _ _ _ _ _ (condD (fun _ => condD (fun _ => k9 _ (by omega)) fun _ => k9 _ ?_) fun _ => k9 _ ?_)
    · rw [if_neg (by omega)] at hm; exact hm
    · rw [if_neg (by omega)] at hm; exact hm
  have k5 : ∀ m : Int, m = (if 224 ≤ b0 ∧ b0 ≤ 244 then m else (n : Int)) → AWP Try.prog 96 0 c322_5 [(0, .str (B l)), (1, .int .i64 p), (5, .int .i64 m), (6, .int .i64 (b0 : Nat))] [] (q322_0 0 (fun r H' => r = .int .i64 (wideM l p : Nat) ∧ H' = [])) := by
    intro m hm
    refine v322_5 _ _ _ _ _ _ (condD (fun _ => condD (fun _ => k7 _ ?_) fun _ => k7 _ ?_) fun _ => k7 _ ?_)
    · rw [if_neg (by omega)]; omega
    · split
      · rfl
      · rw [if_neg (by omega)] at hm; exact hm
    · split
      · rfl
      · rw [if_neg (by omega)] at hm; exact hm
  refine condD (fun _ => condD (fun _ => k5 _ ?_) fun _ => k5 _ ?_) fun _ => k5 _ ?_
  · rw [if_neg (by omega)]; omega
  · split
    · rfl
    · omega
  · split
    · rfl
    · omega

theorem wide_spec (hl : l.length ≤ 10 * big) (hp : p < l.length) (H : List AObj) : ASpec Try.prog 322 [.str (B l), .int .i64 p] H (fun r H' => r = .int .i64 (wideM l p : Nat) ∧ H' = H) :=
  ASpec.pureH H (wide_spec0 hl hp) _ _ rfl rfl

end
end S
end

section
/- Which names may be: the code's walk and the document's. -/

set_option linter.unusedVariables false
set_option linter.unusedSimpArgs false
set_option maxRecDepth 100000
open Go Go.Ab Go.Proofs V
namespace S
theorem condBn {b : Bool} {A C : Prop} (h1 : b = false → A) (h2 : b = true → C) : condP (!b) A C := by cases b <;> simp_all [condP]
section
variable {l : List UInt8} {p : Nat}

def foldx (l : List UInt8) (p : Nat) : Nat → Nat → Nat → Nat
  | 0, _, x => x
  | m + 1, i, x => foldx l p m (i + 1) (x * 64 + bt l p i % 64)

theorem u12 {Post : AV → List AObj → Prop} (hl : l.length ≤ 10 * big) {n : Nat} (hn : n ≤ 4) (hp : p + n ≤ l.length) : ∀ (m i x : Nat), m + i = n → x < 64 ^ i → Post (.tup [.int .i64 (foldx l p m i x : Nat), .int .i64 n]) [] →
    AWP Try.prog 58 0 c261_12 [(0, .str (B l)), (1, .int .i64 p), (6, .int .i64 n), (7, .int .i64 x), (8, .int .i64 i)] [] (q261_2 0 Post) := by
  intro m
  induction m with
  | zero =>
    intro i x hm hx h
    exact v261_12 _ _ _ _ _ _ _ (condD (fun hi => by omega) fun _ => h)
  | succ m ih =>
    intro i x hm hx h
    have e1 := btInt (p := p) hl i (by omega)
    have h256 := bt_lt l p i
    have h4 : (64 : Nat) ^ i ≤ 64 ^ 4 := Nat.pow_le_pow_right (by omega) (by omega)
    have e4 : (64 : Nat) ^ 4 = 16777216 := by decide
    have hn := ih (i + 1) (x * 64 + bt l p i % 64) (by omega) (by rw [Nat.pow_succ]; omega) h
    refine v261_12 _ _ _ _ _ _ _ (condD (fun hi => ?_) fun hi => by omega)
    rw [e1, Int.toNat_natCast, btGet i]
    refine needJ ⟨by omega, by rw [B_size]; omega⟩ (needJ (by decide) ?_)
    generalize bt l p i = b at h256 hn ⊢
    have m64 : Int.tmod (b : Int) 64 = ((b % 64 : Nat) : Int) := tmodN b 64
    rw [wrapN (n := b) (by omega), m64, wrap64 (x := (x : Int) * 64) (by omega) (by omega), wrap64 (x := (x : Int) * 64 + ((b % 64 : Nat) : Int)) (by omega) (by omega)]
    rw [show IntKind.wrap .i64 ((i : Int) + 1) = ((i + 1 : Nat) : Int) by rw [wrap64 (by omega) (by omega)]; simp]
    rw [show (x : Int) * 64 + ((b % 64 : Nat) : Int) = ((x * 64 + b % 64 : Nat) : Int) by simp]
    exact hn

theorem rune_spec0 (hl : l.length ≤ 10 * big) (hp : p < l.length) :
    ASpec Try.prog 261 [.str (B l), .int .i64 p] [] (fun r H' => r = .tup [.int .i64 ((runeM l p).1 : Nat), .int .i64 ((runeM l p).2 : Nat)] ∧ H' = []) := by
  have h256 := bt_lt l p 0
  have hin : (0 : Int) ≤ (p : Int) ∧ (p : Int) < ((B l).size : Int) := ⟨by omega, by rw [B_size]; omega⟩
  have hcs := wideM_cases l p
  have hR : runeM l p = runeC (wideM l p) (bt l p 0) (bt l p 1) (bt l p 2) (bt l p 3) := rfl
  refine s261 _ _ _ (needJ hin ?_)
  rw [Int.toNat_natCast, show ((List.getD (Array.toList (ByteArray.data (B l))) p 0).toNat : Int) = (bt l p 0 : Nat) from rfl, wrapN (n := bt l p 0) (by omega)]
  have m32 : Int.tmod (bt l p 0 : Nat) 32 = ((bt l p 0 % 32 : Nat) : Int) := tmodN _ 32
  have m16 : Int.tmod (bt l p 0 : Nat) 16 = ((bt l p 0 % 16 : Nat) : Int) := tmodN _ 16
  have m8 : Int.tmod (bt l p 0 : Nat) 8 = ((bt l p 0 % 8 : Nat) : Int) := tmodN _ 8
  refine condD (fun hc => needJ hin ?_) fun hc => ?_
  · rw [hR, runeC, if_pos (by omega)]
    exact ⟨rfl, rfl⟩
  refine ASpec.call (wide_spec hl hp []) (Les.refl _) ⟨_, rfl, rfl, condE (fun h0 => ?_) fun h0 => needJ hin (needJ (by decide) ?_)⟩
  · rw [hR, runeC, if_neg (by omega), if_pos (by omega)]
    exact ⟨rfl, rfl⟩
  have key : ∀ (n x0 : Nat), n = wideM l p → x0 < 64 → foldx l p (n - 1) 1 x0 = (runeM l p).1 → n = (runeM l p).2 →
      AWP Try.prog 58 0 c261_11 [(0, .str (B l)), (1, .int .i64 p), (6, .int .i64 n), (7, .int .i64 x0)] [] (q261_0 0 (fun r H' => r = .tup [.int .i64 ((runeM l p).1 : Nat), .int .i64 ((runeM l p).2 : Nat)] ∧ H' = [])) := by
    intro n x0 hn hx e1 e2
    refine v261_11 _ _ _ _ _ _ (u12 hl (n := n) (by omega) (by omega) (n - 1) 1 x0 (by omega) hx ?_)
    rw [e1, e2]
    exact ⟨rfl, rfl⟩
  refine condE (fun h3 => needJ hin (needJ (by decide) ?_)) fun h3 => ?_
  · have hw : wideM l p = 3 := by omega
    rw [m16]
    refine v261_9 _ _ _ _ _ _ (condE (fun h => by omega) fun _ => key _ _ rfl (by omega) ?_ ?_)
    · rw [hR, runeC, if_neg (by omega), if_neg (by omega), if_neg (by omega), if_pos hw, hw]; rfl
    · rw [hR, runeC, if_neg (by omega), if_neg (by omega), if_neg (by omega), if_pos hw, hw]
  · rw [m32]
    refine v261_9 _ _ _ _ _ _ (condE (fun h => needJ hin (needJ (by decide) ?_)) fun h => key _ _ rfl (by omega) ?_ ?_)
    · have hw : wideM l p = 4 := by omega
      rw [Int.toNat_natCast, show ((List.getD (Array.toList (ByteArray.data (B l))) p 0).toNat : Int) = (bt l p 0 : Nat) from rfl, wrapN (n := bt l p 0) (by omega), m8]
      refine key _ _ rfl (by omega) ?_ ?_
      · rw [hR, runeC, if_neg (by omega), if_neg (by omega), if_neg (by omega), if_neg (by omega), hw]; rfl
      · rw [hR, runeC, if_neg (by omega), if_neg (by omega), if_neg (by omega), if_neg (by omega), hw]
    · have hw : wideM l p = 2 := by omega
      rw [hR, runeC, if_neg (by omega), if_neg (by omega), if_pos hw, hw]; rfl
    · have hw : wideM l p = 2 := by omega
      rw [hR, runeC, if_neg (by omega), if_neg (by omega), if_pos hw, hw]

theorem rune_spec (hl : l.length ≤ 10 * big) (hp : p < l.length) (H : List AObj) :
    ASpec Try.prog 261 [.str (B l), .int .i64 p] H (fun r H' => r = .tup [.int .i64 ((runeM l p).1 : Nat), .int .i64 ((runeM l p).2 : Nat)] ∧ H' = H) :=
  ASpec.pureH H (rune_spec0 hl hp) _ _ rfl rfl

/-! ### all runes -/

def runesF : Nat → List UInt8 → Nat → List Int
  | 0, _, _ => []
  | f + 1, l, p => if p < l.length then ((runeM l p).1 : Int) :: runesF f l (p + (runeM l p).2) else []
def runesM (l : List UInt8) : List Int := runesF l.length l 0

theorem leAppI {l : List Int} {x : Int} {H : List AObj} : Le (.sl 1 (.app (.map encI 0 l) (.raw [[.int .i64 x]])) (.tok 1)) (AV.ren (selR [1] H.length) (.sl 1 (.map encI 0 (l ++ [x])) (.tok 0))) := by
  refine Le.sl ?_ (.inl rfl) (.inl rfl)
  simp [Ab.Seq.toList, Seq.ren, encI, renL, AV.ren]

theorem runes3 {Post : AV → List AObj → Prop} (hl : l.length ≤ 1000000) : ∀ (f p : Nat) (acc : List Int), l.length - p ≤ f → acc.length ≤ p → p ≤ l.length + 4 → Post (.sl 1 (.map encI 0 (acc ++ runesF f l p)) (.tok 0)) [.tok] →
    AWP Try.prog 25 0 c164_3 [(0, .str (B l)), (3, .sl 1 (.map encI 0 acc) (.tok 0)), (4, .int .i64 p)] [.tok] (q164_2 0 Post) := by
  intro f
  induction f with
  | zero =>
    intro p acc hf ha hp h
    refine v164_3 _ _ _ _ _ (condD (fun hc => by rw [B_size] at hc; omega) fun _ => ?_)
    simpa [runesF] using h
  | succ f ih =>
    intro p acc hf ha hp h
    refine v164_3 _ _ _ _ _ (condD (fun hc => ?_) fun hc => ?_)
    · rw [B_size] at hc
      have hpl : p < l.length := by omega
      have hw := runeM_width l p
      refine ASpec.call (rune_spec (by unfold big; omega) hpl _) (Les.refl _) ⟨(((runeM l p).1 : Int), ((runeM l p).2 : Int)), rfl, rfl, needJ (by omega) ?_⟩
      rw [show IntKind.wrap .i64 ((p : Int) + ((runeM l p).2 : Int)) = ((p + (runeM l p).2 : Nat) : Int) by rw [wrap64 (by omega) (by omega)]; simp]
      refine AWP.shape [1] [(0, .str (B l)), (3, .sl 1 (.map encI 0 (acc ++ [((runeM l p).1 : Int)])) (.tok 0)), (4, .int .i64 (p + (runeM l p).2 : Nat))] _ selTok ⟨rfl, Le.refl _, rfl, leAppI, rfl, Le.refl _, trivial⟩ (ih (p + (runeM l p).2) (acc ++ [((runeM l p).1 : Int)]) (by omega) (by simp; omega) (by omega) ?_)
      simp only [runesF, if_pos hpl] at h
      simpa using h
    · rw [B_size] at hc
      simp only [runesF, if_neg (show ¬ p < l.length by omega)] at h
      simpa using h

theorem runes_spec (hl : l.length ≤ 1000000) (H : List AObj) : ASpec Try.prog 164 [.str (B l)] H (fun r H' => r = .sl 1 (.map encI 0 (runesM l)) .none ∧ H' = H) := by
  have k : ASpec Try.prog 164 [.str (B l)] [] (fun r H' => r = .sl 1 (.map encI 0 (runesM l)) .none ∧ H' = []) := by
    refine ASpec.sel (s164 _ _ ?_)
    refine AWP.re (ReSt.tok (k := 3) (q' := .map encI 0 []) (sz' := 1) (s2 := [(0, .str (B l)), (3, .sl 1 (.map encI 0 []) (.tok 0)), (4, .int .i64 0)]) rfl (.inl rfl) rfl (.inr rfl) (fun d hd => ?_) rfl) ?_
    · simp only [Ab.get]
      have e : Nat.beq 3 d = false := by
        cases hx : Nat.beq 3 d with
        | false => rfl
        | true => exact absurd (Nat.eq_of_beq_eq_true hx).symm hd
      rw [e]; rfl
    · refine runes3 hl l.length 0 [] (by omega) (by simp) (by omega) ?_
      refine ⟨[], [], .sl 1 (.map encI 0 (runesM l)) .none, Sel.none, ?_, rfl, rfl⟩
      exact Le.sl (s' := Seq.ren _ (.map encI 0 (runesM l))) (by simp [Ab.Seq.toList, Seq.ren, encI, renL, AV.ren, runesM]) (.inl rfl) (.inr rfl)
  exact ASpec.pureH H k _ _ rfl rfl

/-! ### names -/

def fitF (n : Nat) : List Int → Bool
  | [] => decide (0 < n)
  | c :: r => if 3 < kindM c ∨ (n = 0 ∧ 1 < kindM c) ∨ n = 12 then false else fitF (n + 1) r

def fitM (l : List UInt8) : Bool := fitF 0 (runesM l)

theorem fit3 {Post : AV → List AObj → Prop} (hl : l.length ≤ 10 * big) : ∀ (f p n : Nat), l.length - p ≤ f → n ≤ 12 → (∀ q, Post (.bool (fitF n (runesF f l p))) [.siter (B l) q]) →
    AWP Try.prog 32 0 c154_3 [(3, .int .i64 n), (8, .ptr 0 0)] [.siter (B l) p] (q154_2 0 Post) := by
  intro f
  induction f with
  | zero =>
    intro p n hf hn h
    refine v154_3 _ _ _ _ _ (condD (fun hc => by rw [B_size] at hc; omega) fun _ => ?_)
    have := h p
    simp only [runesF, fitF] at this
    rw [show decide ((n : Int) > 0) = decide (0 < n) from decide_eq_decide.2 (by omega)]
    exact this
  | succ f ih =>
    intro p n hf hn h
    refine v154_3 _ _ _ _ _ (condD (fun hc => ?_) fun hc => ?_)
    · rw [B_size] at hc
      rw [decode_eq l p hc]
      have hw := runeM_width l p
      simp only [runesF, if_pos hc, fitF] at h
      refine ASpec.call (kind_spec _ _) (Les.refl _) ⟨_, rfl, rfl, ?_⟩
      generalize kindM ((runeM l p).1 : Nat) = k at h ⊢
      have no : (3 < k ∨ (n = 0 ∧ 1 < k) ∨ n = 12) → Post (.bool false) [.siter (B l) (p + (runeM l p).2)] := by
        intro hh
        have := h (p + (runeM l p).2)
        rw [if_pos hh] at this
        exact this
      have yes : ¬ (3 < k ∨ (n = 0 ∧ 1 < k) ∨ n = 12) → AWP Try.prog 32 0 c154_3 [(3, .int .i64 (IntKind.wrap .i64 ((n : Int) + 1))), (8, .ptr 0 0)] [.siter (B l) (p + (runeM l p).2)] (q154_2 0 Post) := by
        intro hh
        rw [show IntKind.wrap .i64 ((n : Int) + 1) = ((n + 1 : Nat) : Int) by rw [wrap64 (by omega) (by omega)]; simp]
        refine ih (p + (runeM l p).2) (n + 1) (by omega) (by omega) (fun q => ?_)
        have := h q
        rw [if_neg hh] at this
        exact this
      refine condD (fun h1 => no (.inl h1)) fun h1 => condE (fun h2 => condD (fun h3 => no (.inr (.inl ⟨by omega, h3⟩))) fun h3 => condE (fun h4 => no (.inr (.inr (by omega)))) fun h4 => yes (by omega)) fun h2 => condE (fun h4 => no (.inr (.inr (by omega)))) fun h4 => yes (by omega)
    · rw [B_size] at hc
      have := h p
      simp only [runesF, if_neg hc, fitF] at this
      rw [show decide ((n : Int) > 0) = decide (0 < n) from decide_eq_decide.2 (by omega)]
      exact this

theorem fit_spec (hl : l.length ≤ 10 * big) (H : List AObj) : ASpec Try.prog 154 [.str (B l)] H (fun r H' => r = .bool (fitM l) ∧ H' = H) := by
  have k : ASpec Try.prog 154 [.str (B l)] [] (fun r H' => r = .bool (fitM l) ∧ H' = []) := by
    refine ASpec.sel (s154 _ _ (fit3 hl l.length 0 0 (by omega) (by omega) (fun q => ⟨[], [], .bool (fitM l), Sel.none, Le.refl _, rfl, rfl⟩)))
  exact ASpec.pureH H k _ _ rfl rfl

theorem fitF_short (hl : True) : ∀ (f p n : Nat), l.length - p ≤ f → n ≤ 12 → fitF n (runesF f l p) = true → l.length - p ≤ 2 * (12 - n) := by
  intro f
  induction f with
  | zero => intro p n hf hn h; omega
  | succ f ih =>
    intro p n hf hn h
    by_cases hc : p < l.length
    · simp only [runesF, if_pos hc, fitF] at h
      split at h
      · cases h
      rename_i hh
      have hw := runeM_small (l := l) (p := p) (by omega)
      have := ih (p + (runeM l p).2) (n + 1) (by have := runeM_width l p; omega) (by omega) h
      omega
    · omega

theorem fitM_short (h : fitM l = true) : l.length ≤ 24 := by
  have := fitF_short (l := l) trivial l.length 0 0 (by omega) (by omega) h
  omega

/-- the document's: by places in a list -/
def fitD (i : Nat) : List Int → Bool
  | [] => true
  | c :: r => if kindM c = 4 ∨ (i = 0 ∧ 1 < kindM c) then false else fitD (i + 1) r

theorem fitF_fitD : ∀ (r : List Int) (i : Nat), i ≤ 12 → fitF i r = (fitD i r && decide (1 ≤ i + r.length) && decide (i + r.length ≤ 12))
  | [], i, hi => by
    simp only [fitF, fitD, List.length_nil, Nat.add_zero, Bool.true_and]
    rw [Bool.eq_iff_iff]; simp; omega
  | c :: r, i, hi => by
    have hk := kindM_range c
    simp only [fitF, fitD, List.length_cons]
    by_cases h1 : kindM c = 4 ∨ (i = 0 ∧ 1 < kindM c)
    · rw [if_pos h1, if_pos (by omega)]; rfl
    · rw [if_neg h1]
      by_cases h2 : i = 12
      · rw [if_pos (by omega)]
        rw [Bool.eq_iff_iff]; simp; omega
      · rw [if_neg (by omega), fitF_fitD r (i + 1) (by omega), show i + 1 + r.length = i + (r.length + 1) by omega]

theorem rfit5 {ls : List Int} {Post : AV → List AObj → Prop} (hl : ls.length ≤ 1000000) : ∀ (m i : Nat), m + i = ls.length → Post (.bool (fitD i (ls.drop i) && (decide (1 ≤ ls.length) && decide (ls.length ≤ 12)))) [] →
    AWP Try.prog 42 0 c39_5 [(3, .sl 1 (.map encI 0 ls) .none), (4, .int .i64 i)] [] (q39_2 0 Post) := by
  intro m
  induction m with
  | zero =>
    intro i hm h
    refine v39_5 _ _ _ _ (condD (fun hc => by omega) fun _ => ?_)
    rw [List.drop_eq_nil_of_le (by omega)] at h
    simp only [fitD, Bool.true_and] at h
    refine condD (fun h1 => ?_) fun h1 => ?_
    · rw [decide_eq_true (show 1 ≤ ls.length by omega), Bool.true_and] at h
      rw [show decide ((ls.length : Int) ≤ 12) = decide (ls.length ≤ 12) from decide_eq_decide.2 (by omega)]
      exact h
    · rw [decide_eq_false (show ¬ 1 ≤ ls.length by omega), Bool.false_and] at h
      exact h
  | succ m ih =>
    intro i hm h
    refine v39_5 _ _ _ _ (condD (fun hc => needJ ⟨by omega, by omega⟩ ?_) fun hc => by omega)
    rw [Int.toNat_natCast]
    have hg : ls.drop i = ls.getD i 0 :: ls.drop (i + 1) := by
      rw [List.drop_eq_getElem_cons (by omega)]
      simp [List.getD, List.getElem?_eq_getElem (show i < ls.length by omega)]
    rw [hg] at h
    simp only [fitD] at h
    generalize ls.getD i 0 = c at h ⊢
    have hn : ¬ (kindM c = 4 ∨ (i = 0 ∧ 1 < kindM c)) → AWP Try.prog 42 0 c39_5 [(3, .sl 1 (.map encI 0 ls) .none), (4, .int .i64 (IntKind.wrap .i64 ((i : Int) + 1)))] [] (q39_2 0 Post) := by
      intro hh
      rw [if_neg hh] at h
      rw [show IntKind.wrap .i64 ((i : Int) + 1) = ((i + 1 : Nat) : Int) by rw [wrap64 (by omega) (by omega)]; simp]
      exact ih (i + 1) (by omega) h
    have hy : (kindM c = 4 ∨ (i = 0 ∧ 1 < kindM c)) → Post (.bool false) [] := by
      intro hh
      rw [if_pos hh] at h
      simpa using h
    refine ASpec.call (rkind_spec c []) (Les.refl _) ⟨_, rfl, rfl, condE (fun h1 => hy (.inl h1)) fun h1 => condE (fun h2 => needJ ⟨by omega, by omega⟩ ?_) fun h2 => hn (by omega)⟩
    refine ASpec.call (rkind_spec c []) (Les.refl _) ⟨_, rfl, rfl, condD (fun h3 => hy (.inr ⟨by omega, h3⟩)) fun h3 => hn (by omega)⟩

theorem runesF_len : ∀ (f p : Nat), (runesF f l p).length ≤ f
  | 0, p => by simp [runesF]
  | f + 1, p => by
    simp only [runesF]
    split
    · have := runesF_len f (p + (runeM l p).2)
      simp; omega
    · simp

theorem rfit_spec (hl : l.length ≤ 10 * big) (H : List AObj) : ASpec Try.prog 39 [.str (B l)] H (fun r H' => r = .bool (fitM l) ∧ H' = H) := by
  have k : ASpec Try.prog 39 [.str (B l)] [] (fun r H' => r = .bool (fitM l) ∧ H' = []) := by
    refine s39 _ _ ?_
    rw [B_size]
    refine condD (fun h1 => ?_) fun h1 => ?_
    · have : fitM l = false := by
        cases h : fitM l with
        | false => rfl
        | true => have := fitM_short h; omega
      rw [this]; exact ⟨rfl, rfl⟩
    · have hlen := runesF_len (l := l) l.length 0
      refine ASpec.call (runes_spec (by omega) []) (Les.refl _) ⟨_, rfl, rfl, rfit5 (ls := runesM l) (by unfold runesM; omega) (runesM l).length 0 (by omega) ?_⟩
      unfold fitM
      rw [fitF_fitD _ 0 (by omega), List.drop_zero, Nat.zero_add, Bool.and_assoc]
      exact ⟨rfl, rfl⟩
  exact ASpec.pureH H k _ _ rfl rfl

end
end S
end

section
/- Which spans, needs and manifests may be: the code's walks and the document's. -/

set_option linter.unusedVariables false
set_option linter.unusedSimpArgs false
set_option maxRecDepth 100000
open Go Go.Ab Go.Proofs V S T
namespace C

/-- the answer c, whatever lies in the heap -/
abbrev PB (c : Bool) : AV → List AObj → Prop := fun r H' => ∃ l H2 r2, Sel 0 l H' H2 ∧ Le r (AV.ren (selR l H'.length) r2) ∧ (r2 = .bool c ∧ H2 = [])
theorem pb {b c : Bool} {H' : List AObj} (h : b = c) : PB c (.bool b) H' := ⟨[], [], .bool c, Sel.none, h ▸ Le.refl _, rfl, rfl⟩

theorem dropD {α : Type} (l : List α) (d : α) (i : Nat) (h : i < l.length) : l.drop i = l.getD i d :: l.drop (i + 1) := by
  rw [List.drop_eq_getElem_cons h]
  simp [List.getD, List.getElem?_eq_getElem h]

theorem memD {α : Type} (l : List α) (d : α) (i : Nat) (h : i < l.length) : l.getD i d ∈ l := by
  simp [List.getD, List.getElem?_eq_getElem h]

theorem succ64 {i : Nat} (h : i ≤ 10000000) : IntKind.wrap .i64 ((i : Int) + 1) = ((i + 1 : Nat) : Int) := by rw [wrap64 (by omega) (by omega)]; simp
abbrev lim : Nat := 1000000

/-! ### spans -/

def chkS (e : Int) : List Span → Bool
  | [] => true
  | x :: r => if x.1 ≤ e ∨ x.2 ≤ x.1 ∨ 1000000000 < x.2 then false else chkS x.2 r
def spanOk (l : List Span) : Bool := chkS (-1) l

/-! ### needs -/

def leB (a b : List UInt8) : Bool := Op.bytesLess a b || a == b

def needsF (last : List UInt8) : List Need → Bool
  | [] => true
  | x :: r => if fitM x.1 = false ∨ leB x.1 last = true ∨ 6 < x.2.length ∨ spanOk x.2 = false then false else needsF x.1 r
def needOk (l : List Need) : Bool := needsF [] l && decide (l.length ≤ 6)

/-! ### manifests -/

theorem verFit_spec (x : Int) (H : List AObj) : ASpec Try.prog 231 [.int .i64 x] H (fun r H' => r = .bool (decide (0 ≤ x ∧ x < 1000000000)) ∧ H' = H) := by
  have k : ASpec Try.prog 231 [.int .i64 x] [] (fun r H' => r = .bool (decide (0 ≤ x ∧ x < 1000000000)) ∧ H' = []) := by
    refine s231 _ _ (condD (fun h => ⟨?_, rfl⟩) fun h => ⟨?_, rfl⟩)
    · congr 1; exact decide_eq_decide.2 (by omega)
    · rw [decide_eq_false (by omega)]
  exact ASpec.pureH H k _ _ rfl rfl

/-! ### are they large? -/

end C
end

section
/- Manifests as bytes: what the code puts, and the document. -/

set_option linter.unusedVariables false
set_option linter.unusedSimpArgs false
set_option maxRecDepth 100000
open Go Go.Ab Go.Proofs V S T C
namespace W

def numB (x : Int) : List UInt8 := enc (held x)
def text (s : List UInt8) : List UInt8 := enc (held s.length) ++ s
def spanB (s : Span) : List UInt8 := numB s.1 ++ numB (IntKind.wrap .i64 (s.2 - s.1))
def needB (n : Need) : List UInt8 := text n.1 ++ numB n.2.length ++ n.2.flatMap spanB
theorem numB_len (x : Int) : (numB x).length ≤ 6 := enc_length _ (held_le _)
theorem text_len (s : List UInt8) : (text s).length ≤ s.length + 6 := by
  have := enc_length (held s.length) (held_le _)
  simp [text]; omega

theorem flat_len {α : Type} (f : α → List UInt8) (k : Nat) : ∀ (l : List α), (∀ x ∈ l, (f x).length ≤ k) → (l.flatMap f).length ≤ l.length * k
  | [], _ => by simp
  | x :: r, h => by
    have h1 := h x (by simp)
    have h2 := flat_len f k r (fun y hy => h y (by simp [hy]))
    rw [List.flatMap_cons, List.length_append, List.length_cons, Nat.add_mul]
    omega

theorem spanB_len (s : Span) : (spanB s).length ≤ 12 := by
  have h1 := numB_len s.1
  have h2 := numB_len (IntKind.wrap .i64 (s.2 - s.1))
  simp only [spanB, List.length_append]; omega

theorem needB_len {n : Need} (h1 : n.1.length ≤ 24) (h2 : n.2.length ≤ 6) : (needB n).length ≤ 108 := by
  have a := text_len n.1
  have b := numB_len n.2.length
  have c := flat_len spanB 12 n.2 (fun x _ => spanB_len x)
  have d : n.2.length * 12 ≤ 6 * 12 := Nat.mul_le_mul_right _ h2
  simp only [needB, List.length_append]; omega

theorem needsF_ok : ∀ (l : List Need) (last : List UInt8), needsF last l = true → ∀ n ∈ l, n.1.length ≤ 24 ∧ n.2.length ≤ 6 ∧ spanOk n.2 = true ∧ fitM n.1 = true
  | [], _, _, n, hn => by simp at hn
  | x :: r, last, h, n, hn => by
    simp only [needsF] at h
    split at h
    · cases h
    · rename_i hh
      rcases List.mem_cons.1 hn with rfl | hn
      · have hf : fitM n.1 = true := by
          cases hq : fitM n.1 with
          | true => rfl
          | false => exact (hh (.inl hq)).elim
        have hs : spanOk n.2 = true := by
          cases hq : spanOk n.2 with
          | true => rfl
          | false => exact (hh (.inr (.inr (.inr hq)))).elim
        exact ⟨fitM_short hf, by omega, hs, hf⟩
      · exact needsF_ok r _ h n hn

theorem needOk_ok {l : List Need} (h : needOk l = true) : l.length ≤ 6 ∧ ∀ n ∈ l, n.1.length ≤ 24 ∧ n.2.length ≤ 6 ∧ spanOk n.2 = true ∧ fitM n.1 = true := by
  unfold needOk at h
  rw [Bool.and_eq_true] at h
  exact ⟨of_decide_eq_true h.2, needsF_ok l _ h.1⟩

theorem lenL {α : Type} {a c P : List α} (h : a ++ c = P) : a.length ≤ P.length := by rw [← h]; simp

theorem leTwo (a b : Int) : Le (.sl 1 (.raw [[.int .i64 a], [.int .i64 b]]) .full) (.sl 1 (.map encI 0 [a, b]) .none) := Le.sl rfl (.inl rfl) (.inr rfl)
theorem leTok {l : List UInt8} {t : Tip} : Le (.sl 1 (.map encB 0 l) t) (.sl 1 (.map encB 0 l) .none) := Le.sl rfl (.inl rfl) (.inr rfl)
theorem put1M (b : List UInt8) (x : Int) : putM b [x] = b ++ numB x := by simp [putM, numB]
theorem put2M (b : List UInt8) (x y : Int) : putM b [x, y] = b ++ (numB x ++ numB y) := by simp [putM, numB]

section
variable {Post : AV → List AObj → Prop}

abbrev sl1 (b : List UInt8) : AV := .sl 1 (.map encB 0 b) .none
noncomputable abbrev slR (l : List Rel) : AV := .sl 2 (.map T.encR (0, []) l) .none
noncomputable abbrev slN (l : List Need) : AV := .sl 2 (.map encN ([], []) l) .none
noncomputable abbrev slS (l : List Span) : AV := .sl 2 (.map encS (0, 0) l) .none

/-! ### the document's -/

end
end W
end

section
/- Manifests out of bytes: what the code reads. -/

set_option linter.unusedVariables false
set_option linter.unusedSimpArgs false
set_option maxRecDepth 100000
open Go Go.Ab Go.Proofs V S T C
namespace W

/-! ### the model -/

def spanR (bs : List UInt8) (p : Nat) (e : Int) : Span × Nat × Int :=
  (((numM bs p e 1000000000).1, IntKind.wrap .i64 ((numM bs p e 1000000000).1 + (numM bs (numM bs p e 1000000000).2.1 (numM bs p e 1000000000).2.2 1000000000).1)),
    (numM bs (numM bs p e 1000000000).2.1 (numM bs p e 1000000000).2.2 1000000000).2)

def listR {α : Type} (one : Nat → Int → α × Nat × Int) : Nat → Nat → Int → List α × Nat × Int
  | 0, p, e => ([], p, e)
  | k + 1, p, e => if e = 0 then ((one p e).1 :: (listR one k (one p e).2.1 (one p e).2.2).1, (listR one k (one p e).2.1 (one p e).2.2).2) else ([], p, e)

def listM {α : Type} (one : Nat → Int → α × Nat × Int) (bs : List UInt8) (p : Nat) (e most : Int) : List α × Nat × Int :=
  listR one (numM bs p e most).1.toNat (numM bs p e most).2.1 (numM bs p e most).2.2

def needR (bs : List UInt8) (p : Nat) (e : Int) : Need × Nat × Int :=
  (((strM bs p e 24).1, (listM (spanR bs) bs (strM bs p e 24).2.1 (strM bs p e 24).2.2 6).1), (listM (spanR bs) bs (strM bs p e 24).2.1 (strM bs p e 24).2.2 6).2)

theorem lookM_most (s : List UInt8) (most : Int) (h : 0 ≤ most) : (lookM s most).1 ≤ most := by
  cases s with
  | nil => simpa [lookM] using h
  | cons c s =>
    simp only [lookM]
    split
    · exact h
    · split
      · exact h
      · split
        · exact h
        · simp only; omega

theorem numM_most (bs : List UInt8) (p : Nat) (e most : Int) (h : 0 ≤ most) : 0 ≤ (numM bs p e most).1 ∧ (numM bs p e most).1 ≤ most := by
  unfold numM
  split
  · exact ⟨Int.le_refl _, h⟩
  · exact ⟨(lookM_le _ _).2.1, lookM_most _ _ h⟩

theorem numM_p {bs : List UInt8} {p : Nat} {e most : Int} (hp : p ≤ bs.length) : (numM bs p e most).2.1 ≤ bs.length := (num_doc bs p e most hp).2
theorem strM_p {bs : List UInt8} {p : Nat} {e most : Int} (hp : p ≤ bs.length) : (strM bs p e most).2.1 ≤ bs.length := (str_doc bs p e most hp).2

theorem strM_len (bs : List UInt8) (p : Nat) (e most : Int) (h : 0 ≤ most) : ((strM bs p e most).1.length : Int) ≤ most := by
  unfold strM
  have := lookM_most (bs.drop p) most h
  have h2 := (lookM_le (bs.drop p) most).2.1
  repeat' split
  all_goals (simp only [List.length_nil, List.length_take]; omega)

/-- one keeps its place in the bytes -/
def Inside {α : Type} (bs : List UInt8) (one : Nat → Int → α × Nat × Int) : Prop := ∀ p e, p ≤ bs.length → (one p e).2.1 ≤ bs.length

theorem listR_p {α : Type} {bs : List UInt8} {one : Nat → Int → α × Nat × Int} (h : Inside bs one) : ∀ (k p : Nat) (e : Int), p ≤ bs.length → (listR one k p e).2.1 ≤ bs.length
  | 0, p, e, hp => hp
  | k + 1, p, e, hp => by
    simp only [listR]
    split
    · exact listR_p h k _ _ (h p e hp)
    · exact hp

theorem listM_p {α : Type} {bs : List UInt8} {one : Nat → Int → α × Nat × Int} (h : Inside bs one) {p : Nat} {e most : Int} (hp : p ≤ bs.length) : (listM one bs p e most).2.1 ≤ bs.length :=
  listR_p h _ _ _ (numM_p hp)

theorem listR_len {α : Type} (one : Nat → Int → α × Nat × Int) : ∀ (k p : Nat) (e : Int), (listR one k p e).1.length ≤ k
  | 0, p, e => by simp [listR]
  | k + 1, p, e => by
    simp only [listR]
    split
    · have := listR_len one k (one p e).2.1 (one p e).2.2
      simp only [List.length_cons]; omega
    · simp

theorem listM_len {α : Type} (one : Nat → Int → α × Nat × Int) (bs : List UInt8) (p : Nat) (e most : Int) (h : 0 ≤ most) : ((listM one bs p e most).1.length : Int) ≤ most := by
  have h1 := numM_most bs p e most h
  have h2 := listR_len one (numM bs p e most).1.toNat (numM bs p e most).2.1 (numM bs p e most).2.2
  unfold listM
  omega

theorem listR_all {α : Type} {one : Nat → Int → α × Nat × Int} {Q : α → Prop} (h : ∀ p e, Q (one p e).1) : ∀ (k p : Nat) (e : Int), ∀ x ∈ (listR one k p e).1, Q x
  | 0, p, e, x, hx => by simp [listR] at hx
  | k + 1, p, e, x, hx => by
    simp only [listR] at hx
    split at hx
    · rcases List.mem_cons.1 hx with rfl | hx
      · exact h p e
      · exact listR_all h k _ _ x hx
    · simp at hx

theorem spanR_p (bs : List UInt8) : Inside bs (spanR bs) := fun p e hp => numM_p (numM_p hp)
theorem needR_p (bs : List UInt8) : Inside bs (needR bs) := fun p e hp => listM_p (spanR_p bs) (strM_p hp)
theorem needR_ok (bs : List UInt8) (p : Nat) (e : Int) : (needR bs p e).1.1.length ≤ 24 ∧ (needR bs p e).1.2.length ≤ 6 := by
  have h1 := strM_len bs p e 24 (by omega)
  have h2 := listM_len (spanR bs) bs (strM bs p e 24).2.1 (strM bs p e 24).2.2 6 (by omega)
  simp only [needR]; omega

/-! ### the walk -/

section
variable {bs : List UInt8} {p : Nat} {e : Int}

theorem leAppT {α : Type} {en : α → List AV} {d : α} (hr : ∀ ρ x, renL ρ (en x) = en x) {acc : List α} {x : α} {sz k j : Nat} {ρ : Nat → Nat} {ex : List AV} (hx : ex = en x) (hk : ρ j = k) :
    Le (.sl sz (.app (.map en d acc) (.raw [ex])) (.tok k)) (AV.ren ρ (.sl sz (.map en d (acc ++ [x])) (.tok j))) := by
  subst hk; subst hx
  refine Le.sl (s' := Seq.ren ρ (.map en d (acc ++ [x]))) ?_ (.inl rfl) (.inl rfl)
  simp [Ab.Seq.toList, Seq.ren, hr]

theorem leNone {α : Type} {en : α → List AV} {d : α} (hr : ∀ ρ x, renL ρ (en x) = en x) {acc : List α} {sz : Nat} {tip : Tip} {ρ : Nat → Nat} :
    Le (.sl sz (.map en d acc) tip) (AV.ren ρ (.sl sz (.map en d acc) .none)) :=
  Le.sl (s' := Seq.ren ρ (.map en d acc)) (by simp [Ab.Seq.toList, Seq.ren, hr]) (.inl rfl) (.inr rfl)

theorem renS (ρ : Nat → Nat) (x : Span) : renL ρ (encS x) = encS x := rfl
theorem renN (ρ : Nat → Nat) (x : Need) : renL ρ (encN x) = encN x := rfl
end

end W
end

section
/- WirePuts: the bytes of any manifest, and the manifest of any bytes, or what is wrong first, are the document's: the law's function returns true. -/

set_option linter.unusedVariables false
set_option linter.unusedSimpArgs false
set_option maxRecDepth 100000
open Go Go.Ab Go.Proofs V S T C
namespace W

/-! ### the document's model -/

def dSpan (l : List UInt8) (e : Int) : Span × List UInt8 × Int :=
  (((dnumM l e 1000000000).1, IntKind.wrap .i64 ((dnumM l e 1000000000).1 + (dnumM (dnumM l e 1000000000).2.1 (dnumM l e 1000000000).2.2 1000000000).1)),
    (dnumM (dnumM l e 1000000000).2.1 (dnumM l e 1000000000).2.2 1000000000).2)

def dF {α : Type} (one : List UInt8 → Int → α × List UInt8 × Int) : Nat → List UInt8 → Int → List α × List UInt8 × Int
  | 0, l, e => ([], l, e)
  | k + 1, l, e => ((one l e).1 :: (dF one k (one l e).2.1 (one l e).2.2).1, (dF one k (one l e).2.1 (one l e).2.2).2)

def dL {α : Type} (one : List UInt8 → Int → α × List UInt8 × Int) (l : List UInt8) (e most : Int) : List α × List UInt8 × Int :=
  dF one (dnumM l e most).1.toNat (dnumM l e most).2.1 (dnumM l e most).2.2

def dNeed (l : List UInt8) (e : Int) : Need × List UInt8 × Int :=
  (((dstrM l e 24).1, (dL dSpan (dstrM l e 24).2.1 (dstrM l e 24).2.2 6).1), (dL dSpan (dstrM l e 24).2.1 (dstrM l e 24).2.2 6).2)
/-! ### it is the code's -/

def Alike {α : Type} (bs : List UInt8) (R : α × Nat × Int) (D : α × List UInt8 × Int) : Prop := D.2.1 = bs.drop R.2.1 ∧ D.2.2 = R.2.2 ∧ (R.2.2 = 0 → D.1 = R.1)

/-- behind an error nothing is taken -/
def Sticks {α : Type} (one : List UInt8 → Int → α × List UInt8 × Int) : Prop := ∀ l e, e ≠ 0 → (one l e).2 = (l, e)

theorem dnumM_err {l : List UInt8} {e most : Int} (h : e ≠ 0) : dnumM l e most = (0, l, e) := by simp only [dnumM, if_pos h]
theorem dstrM_err {l : List UInt8} {e most : Int} (h : e ≠ 0) : dstrM l e most = ([], l, e) := by simp only [dstrM, if_pos h]

theorem dF_err {α : Type} {one : List UInt8 → Int → α × List UInt8 × Int} (hs : Sticks one) {e : Int} (h : e ≠ 0) : ∀ (k : Nat) (l : List UInt8), (dF one k l e).2 = (l, e)
  | 0, l => rfl
  | k + 1, l => by
    have := hs l e h
    simp only [dF, this]
    exact dF_err hs h k l

theorem dL_err {α : Type} {one : List UInt8 → Int → α × List UInt8 × Int} (hs : Sticks one) {l : List UInt8} {e most : Int} (h : e ≠ 0) : (dL one l e most).2 = (l, e) := by
  unfold dL
  rw [dnumM_err h]
  exact dF_err hs h _ _

theorem dSpan_sticks : Sticks dSpan := fun l e h => by simp only [dSpan, dnumM_err h]
theorem dNeed_sticks : Sticks dNeed := fun l e h => by simp only [dNeed, dstrM_err h, dL_err dSpan_sticks h]
theorem listR_err {α : Type} {one : Nat → Int → α × Nat × Int} {e : Int} (h : e ≠ 0) (k p : Nat) : listR one k p e = ([], p, e) := by
  cases k with
  | zero => rfl
  | succ k => simp only [listR, if_neg h]

theorem alikeF {α : Type} {bs : List UInt8} {one : Nat → Int → α × Nat × Int} {done : List UInt8 → Int → α × List UInt8 × Int} (h1 : ∀ p e, p ≤ bs.length → Alike bs (one p e) (done (bs.drop p) e)) (hin : Inside bs one) (hs : Sticks done) :
    ∀ (k p : Nat) (e : Int), p ≤ bs.length → Alike bs (listR one k p e) (dF done k (bs.drop p) e)
  | 0, p, e, hp => ⟨rfl, rfl, fun _ => rfl⟩
  | k + 1, p, e, hp => by
    by_cases he : e = 0
    · obtain ⟨a1, a2, a3⟩ := h1 p e hp
      obtain ⟨b1, b2, b3⟩ := alikeF h1 hin hs k (one p e).2.1 (one p e).2.2 (hin p e hp)
      simp only [listR, if_pos he, dF, a1, a2]
      refine ⟨b1, b2, fun h0 => ?_⟩
      have hz : (one p e).2.2 = 0 := by
        by_cases hz : (one p e).2.2 = 0
        · exact hz
        · simp only [listR_err hz] at h0
          exact h0
      show _ :: _ = _ :: _
      rw [a3 hz, b3 h0]
    · rw [listR_err he]
      have := dF_err hs he (k + 1) (bs.drop p)
      exact ⟨by rw [this], by rw [this], fun h => (he h).elim⟩

theorem alikeL {α : Type} {bs : List UInt8} {one : Nat → Int → α × Nat × Int} {done : List UInt8 → Int → α × List UInt8 × Int} (h1 : ∀ p e, p ≤ bs.length → Alike bs (one p e) (done (bs.drop p) e)) (hin : Inside bs one) (hs : Sticks done)
    {p : Nat} {e most : Int} (hp : p ≤ bs.length) : Alike bs (listM one bs p e most) (dL done (bs.drop p) e most) := by
  obtain ⟨hd, hq⟩ := num_doc bs p e most hp
  unfold listM dL
  rw [hd]
  exact alikeF h1 hin hs _ _ _ hq

theorem alikeSpan (bs : List UInt8) (p : Nat) (e : Int) (hp : p ≤ bs.length) : Alike bs (spanR bs p e) (dSpan (bs.drop p) e) := by
  obtain ⟨hd, hq⟩ := num_doc bs p e 1000000000 hp
  obtain ⟨hd2, hq2⟩ := num_doc bs (numM bs p e 1000000000).2.1 (numM bs p e 1000000000).2.2 1000000000 hq
  unfold dSpan spanR Alike
  rw [hd]
  simp only [hd2]
  exact ⟨trivial, trivial, fun _ => trivial⟩

theorem alikeNeed (bs : List UInt8) (p : Nat) (e : Int) (hp : p ≤ bs.length) : Alike bs (needR bs p e) (dNeed (bs.drop p) e) := by
  obtain ⟨hd, hq⟩ := str_doc bs p e 24 hp
  obtain ⟨a1, a2, a3⟩ := alikeL (alikeSpan bs) (spanR_p bs) dSpan_sticks (e := (strM bs p e 24).2.2) (most := 6) hq
  unfold dNeed needR Alike
  rw [hd]
  simp only [a1, a2]
  exact ⟨trivial, trivial, fun h => by rw [a3 h]⟩

/-! ### the document's walk -/

theorem dnumM_len (l : List UInt8) (e most : Int) : (dnumM l e most).2.1.length ≤ l.length := by
  unfold dnumM; split <;> simp
theorem dstrM_len (l : List UInt8) (e most : Int) : (dstrM l e most).2.1.length ≤ l.length := by
  unfold dstrM; repeat' split
  all_goals simp
theorem dnumM_most (l : List UInt8) (e most : Int) (h : 0 ≤ most) : 0 ≤ (dnumM l e most).1 ∧ (dnumM l e most).1 ≤ most := by
  unfold dnumM
  split
  · exact ⟨Int.le_refl _, h⟩
  · exact ⟨(lookM_le _ _).2.1, lookM_most _ _ h⟩
theorem dSpan_len (l : List UInt8) (e : Int) : (dSpan l e).2.1.length ≤ l.length := Nat.le_trans (dnumM_len _ _ _) (dnumM_len _ _ _)
theorem dF_len {α : Type} {one : List UInt8 → Int → α × List UInt8 × Int} (h : ∀ l e, (one l e).2.1.length ≤ l.length) : ∀ (k : Nat) (l : List UInt8) (e : Int), (dF one k l e).2.1.length ≤ l.length
  | 0, l, e => Nat.le_refl _
  | k + 1, l, e => Nat.le_trans (dF_len h k _ _) (h l e)
theorem dL_len {α : Type} {one : List UInt8 → Int → α × List UInt8 × Int} (h : ∀ l e, (one l e).2.1.length ≤ l.length) (l : List UInt8) (e most : Int) : (dL one l e most).2.1.length ≤ l.length :=
  Nat.le_trans (dF_len h _ _ _) (dnumM_len _ _ _)
theorem dNeed_len (l : List UInt8) (e : Int) : (dNeed l e).2.1.length ≤ l.length := Nat.le_trans (dL_len dSpan_len _ _ _) (dstrM_len _ _ _)
section
variable {Post : AV → List AObj → Prop}

/-! ### are they alike? -/

theorem cons_dec {α : Type} [DecidableEq α] (x y : α) (a b : List α) : decide (x :: a = y :: b) = (decide (x = y) && decide (a = b)) := by
  rw [Bool.eq_iff_iff]; simp

/-! ### the law -/

end
end W
end

section
/- Events: which may be, and which are alike. -/

set_option linter.unusedVariables false
set_option linter.unusedSimpArgs false
set_option maxRecDepth 100000
open Go Go.Ab Go.Proofs V S T C
open W (sl1 slS slN slR cons_dec)
namespace E

/-- the answer r0, whatever lies in the heap -/
abbrev PA (r0 : AV) : AV → List AObj → Prop := fun r H' => ∃ l H2 r2, Sel 0 l H' H2 ∧ Le r (AV.ren (selR l H'.length) r2) ∧ (r2 = r0 ∧ H2 = [])
theorem pa {r r0 : AV} {H' : List AObj} (h : Le r (AV.ren (selR [] H'.length) r0)) : PA r0 r H' := ⟨[], [], r0, Sel.none, h, rfl, rfl⟩

/-! ### alike -/

/-! ### which may be -/

/-- of a kind, the needs' number, the ticks, the ticket, the body's length -/
def evP (k : Int) (A : Nat) (t n : Int) (B : Nat) : Prop := (0 ≤ t ∧ t ≤ 1099511627776) ∧ (k ≠ 1 → A = 0 ∧ t = 0) ∧ ((k = 3 ∨ k = 4) → 1 ≤ n ∧ n ≤ 1099511627776 ∧ B ≤ 9000 ∧ (k = 3 ∨ B = 0)) ∧ (¬ (k = 3 ∨ k = 4) → n = 0 ∧ B = 0 ∧ (k = 1 ∨ k = 2))
instance (k : Int) (A : Nat) (t n : Int) (B : Nat) : Decidable (evP k A t n B) := by unfold evP; infer_instance
section
variable {e : Ev}
end

/-! ### are they large? -/

/-! ### the example -/

end E
end

section
/- What was put of a manifest is read; what is read is put so. -/

set_option linter.unusedVariables false
set_option linter.unusedSimpArgs false
set_option maxRecDepth 100000
open Go Go.Ab Go.Proofs V S T C
namespace W

/-! ### what was put is read -/

def Back {α : Type} (bytes : α → List UInt8) (one : List UInt8 → Nat → Int → α × Nat × Int) (x : α) : Prop :=
  ∀ pre rest, one (pre ++ bytes x ++ rest) pre.length 0 = (x, pre.length + (bytes x).length, 0)

theorem num_back {x most : Int} (h0 : 0 ≤ x) (h1 : x ≤ most) (h2 : most ≤ 1099511627776) : Back numB (fun bs p e => numM bs p e most) x := by
  intro pre rest
  have hh := held_of (x := x) h0 (by omega)
  have hd : (pre ++ numB x ++ rest).drop pre.length = enc (held x) ++ rest := by rw [List.append_assoc, List.drop_left]; rfl
  simp only [numM, if_neg (show ¬ ((0 : Int) ≠ 0) by simp), hd, look_enc rest (v := held x) (most := most) (held_le x) (by omega)]
  rw [hh]; rfl

theorem str_back (pre s rest : List UInt8) (most : Int) (hs : (s.length : Int) ≤ most) (hl : s.length ≤ 1000000) :
    strM (pre ++ text s ++ rest) pre.length 0 most = (s, pre.length + (text s).length, 0) := by
  have hh := held_of (x := (s.length : Int)) (by omega) (by omega)
  have hh : held s.length = s.length := by omega
  have hd : (pre ++ text s ++ rest).drop pre.length = enc s.length ++ (s ++ rest) := by
    rw [List.append_assoc, List.drop_left, text, hh, List.append_assoc]
  have hd2 : (pre ++ text s ++ rest).drop (pre.length + (enc s.length).length) = s ++ rest := by
    rw [← List.drop_drop, hd, List.drop_left]
  have hk := look_enc (s ++ rest) (v := s.length) (most := most) (by omega) hs
  have hlen : (text s).length = (enc s.length).length + s.length := by rw [text, hh, List.length_append]
  simp only [strM, if_neg (show ¬ ((0 : Int) ≠ 0) by simp), hd, hk]
  rw [if_neg (by simp only [List.length_append, hlen]; omega), hd2, hlen]
  simp [Nat.add_assoc]

theorem text_back {s : List UInt8} {most : Int} (h : (s.length : Int) ≤ most) (hl : s.length ≤ 1000000) : Back text (fun bs p e => strM bs p e most) s :=
  fun pre rest => str_back pre s rest most h hl

theorem back2 {α β : Type} {ba : α → List UInt8} {bb : β → List UInt8} {oa : List UInt8 → Nat → Int → α × Nat × Int} {ob : List UInt8 → Nat → Int → β × Nat × Int} {x : α} {y : β}
    (ha : Back ba oa x) (hb : Back bb ob y) (pre rest : List UInt8) :
    oa (pre ++ (ba x ++ bb y) ++ rest) pre.length 0 = (x, pre.length + (ba x).length, 0) ∧ ob (pre ++ (ba x ++ bb y) ++ rest) (pre.length + (ba x).length) 0 = (y, pre.length + (ba x ++ bb y).length, 0) := by
  have e1 := ha pre (bb y ++ rest)
  have e2 := hb (pre ++ ba x) rest
  simp only [List.append_assoc, List.length_append] at e1 e2 ⊢
  exact ⟨e1, by rw [e2, Nat.add_assoc]⟩

theorem span_back {x : Span} (h0 : 0 ≤ x.1) (h1 : x.1 ≤ 1000000000) (h2 : x.1 ≤ x.2) (h3 : x.2 ≤ 1000000000) : Back spanB spanR x := by
  intro pre rest
  have hw : IntKind.wrap .i64 (x.2 - x.1) = x.2 - x.1 := wrap64 (by omega) (by omega)
  obtain ⟨e1, e2⟩ := back2 (num_back (x := x.1) (most := 1000000000) h0 h1 (by omega)) (num_back (x := IntKind.wrap .i64 (x.2 - x.1)) (most := 1000000000) (by omega) (by omega) (by omega)) pre rest
  simp only [spanR, spanB, e1, e2]
  rw [hw, wrap64 (x := x.1 + (x.2 - x.1)) (by omega) (by omega), show x.1 + (x.2 - x.1) = x.2 by omega]

theorem listR_back {α : Type} {bytes : α → List UInt8} {one : List UInt8 → Nat → Int → α × Nat × Int} : ∀ (l : List α), (∀ x ∈ l, Back bytes one x) → ∀ pre rest,
    listR (one (pre ++ l.flatMap bytes ++ rest)) l.length pre.length 0 = (l, pre.length + (l.flatMap bytes).length, 0)
  | [], _, pre, rest => by simp [listR]
  | x :: r, h, pre, rest => by
    have hx := h x (by simp) pre (r.flatMap bytes ++ rest)
    have hr := listR_back r (fun y hy => h y (by simp [hy])) (pre ++ bytes x) rest
    simp only [List.flatMap_cons, List.append_assoc, List.length_append, List.length_cons] at hx hr ⊢
    simp only [listR, if_pos, hx, hr]
    rw [Nat.add_assoc]

theorem listM_back {α : Type} {bytes : α → List UInt8} {one : List UInt8 → Nat → Int → α × Nat × Int} {most : Int} (l : List α) (h : ∀ x ∈ l, Back bytes one x) (hl : (l.length : Int) ≤ most) (h2 : most ≤ 1099511627776) :
    ∀ pre rest, listM (one (pre ++ (numB l.length ++ l.flatMap bytes) ++ rest)) (pre ++ (numB l.length ++ l.flatMap bytes) ++ rest) pre.length 0 most = (l, pre.length + (numB l.length ++ l.flatMap bytes).length, 0) := by
  intro pre rest
  have e1 := num_back (x := (l.length : Int)) (most := most) (by omega) hl h2 pre (l.flatMap bytes ++ rest)
  have e2 := listR_back l h (pre ++ numB l.length) rest
  simp only [List.append_assoc, List.length_append] at e1 e2 ⊢
  simp only [listM, e1, Int.toNat_natCast, e2]
  rw [Nat.add_assoc]

theorem chkS_ok : ∀ (l : List Span) (e : Int), -1 ≤ e → chkS e l = true → ∀ x ∈ l, 0 ≤ x.1 ∧ x.1 ≤ 1000000000 ∧ x.1 ≤ x.2 ∧ x.2 ≤ 1000000000
  | [], _, _, _, x, hx => by simp at hx
  | y :: r, e, he, h, x, hx => by
    simp only [chkS] at h
    split at h
    · cases h
    · rcases List.mem_cons.1 hx with rfl | hx
      · omega
      · exact chkS_ok r _ (by omega) h x hx

theorem need_back {n : Need} (h1 : n.1.length ≤ 24) (h2 : n.2.length ≤ 6) (h3 : spanOk n.2 = true) : Back needB needR n := by
  intro pre rest
  have hs : ∀ x ∈ n.2, Back spanB spanR x := fun x hx => by
    obtain ⟨a, b, c, d⟩ := chkS_ok n.2 (-1) (by omega) h3 x hx
    exact span_back a b c d
  have e1 := text_back (s := n.1) (most := 24) (by omega) (by omega) pre (numB n.2.length ++ n.2.flatMap spanB ++ rest)
  have e2 := listM_back (most := 6) n.2 hs (by omega) (by omega) (pre ++ text n.1) rest
  simp only [List.append_assoc, List.length_append] at e1 e2
  simp only [needR, needB, List.append_assoc, List.length_append, e1, e2]
  rw [Nat.add_assoc]

/-! ### what is read is put so -/

theorem scan_canon : ∀ (f : Nat) (s : List UInt8) (x i n k : Nat), scan f s x i = .inr (n, k) → (0 < x ∨ s.head? ≠ some 128) → lead x ++ s = enc n ++ s.drop (k - i)
  | 0, s, x, i, n, k, h, _ => by simp [scan] at h
  | f + 1, [], x, i, n, k, h, _ => by simp [scan] at h
  | f + 1, c :: s, x, i, n, k, h, hx => by
    have hc := c.toNat_lt
    simp only [scan] at h
    split at h
    · rename_i hge
      have hk := scan_le _ _ _ _ _ _ h
      have hpos : 0 < x * 128 + c.toNat % 128 := by
        rcases hx with hx | hx
        · omega
        · have : c.toNat ≠ 128 := fun hh => hx (by
            have : c = 128 := UInt8.toNat_inj.1 (by rw [hh]; rfl)
            rw [this]; rfl)
          omega
      have := scan_canon f s _ _ _ _ h (.inl hpos)
      rw [lead_pos hpos, show (x * 128 + c.toNat % 128) / 128 = x by omega, show 128 + (x * 128 + c.toNat % 128) % 128 = c.toNat by omega, UInt8.ofNat_toNat, List.append_assoc, List.singleton_append] at this
      rw [this, show k - i = (k - (i + 1)) + 1 by omega, List.drop_succ_cons]
    · rename_i hlt
      simp only [Sum.inr.injEq, Prod.mk.injEq] at h
      obtain ⟨rfl, rfl⟩ := h
      rw [show i + 1 - i = 1 by omega]
      unfold enc
      rw [show (x * 128 + c.toNat % 128) / 128 = x by omega, show (x * 128 + c.toNat % 128) % 128 = c.toNat by omega, UInt8.ofNat_toNat]
      simp

theorem look_canon {s : List UInt8} {most : Int} (h : (lookM s most).2.2 = 0) : s = numB (lookM s most).1 ++ s.drop (lookM s most).2.1 := by
  cases s with
  | nil => simp [lookM] at h
  | cons c s =>
    simp only [lookM] at h ⊢
    split at h
    · simp at h
    · rename_i hc
      simp only [if_neg hc]
      split at h
      · rename_i e hs
        simp only at h
        subst h
        exact absurd hs (by
          intro hs
          have : ∀ (f : Nat) (s : List UInt8) (x i : Nat), scan f s x i ≠ .inl 0 := by
            intro f
            induction f with
            | zero => intro s x i hh; simp [scan] at hh
            | succ f ih =>
              intro s x i hh
              cases s with
              | nil => simp [scan] at hh
              | cons c s =>
                simp only [scan] at hh
                split at hh
                · exact ih _ _ _ hh
                · cases hh
          exact this _ _ _ _ hs)
      · rename_i n k hs
        split at h
        · simp at h
        · rename_i hn
          simp only [hs, if_neg hn]
          have := scan_canon 6 (c :: s) 0 0 n k hs (.inr (by simpa using hc))
          rw [lead_zero, List.nil_append, Nat.sub_zero] at this
          have hh : held (n : Int) = n := by
            have := held_of (x := (n : Int)) (by omega) (by omega)
            omega
          rw [numB, hh]; exact this

def Canon {α : Type} (bytes : α → List UInt8) (one : List UInt8 → Nat → Int → α × Nat × Int) : Prop :=
  ∀ bs p e, (one bs p e).2.2 = 0 → e = 0 ∧ bs.drop p = bytes (one bs p e).1 ++ bs.drop (one bs p e).2.1

theorem num_canon (most : Int) : Canon numB (fun bs p e => numM bs p e most) := by
  intro bs p e h
  simp only [numM] at h ⊢
  split at h
  · rename_i he; exact absurd h he
  · rename_i he
    simp only [if_neg he]
    refine ⟨by omega, ?_⟩
    rw [← List.drop_drop]
    exact look_canon h

theorem text_canon (most : Int) : Canon text (fun bs p e => strM bs p e most) := by
  intro bs p e h
  simp only [strM] at h ⊢
  split at h
  · rename_i he; exact absurd h he
  rename_i he
  split at h
  · rename_i h1; exact absurd h h1
  rename_i h1
  split at h
  · simp at h
  rename_i h2
  simp only [if_neg he, if_neg h1, if_neg h2]
  refine ⟨by omega, ?_⟩
  have hc := look_canon (s := bs.drop p) (most := most) (by simpa using h1)
  have hl := lookM_le (bs.drop p) most
  generalize lookM (bs.drop p) most = q at h2 hc hl ⊢
  obtain ⟨n, k, er⟩ := q
  simp only at h2 hc hl ⊢
  have hlen : ((bs.drop (p + k)).take n.toNat).length = n.toNat := by
    rw [List.length_take, List.length_drop]; omega
  rw [List.drop_drop] at hc
  rw [hc, text, hlen, show numB n = enc (held (n.toNat : Int)) by rw [numB, show ((n.toNat : Int)) = n by omega], List.append_assoc]
  congr 1
  rw [show bs.drop (p + k + n.toNat) = (bs.drop (p + k)).drop n.toNat by rw [List.drop_drop], List.take_append_drop]

theorem span_canon : Canon spanB spanR := by
  intro bs p e h
  simp only [spanR] at h ⊢
  obtain ⟨h1, h2⟩ := num_canon 1000000000 bs _ _ h
  obtain ⟨h3, h4⟩ := num_canon 1000000000 bs _ _ h1
  have m1 := numM_most bs p e 1000000000 (by omega)
  have m2 := numM_most bs (numM bs p e 1000000000).2.1 (numM bs p e 1000000000).2.2 1000000000 (by omega)
  simp only at h2 h4
  refine ⟨h3, ?_⟩
  rw [h4, h2, spanB]
  generalize (numM bs p e 1000000000).1 = a at m1 ⊢
  generalize numM bs (numM bs p e 1000000000).2.1 (numM bs p e 1000000000).2.2 1000000000 = q at m2 ⊢
  simp only
  rw [wrap64 (x := a + q.1) (by omega) (by omega), wrap64 (x := a + q.1 - a) (by omega) (by omega), show a + q.1 - a = q.1 by omega, List.append_assoc]

theorem listR_canon {α : Type} {bytes : α → List UInt8} {one : List UInt8 → Nat → Int → α × Nat × Int} (hc : Canon bytes one) (bs : List UInt8) : ∀ (k p : Nat) (e : Int), (listR (one bs) k p e).2.2 = 0 →
    e = 0 ∧ (listR (one bs) k p e).1.length = k ∧ bs.drop p = (listR (one bs) k p e).1.flatMap bytes ++ bs.drop (listR (one bs) k p e).2.1
  | 0, p, e, h => by
    simp only [listR] at h ⊢
    exact ⟨h, rfl, by simp⟩
  | k + 1, p, e, h => by
    simp only [listR] at h ⊢
    split at h
    · rename_i he
      simp only [if_pos he]
      obtain ⟨a, b, c⟩ := listR_canon hc bs k _ _ h
      obtain ⟨d, f⟩ := hc bs p e a
      refine ⟨he, by rw [List.length_cons, b], ?_⟩
      rw [f, c, List.flatMap_cons, List.append_assoc]
    · rename_i he
      exact absurd h he

theorem listM_canon {α : Type} {bytes : α → List UInt8} {one : List UInt8 → Nat → Int → α × Nat × Int} (hc : Canon bytes one) {most : Int} (hm : 0 ≤ most) : ∀ bs p e, (listM (one bs) bs p e most).2.2 = 0 →
    e = 0 ∧ bs.drop p = numB (listM (one bs) bs p e most).1.length ++ (listM (one bs) bs p e most).1.flatMap bytes ++ bs.drop (listM (one bs) bs p e most).2.1 := by
  intro bs p e h
  simp only [listM] at h ⊢
  obtain ⟨a, b, c⟩ := listR_canon hc bs _ _ _ h
  obtain ⟨d, f⟩ := num_canon most bs p e a
  have m1 := numM_most bs p e most hm
  simp only at f
  refine ⟨d, ?_⟩
  rw [b, f, c, List.append_assoc, show (((numM bs p e most).1.toNat : Nat) : Int) = (numM bs p e most).1 by omega]

theorem need_canon : Canon needB needR := by
  intro bs p e h
  simp only [needR] at h ⊢
  obtain ⟨a, b⟩ := listM_canon span_canon (by omega) bs _ _ h
  obtain ⟨c, d⟩ := text_canon 24 bs p e a
  simp only at d
  refine ⟨c, ?_⟩
  rw [d, b, needB]
  simp only [List.append_assoc]

theorem closeM_zero {e : Int} {n : Nat} (h : closeM e n = 0) : e = 0 ∧ n = 0 := by
  unfold closeM at h
  split at h
  · rename_i he; exact absurd h he
  · split at h
    · simp at h
    · exact ⟨by omega, by omega⟩

/-! ### the law -/

section
variable {Post : AV → List AObj → Prop}

end
end W
end

section
/- Events out of bytes: what the code reads. -/

set_option linter.unusedVariables false
set_option linter.unusedSimpArgs false
set_option maxRecDepth 100000
open Go Go.Ab Go.Proofs V S T C
open W (sl1 slS slN slR cons_dec listR listM needR spanR numM_p strM_p numM_most strM_len listM_p needR_p spanR_p listM_len listR_len listR_all needR_ok leNone renN renS leAppT Inside)
open EB (v284_3 v284_7 s284 c284_3 c284_7 q284_2 q284_7 s191 s192 s187 s281 v281_2 c281_2 q281_2 s73 v73_4 v73_7 c73_4 c73_7 q73_2 q73_0)
namespace E

/-! ### the model -/

/-! ### needs -/

section
variable {bs : List UInt8} {p : Nat} {e : Int} {Post : AV → List AObj → Prop}

/-! ### one event -/

end
end E
end

section
/- Events as bytes and back: plain laws. -/

set_option linter.unusedVariables false
set_option linter.unusedSimpArgs false
set_option maxRecDepth 100000
open Go Go.Ab Go.Proofs V S T C
open W (numB text spanB needB needR listM listR numM_most numM_p strM_p strM_len Back Canon num_back text_back need_back listM_back listR_back num_canon text_canon need_canon listM_canon listR_canon closeM_zero needOk_ok numB_len text_len needB_len flat_len)
namespace E

end E
end
