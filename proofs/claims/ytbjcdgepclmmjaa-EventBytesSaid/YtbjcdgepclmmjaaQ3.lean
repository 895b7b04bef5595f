/- Q3: several of this proof's own texts, one behind the other: what each proves stands at its head. -/
import Derived.Test.YtbjcdgepclmmjaaProg
import Derived.Test.YtbjcdgepclmmjaaQ2
import Derived.Test.YtbjcdgepclmmjaaA1
section
/- Printed: what the code of functions 284, 191, 192, 187, 281, 73, 416, 417, 418, 193, 74, 195, 75, 76, 9 asks for, by the framework's own reading of it; each line is checked against the code. -/

set_option linter.unusedVariables false
set_option maxRecDepth 100000
set_option maxHeartbeats 4000000
open Go Go.Ab Go.Proofs
namespace EB
noncomputable section

noncomputable def retEB : List (Nat × Ret) := [
  (9, ⟨Unit, fun _ _ _ => .bool true, fun _ H _ => H⟩),
  (284, ⟨List T.Need × Int × Int, fun _ _ x => .sl 2 (.map T.encN ([], []) x.1) .none, fun a H x => V.upd3 a H x.2.1 x.2.2⟩),
  (191, ⟨T.Ev × Int × Int, fun _ _ x => .agg (T.encE x.1), fun a H x => V.upd3 a H x.2.1 x.2.2⟩),
  (193, ⟨List T.Need × ByteArray × Int, fun _ _ x => .sl 2 (.map T.encN ([], []) x.1) .none, fun a H x => V.upd2 a H x.2.1 x.2.2⟩),
  (73, ⟨List T.Ev × Int, fun _ _ x => .tup [.sl 5 (.map T.encE T.noEv x.1) .none, .int .i64 x.2], fun _ H _ => H⟩),
  (74, ⟨List T.Ev × Int, fun _ _ x => .tup [.sl 5 (.map T.encE T.noEv x.1) .none, .int .i64 x.2], fun _ H _ => H⟩),
  (75, ⟨ByteArray, fun _ _ x => .str x, fun _ H _ => H⟩),
  (195, ⟨ByteArray, fun _ _ x => .str x, fun _ H _ => H⟩),
  (192, ⟨Bool, fun _ _ x => .bool x, fun _ H _ => H⟩),
  (76, ⟨Bool, fun _ _ x => .bool x, fun _ H _ => H⟩)]
noncomputable def rets : FuncId → List Ret := lookupR (retEB ++ E.retE ++ C.retC ++ V.retL)

-- 284
noncomputable def l284 : Nat → List Nat
  | 3 => [0, 3, 4]
  | 7 => [0, 3, 4, 5, 6]
  | _ => []
noncomputable def u284 : Nat → Bool
  | _ => false
noncomputable def m284 : Nat → Bool
  | _ => false
noncomputable def g284 : Cfg := { N := 51, live := l284, cut := u284, mu := m284, ret := rets }
noncomputable def c284 : Go.Code := Go.Ab.bodyOf Go.Proofs.Try.f284
noncomputable def q284_0 : Nat → (AV → List AObj → Prop) → AQ := fun (n : Nat) (Post : AV → List AObj → Prop) => endQ Try.prog (resultsOf Try.f284) Post
noncomputable def q284_1 : Nat → (AV → List AObj → Prop) → AQ := fun (n : Nat) (Post : AV → List AObj → Prop) => seqQ (fun (s' : Slots) (H' : List AObj) => awp Try.prog g284 n (codeSnd (codeSnd (codeSnd c284))) s' H' (q284_0 n Post)) (q284_0 n Post)
noncomputable def q284_2 : Nat → (AV → List AObj → Prop) → AQ := fun (n : Nat) (Post : AV → List AObj → Prop) => blockQ 0 (q284_1 n Post)
noncomputable def c284_3 : Go.Code := codeFst (codeSnd (codeFst (codeSnd (codeSnd c284))))
theorem s284 : ∀ (bs : List UInt8) (p e : Int) (Post : AV → List AObj → Prop),
  (ASpec Try.prog 143 [AV.ptr 0 0, AV.int IntKind.i64 (6 : Int)]
      [AObj.cells [AV.sl 1 (Seq.map encB (0 : UInt8) bs) Tip.none, AV.int IntKind.i64 p, AV.int IntKind.i64 e]] fun (r : AV) (H' : List AObj) =>
      ∃ (x : Int × Int × Int),
        r = AV.int IntKind.i64 (Prod.fst x) ∧
        H' = [AObj.cells [AV.sl 1 (Seq.map encB (0 : UInt8) bs) Tip.none, AV.int IntKind.i64 (Prod.fst (Prod.snd x)), AV.int IntKind.i64 (Prod.snd (Prod.snd x))]] ∧
        AWP Try.prog 51 1 c284_3 [(0, AV.ptr 0 0), (3, AV.sl 0 (Seq.raw []) Tip.nil), (4, AV.int IntKind.i64 (Prod.fst x))]
        [AObj.cells [AV.sl 1 (Seq.map encB (0 : UInt8) bs) Tip.none, AV.int IntKind.i64 (Prod.fst (Prod.snd x)), AV.int IntKind.i64 (Prod.snd (Prod.snd x))]] (q284_2 1 Post)) →
    ASpec Try.prog 284 [AV.ptr 0 0] [V.rd bs p e] Post := fun bs p e Post h => Go.Ab.ASpec.of_vc g284 Go.Proofs.Try.func284 (by kernel_rfl) (by kernel_rfl) (by kernel_rfl) (Go.Ab.kc (by kernel_rfl) h)
noncomputable def q284_3 : Nat → (AV → List AObj → Prop) → AQ := fun (n : Nat) (Post : AV → List AObj → Prop) => loopQ Try.prog 51 n c284_3 (q284_2 n Post) (Cfg.live g284)
noncomputable def q284_4 : Nat → (AV → List AObj → Prop) → AQ := fun (n : Nat) (Post : AV → List AObj → Prop) => seqQ (fun (s' : Slots) (H' : List AObj) => awp Try.prog g284 n (codeSnd (codeSnd (codeFst c284_3))) s' H' (q284_3 n Post)) (q284_3 n Post)
noncomputable def q284_5 : Nat → (AV → List AObj → Prop) → AQ := fun (n : Nat) (Post : AV → List AObj → Prop) => blockQ 1 (q284_4 n Post)
noncomputable def q284_6 : Nat → (AV → List AObj → Prop) → AQ := fun (n : Nat) (Post : AV → List AObj → Prop) => seqQ (fun (s' : Slots) (H' : List AObj) => awp Try.prog g284 n (codeSnd (codeSnd (codeFst (codeFst (codeSnd (codeFst c284_3)))))) s' H' (q284_5 n Post)) (q284_5 n Post)
noncomputable def q284_7 : Nat → (AV → List AObj → Prop) → AQ := fun (n : Nat) (Post : AV → List AObj → Prop) => blockQ 2 (q284_6 n Post)
noncomputable def c284_7 : Go.Code := codeFst (codeSnd (codeFst (codeSnd (codeFst (codeFst (codeSnd (codeFst c284_3)))))))
theorem v284_3 : ∀ (bs : List UInt8) (p e : Int) (acc : List T.Need) (n : Int) (n_1 : Nat) (Post : AV → List AObj → Prop),
  condP (decide (n > (0 : Int)))
      (ASpec Try.prog 144 [AV.ptr 0 0] [AObj.cells [AV.sl 1 (Seq.map encB (0 : UInt8) bs) Tip.none, AV.int IntKind.i64 p, AV.int IntKind.i64 e], AObj.tok]
        fun (r : AV) (H' : List AObj) =>
        ∃ (x : Int),
        r = AV.int IntKind.i64 x ∧
        H' = [AObj.cells [AV.sl 1 (Seq.map encB (0 : UInt8) bs) Tip.none, AV.int IntKind.i64 p, AV.int IntKind.i64 e], AObj.tok] ∧
        condP (x == (0 : Int))
        (ASpec Try.prog 145 [AV.ptr 0 0, AV.int IntKind.i64 (24 : Int)]
        [AObj.cells [AV.sl 1 (Seq.map encB (0 : UInt8) bs) Tip.none, AV.int IntKind.i64 p, AV.int IntKind.i64 e], AObj.tok] fun (r : AV) (H' : List AObj) =>
        ∃ (x : ByteArray × Int × Int),
        r = AV.str (Prod.fst x) ∧
        H' = [AObj.cells [AV.sl 1 (Seq.map encB (0 : UInt8) bs) Tip.none, AV.int IntKind.i64 (Prod.fst (Prod.snd x)), AV.int IntKind.i64 (Prod.snd (Prod.snd x))], AObj.tok] ∧
        ASpec Try.prog 143 [AV.ptr 0 0, AV.int IntKind.i64 (6 : Int)]
        [AObj.cells [AV.sl 1 (Seq.map encB (0 : UInt8) bs) Tip.none, AV.int IntKind.i64 (Prod.fst (Prod.snd x)), AV.int IntKind.i64 (Prod.snd (Prod.snd x))], AObj.tok,
        AObj.cells [AV.str (Prod.fst x), AV.sl 0 (Seq.raw []) Tip.nil]]
        fun (r : AV) (H' : List AObj) =>
        ∃ (x_1 : Int × Int × Int),
        r = AV.int IntKind.i64 (Prod.fst x_1) ∧
        H' =
        [AObj.cells [AV.sl 1 (Seq.map encB (0 : UInt8) bs) Tip.none, AV.int IntKind.i64 (Prod.fst (Prod.snd x_1)), AV.int IntKind.i64 (Prod.snd (Prod.snd x_1))],
        AObj.tok, AObj.cells [AV.str (Prod.fst x), AV.sl 0 (Seq.raw []) Tip.nil]] ∧
        AWP Try.prog 51 n_1 c284_7
        [(0, AV.ptr 0 0), (3, AV.sl 2 (Seq.map T.encN ([], []) acc) (Tip.tok 1)), (4, AV.int IntKind.i64 n),
        (5, AV.ptr 2 0), (6, AV.int IntKind.i64 (Prod.fst x_1))]
        [AObj.cells [AV.sl 1 (Seq.map encB (0 : UInt8) bs) Tip.none, AV.int IntKind.i64 (Prod.fst (Prod.snd x_1)), AV.int IntKind.i64 (Prod.snd (Prod.snd x_1))],
        AObj.tok, AObj.cells [AV.str (Prod.fst x), AV.sl 0 (Seq.raw []) Tip.nil]]
        (q284_7 n_1 Post))
        (Post (AV.sl 2 (Seq.map T.encN ([], []) acc) (Tip.tok 1))
        [AObj.cells [AV.sl 1 (Seq.map encB (0 : UInt8) bs) Tip.none, AV.int IntKind.i64 p, AV.int IntKind.i64 e], AObj.tok]))
      (Post (AV.sl 2 (Seq.map T.encN ([], []) acc) (Tip.tok 1))
        [AObj.cells [AV.sl 1 (Seq.map encB (0 : UInt8) bs) Tip.none, AV.int IntKind.i64 p, AV.int IntKind.i64 e], AObj.tok]) →
    AWP Try.prog 51 n_1 c284_3 [(0, AV.ptr 0 0), (3, AV.sl 2 (Seq.map T.encN ([], []) acc) (Tip.tok 1)), (4, AV.int IntKind.i64 n)]
      [V.rd bs p e, AObj.tok] (q284_2 n_1 Post) := fun bs p e acc n n Post h => Go.Ab.AWP.loop' g284 (Cfg.live g284) c284_3 (by kernel_rfl) (by kernel_rfl) (Go.Ab.kc (by kernel_rfl) h)
theorem v284_7 : ∀ (bs : List UInt8) (p e : Int) (acc : List T.Need) (n : Int) (nm : ByteArray) (sp : List T.Span) (k : Int) (n_1 : Nat) (Post : AV → List AObj → Prop),
  condP (decide (k > (0 : Int)))
      (ASpec Try.prog 144 [AV.ptr 0 0]
        [AObj.cells [AV.sl 1 (Seq.map encB (0 : UInt8) bs) Tip.none, AV.int IntKind.i64 p, AV.int IntKind.i64 e], AObj.tok,
        AObj.cells [AV.str nm, AV.sl 2 (Seq.map T.encS ((0 : Int), (0 : Int)) sp) (Tip.tok 3)], AObj.tok]
        fun (r : AV) (H' : List AObj) =>
        ∃ (x : Int),
        r = AV.int IntKind.i64 x ∧
        H' =
        [AObj.cells [AV.sl 1 (Seq.map encB (0 : UInt8) bs) Tip.none, AV.int IntKind.i64 p, AV.int IntKind.i64 e], AObj.tok,
        AObj.cells [AV.str nm, AV.sl 2 (Seq.map T.encS ((0 : Int), (0 : Int)) sp) (Tip.tok 3)], AObj.tok] ∧
        condP (x == (0 : Int))
        (ASpec Try.prog 143 [AV.ptr 0 0, AV.int IntKind.i64 (1000000000 : Int)]
        [AObj.cells [AV.sl 1 (Seq.map encB (0 : UInt8) bs) Tip.none, AV.int IntKind.i64 p, AV.int IntKind.i64 e], AObj.tok,
        AObj.cells [AV.str nm, AV.sl 2 (Seq.map T.encS ((0 : Int), (0 : Int)) sp) (Tip.tok 3)], AObj.tok]
        fun (r : AV) (H' : List AObj) =>
        ∃ (x : Int × Int × Int),
        r = AV.int IntKind.i64 (Prod.fst x) ∧
        H' =
        [AObj.cells [AV.sl 1 (Seq.map encB (0 : UInt8) bs) Tip.none, AV.int IntKind.i64 (Prod.fst (Prod.snd x)), AV.int IntKind.i64 (Prod.snd (Prod.snd x))], AObj.tok,
        AObj.cells [AV.str nm, AV.sl 2 (Seq.map T.encS ((0 : Int), (0 : Int)) sp) (Tip.tok 3)], AObj.tok] ∧
        ASpec Try.prog 143 [AV.ptr 0 0, AV.int IntKind.i64 (1000000000 : Int)]
        [AObj.cells [AV.sl 1 (Seq.map encB (0 : UInt8) bs) Tip.none, AV.int IntKind.i64 (Prod.fst (Prod.snd x)), AV.int IntKind.i64 (Prod.snd (Prod.snd x))], AObj.tok,
        AObj.cells [AV.str nm, AV.sl 2 (Seq.map T.encS ((0 : Int), (0 : Int)) sp) (Tip.tok 3)], AObj.tok]
        fun (r : AV) (H' : List AObj) =>
        ∃ (x_1 : Int × Int × Int),
        r = AV.int IntKind.i64 (Prod.fst x_1) ∧
        H' =
        [AObj.cells [AV.sl 1 (Seq.map encB (0 : UInt8) bs) Tip.none, AV.int IntKind.i64 (Prod.fst (Prod.snd x_1)), AV.int IntKind.i64 (Prod.snd (Prod.snd x_1))],
        AObj.tok, AObj.cells [AV.str nm, AV.sl 2 (Seq.map T.encS ((0 : Int), (0 : Int)) sp) (Tip.tok 3)], AObj.tok] ∧
        (AV.sl 2 (Seq.map T.encS ((0 : Int), (0 : Int)) sp) (Tip.tok 3) = AV.sl 2 (Seq.map T.encS ((0 : Int), (0 : Int)) sp) (Tip.tok 3) ∧
        [AObj.cells [AV.sl 1 (Seq.map encB (0 : UInt8) bs) Tip.none, AV.int IntKind.i64 (Prod.fst (Prod.snd x_1)), AV.int IntKind.i64 (Prod.snd (Prod.snd x_1))],
        AObj.tok, AObj.cells [AV.str nm, AV.sl 2 (Seq.map T.encS ((0 : Int), (0 : Int)) sp) (Tip.tok 3)], AObj.tok] =
        [AObj.cells [AV.sl 1 (Seq.map encB (0 : UInt8) bs) Tip.none, AV.int IntKind.i64 (Prod.fst (Prod.snd x_1)), AV.int IntKind.i64 (Prod.snd (Prod.snd x_1))],
        AObj.tok, AObj.cells [AV.str nm, AV.sl 2 (Seq.map T.encS ((0 : Int), (0 : Int)) sp) (Tip.tok 3)], AObj.tok]) ∧
        needP ((List.length sp + 1) * 16 ≤ 140737488351232)
        (AWP Try.prog 51 n_1 c284_7
        [(0, AV.ptr 0 0), (3, AV.sl 2 (Seq.map T.encN ([], []) acc) (Tip.tok 1)), (4, AV.int IntKind.i64 n),
        (5, AV.ptr 2 0), (6, AV.int IntKind.i64 (IntKind.wrap IntKind.i64 (k - (1 : Int))))]
        [AObj.cells [AV.sl 1 (Seq.map encB (0 : UInt8) bs) Tip.none, AV.int IntKind.i64 (Prod.fst (Prod.snd x_1)), AV.int IntKind.i64 (Prod.snd (Prod.snd x_1))],
        AObj.tok,
        AObj.cells
        [AV.str nm,
        AV.sl 2
        (Seq.app (Seq.map T.encS ((0 : Int), (0 : Int)) sp)
        (Seq.raw [[AV.int IntKind.i64 (Prod.fst x), AV.int IntKind.i64 (IntKind.wrap IntKind.i64 (Prod.fst x + Prod.fst x_1))]]))
        (Tip.tok 4)],
        AObj.gone, AObj.tok]
        (q284_7 n_1 Post)))
        (needP ((List.length acc + 1) * 40 ≤ 140737488351232)
        (AWP Try.prog 51 n_1 c284_3
        [(0, AV.ptr 0 0),
        (3,
        AV.sl 2 (Seq.app (Seq.map T.encN ([], []) acc) (Seq.raw [[AV.str nm, AV.sl 2 (Seq.map T.encS ((0 : Int), (0 : Int)) sp) (Tip.tok 3)]]))
        (Tip.tok 4)),
        (4, AV.int IntKind.i64 (IntKind.wrap IntKind.i64 (n - (1 : Int))))]
        [AObj.cells [AV.sl 1 (Seq.map encB (0 : UInt8) bs) Tip.none, AV.int IntKind.i64 p, AV.int IntKind.i64 e], AObj.gone,
        AObj.cells [AV.str nm, AV.sl 2 (Seq.map T.encS ((0 : Int), (0 : Int)) sp) (Tip.tok 3)], AObj.tok, AObj.tok]
        (q284_2 n_1 Post))))
      (needP ((List.length acc + 1) * 40 ≤ 140737488351232)
        (AWP Try.prog 51 n_1 c284_3
        [(0, AV.ptr 0 0),
        (3,
        AV.sl 2 (Seq.app (Seq.map T.encN ([], []) acc) (Seq.raw [[AV.str nm, AV.sl 2 (Seq.map T.encS ((0 : Int), (0 : Int)) sp) (Tip.tok 3)]])) (Tip.tok 4)),
        (4, AV.int IntKind.i64 (IntKind.wrap IntKind.i64 (n - (1 : Int))))]
        [AObj.cells [AV.sl 1 (Seq.map encB (0 : UInt8) bs) Tip.none, AV.int IntKind.i64 p, AV.int IntKind.i64 e], AObj.gone,
        AObj.cells [AV.str nm, AV.sl 2 (Seq.map T.encS ((0 : Int), (0 : Int)) sp) (Tip.tok 3)], AObj.tok, AObj.tok]
        (q284_2 n_1 Post))) →
    AWP Try.prog 51 n_1 c284_7
      [(0, AV.ptr 0 0), (3, AV.sl 2 (Seq.map T.encN ([], []) acc) (Tip.tok 1)), (4, AV.int IntKind.i64 n),
        (5, AV.ptr 2 0), (6, AV.int IntKind.i64 k)]
      [V.rd bs p e, AObj.tok, AObj.cells [AV.str nm, AV.sl 2 (Seq.map T.encS ((0 : Int), (0 : Int)) sp) (Tip.tok 3)], AObj.tok] (q284_7 n_1 Post) := fun bs p e acc n nm sp k n Post h => Go.Ab.AWP.loop' g284 (Cfg.live g284) c284_7 (by kernel_rfl) (by kernel_rfl) (Go.Ab.kc (by kernel_rfl) h)

-- 191
noncomputable def l191 : Nat → List Nat
  | _ => []
noncomputable def u191 : Nat → Bool
  | _ => false
noncomputable def m191 : Nat → Bool
  | _ => false
noncomputable def g191 : Cfg := { N := 32, live := l191, cut := u191, mu := m191, ret := rets }
noncomputable def c191 : Go.Code := Go.Ab.bodyOf Go.Proofs.Try.f191
theorem s191 : ∀ (bs : List UInt8) (p e : Int) (Post : AV → List AObj → Prop),
  (ASpec Try.prog 143 [AV.ptr 0 0, AV.int IntKind.i64 (4 : Int)]
      [AObj.cells [AV.sl 1 (Seq.map encB (0 : UInt8) bs) Tip.none, AV.int IntKind.i64 p, AV.int IntKind.i64 e],
        AObj.cells [AV.int IntKind.i64 (0 : Int), AV.sl 0 (Seq.raw []) Tip.nil, AV.int IntKind.i64 (0 : Int), AV.int IntKind.i64 (0 : Int), AV.sl 0 (Seq.raw []) Tip.nil]]
      fun (r : AV) (H' : List AObj) =>
      ∃ (x : Int × Int × Int),
        r = AV.int IntKind.i64 (Prod.fst x) ∧
        H' =
        [AObj.cells [AV.sl 1 (Seq.map encB (0 : UInt8) bs) Tip.none, AV.int IntKind.i64 (Prod.fst (Prod.snd x)), AV.int IntKind.i64 (Prod.snd (Prod.snd x))],
        AObj.cells [AV.int IntKind.i64 (0 : Int), AV.sl 0 (Seq.raw []) Tip.nil, AV.int IntKind.i64 (0 : Int), AV.int IntKind.i64 (0 : Int), AV.sl 0 (Seq.raw []) Tip.nil]] ∧
        condP (Prod.fst x == (1 : Int))
        (ASpec Try.prog 143 [AV.ptr 0 0, AV.int IntKind.i64 (1099511627776 : Int)]
        [AObj.cells [AV.sl 1 (Seq.map encB (0 : UInt8) bs) Tip.none, AV.int IntKind.i64 (Prod.fst (Prod.snd x)), AV.int IntKind.i64 (Prod.snd (Prod.snd x))],
        AObj.cells [AV.int IntKind.i64 (0 : Int), AV.sl 0 (Seq.raw []) Tip.nil, AV.int IntKind.i64 (0 : Int), AV.int IntKind.i64 (0 : Int), AV.sl 0 (Seq.raw []) Tip.nil],
        AObj.cells [AV.int IntKind.i64 (Prod.fst x), AV.sl 0 (Seq.raw []) Tip.nil, AV.int IntKind.i64 (0 : Int), AV.int IntKind.i64 (0 : Int), AV.sl 0 (Seq.raw []) Tip.nil]]
        fun (r : AV) (H' : List AObj) =>
        ∃ (x_1 : Int × Int × Int),
        r = AV.int IntKind.i64 (Prod.fst x_1) ∧
        H' =
        [AObj.cells [AV.sl 1 (Seq.map encB (0 : UInt8) bs) Tip.none, AV.int IntKind.i64 (Prod.fst (Prod.snd x_1)), AV.int IntKind.i64 (Prod.snd (Prod.snd x_1))],
        AObj.cells
        [AV.int IntKind.i64 (0 : Int), AV.sl 0 (Seq.raw []) Tip.nil, AV.int IntKind.i64 (0 : Int), AV.int IntKind.i64 (0 : Int), AV.sl 0 (Seq.raw []) Tip.nil],
        AObj.cells
        [AV.int IntKind.i64 (Prod.fst x), AV.sl 0 (Seq.raw []) Tip.nil, AV.int IntKind.i64 (0 : Int), AV.int IntKind.i64 (0 : Int), AV.sl 0 (Seq.raw []) Tip.nil]] ∧
        ASpec Try.prog 284 [AV.ptr 0 0]
        [AObj.cells [AV.sl 1 (Seq.map encB (0 : UInt8) bs) Tip.none, AV.int IntKind.i64 (Prod.fst (Prod.snd x_1)), AV.int IntKind.i64 (Prod.snd (Prod.snd x_1))],
        AObj.cells
        [AV.int IntKind.i64 (0 : Int), AV.sl 0 (Seq.raw []) Tip.nil, AV.int IntKind.i64 (0 : Int), AV.int IntKind.i64 (0 : Int), AV.sl 0 (Seq.raw []) Tip.nil],
        AObj.cells
        [AV.int IntKind.i64 (Prod.fst x), AV.sl 0 (Seq.raw []) Tip.nil, AV.int IntKind.i64 (Prod.fst x_1), AV.int IntKind.i64 (0 : Int),
        AV.sl 0 (Seq.raw []) Tip.nil]]
        fun (r : AV) (H' : List AObj) =>
        ∃ (x_2 : List T.Need × Int × Int),
        r = AV.sl 2 (Seq.map T.encN ([], []) (Prod.fst x_2)) Tip.none ∧
        H' =
        [AObj.cells [AV.sl 1 (Seq.map encB (0 : UInt8) bs) Tip.none, AV.int IntKind.i64 (Prod.fst (Prod.snd x_2)), AV.int IntKind.i64 (Prod.snd (Prod.snd x_2))],
        AObj.cells
        [AV.int IntKind.i64 (0 : Int), AV.sl 0 (Seq.raw []) Tip.nil, AV.int IntKind.i64 (0 : Int), AV.int IntKind.i64 (0 : Int),
        AV.sl 0 (Seq.raw []) Tip.nil],
        AObj.cells
        [AV.int IntKind.i64 (Prod.fst x), AV.sl 0 (Seq.raw []) Tip.nil, AV.int IntKind.i64 (Prod.fst x_1), AV.int IntKind.i64 (0 : Int),
        AV.sl 0 (Seq.raw []) Tip.nil]] ∧
        Post
        (AV.agg
        [AV.int IntKind.i64 (Prod.fst x), AV.sl 2 (Seq.map T.encN ([], []) (Prod.fst x_2)) Tip.none, AV.int IntKind.i64 (Prod.fst x_1), AV.int IntKind.i64 (0 : Int),
        AV.sl 0 (Seq.raw []) Tip.nil])
        [AObj.cells [AV.sl 1 (Seq.map encB (0 : UInt8) bs) Tip.none, AV.int IntKind.i64 (Prod.fst (Prod.snd x_2)), AV.int IntKind.i64 (Prod.snd (Prod.snd x_2))],
        AObj.cells
        [AV.int IntKind.i64 (Prod.fst x), AV.sl 2 (Seq.map T.encN ([], []) (Prod.fst x_2)) Tip.none, AV.int IntKind.i64 (Prod.fst x_1),
        AV.int IntKind.i64 (0 : Int), AV.sl 0 (Seq.raw []) Tip.nil],
        AObj.cells
        [AV.int IntKind.i64 (Prod.fst x), AV.sl 2 (Seq.map T.encN ([], []) (Prod.fst x_2)) Tip.none, AV.int IntKind.i64 (Prod.fst x_1),
        AV.int IntKind.i64 (0 : Int), AV.sl 0 (Seq.raw []) Tip.nil]])
        (condP (Prod.fst x == (3 : Int))
        (ASpec Try.prog 143 [AV.ptr 0 0, AV.int IntKind.i64 (1099511627776 : Int)]
        [AObj.cells [AV.sl 1 (Seq.map encB (0 : UInt8) bs) Tip.none, AV.int IntKind.i64 (Prod.fst (Prod.snd x)), AV.int IntKind.i64 (Prod.snd (Prod.snd x))],
        AObj.cells [AV.int IntKind.i64 (0 : Int), AV.sl 0 (Seq.raw []) Tip.nil, AV.int IntKind.i64 (0 : Int), AV.int IntKind.i64 (0 : Int), AV.sl 0 (Seq.raw []) Tip.nil],
        AObj.cells
        [AV.int IntKind.i64 (Prod.fst x), AV.sl 0 (Seq.raw []) Tip.nil, AV.int IntKind.i64 (0 : Int), AV.int IntKind.i64 (0 : Int), AV.sl 0 (Seq.raw []) Tip.nil]]
        fun (r : AV) (H' : List AObj) =>
        ∃ (x_1 : Int × Int × Int),
        r = AV.int IntKind.i64 (Prod.fst x_1) ∧
        H' =
        [AObj.cells [AV.sl 1 (Seq.map encB (0 : UInt8) bs) Tip.none, AV.int IntKind.i64 (Prod.fst (Prod.snd x_1)), AV.int IntKind.i64 (Prod.snd (Prod.snd x_1))],
        AObj.cells
        [AV.int IntKind.i64 (0 : Int), AV.sl 0 (Seq.raw []) Tip.nil, AV.int IntKind.i64 (0 : Int), AV.int IntKind.i64 (0 : Int), AV.sl 0 (Seq.raw []) Tip.nil],
        AObj.cells
        [AV.int IntKind.i64 (Prod.fst x), AV.sl 0 (Seq.raw []) Tip.nil, AV.int IntKind.i64 (0 : Int), AV.int IntKind.i64 (0 : Int),
        AV.sl 0 (Seq.raw []) Tip.nil]] ∧
        ASpec Try.prog 145 [AV.ptr 0 0, AV.int IntKind.i64 (9000 : Int)]
        [AObj.cells [AV.sl 1 (Seq.map encB (0 : UInt8) bs) Tip.none, AV.int IntKind.i64 (Prod.fst (Prod.snd x_1)), AV.int IntKind.i64 (Prod.snd (Prod.snd x_1))],
        AObj.cells
        [AV.int IntKind.i64 (0 : Int), AV.sl 0 (Seq.raw []) Tip.nil, AV.int IntKind.i64 (0 : Int), AV.int IntKind.i64 (0 : Int), AV.sl 0 (Seq.raw []) Tip.nil],
        AObj.cells
        [AV.int IntKind.i64 (Prod.fst x), AV.sl 0 (Seq.raw []) Tip.nil, AV.int IntKind.i64 (0 : Int), AV.int IntKind.i64 (Prod.fst x_1),
        AV.sl 0 (Seq.raw []) Tip.nil]]
        fun (r : AV) (H' : List AObj) =>
        ∃ (x_2 : ByteArray × Int × Int),
        r = AV.str (Prod.fst x_2) ∧
        H' =
        [AObj.cells [AV.sl 1 (Seq.map encB (0 : UInt8) bs) Tip.none, AV.int IntKind.i64 (Prod.fst (Prod.snd x_2)), AV.int IntKind.i64 (Prod.snd (Prod.snd x_2))],
        AObj.cells
        [AV.int IntKind.i64 (0 : Int), AV.sl 0 (Seq.raw []) Tip.nil, AV.int IntKind.i64 (0 : Int), AV.int IntKind.i64 (0 : Int),
        AV.sl 0 (Seq.raw []) Tip.nil],
        AObj.cells
        [AV.int IntKind.i64 (Prod.fst x), AV.sl 0 (Seq.raw []) Tip.nil, AV.int IntKind.i64 (0 : Int), AV.int IntKind.i64 (Prod.fst x_1),
        AV.sl 0 (Seq.raw []) Tip.nil]] ∧
        Post
        (AV.agg
        [AV.int IntKind.i64 (Prod.fst x), AV.sl 0 (Seq.raw []) Tip.nil, AV.int IntKind.i64 (0 : Int), AV.int IntKind.i64 (Prod.fst x_1),
        AV.sl 1 (bytesSeq (Prod.fst x_2)) Tip.none])
        [AObj.cells [AV.sl 1 (Seq.map encB (0 : UInt8) bs) Tip.none, AV.int IntKind.i64 (Prod.fst (Prod.snd x_2)), AV.int IntKind.i64 (Prod.snd (Prod.snd x_2))],
        AObj.cells
        [AV.int IntKind.i64 (Prod.fst x), AV.sl 0 (Seq.raw []) Tip.nil, AV.int IntKind.i64 (0 : Int), AV.int IntKind.i64 (Prod.fst x_1),
        AV.sl 1 (bytesSeq (Prod.fst x_2)) Tip.none],
        AObj.cells
        [AV.int IntKind.i64 (Prod.fst x), AV.sl 0 (Seq.raw []) Tip.nil, AV.int IntKind.i64 (0 : Int), AV.int IntKind.i64 (Prod.fst x_1),
        AV.sl 1 (bytesSeq (Prod.fst x_2)) Tip.none]])
        (condP (Prod.fst x == (4 : Int))
        (ASpec Try.prog 143 [AV.ptr 0 0, AV.int IntKind.i64 (1099511627776 : Int)]
        [AObj.cells [AV.sl 1 (Seq.map encB (0 : UInt8) bs) Tip.none, AV.int IntKind.i64 (Prod.fst (Prod.snd x)), AV.int IntKind.i64 (Prod.snd (Prod.snd x))],
        AObj.cells [AV.int IntKind.i64 (0 : Int), AV.sl 0 (Seq.raw []) Tip.nil, AV.int IntKind.i64 (0 : Int), AV.int IntKind.i64 (0 : Int), AV.sl 0 (Seq.raw []) Tip.nil],
        AObj.cells
        [AV.int IntKind.i64 (Prod.fst x), AV.sl 0 (Seq.raw []) Tip.nil, AV.int IntKind.i64 (0 : Int), AV.int IntKind.i64 (0 : Int), AV.sl 0 (Seq.raw []) Tip.nil]]
        fun (r : AV) (H' : List AObj) =>
        ∃ (x_1 : Int × Int × Int),
        r = AV.int IntKind.i64 (Prod.fst x_1) ∧
        H' =
        [AObj.cells [AV.sl 1 (Seq.map encB (0 : UInt8) bs) Tip.none, AV.int IntKind.i64 (Prod.fst (Prod.snd x_1)), AV.int IntKind.i64 (Prod.snd (Prod.snd x_1))],
        AObj.cells
        [AV.int IntKind.i64 (0 : Int), AV.sl 0 (Seq.raw []) Tip.nil, AV.int IntKind.i64 (0 : Int), AV.int IntKind.i64 (0 : Int), AV.sl 0 (Seq.raw []) Tip.nil],
        AObj.cells
        [AV.int IntKind.i64 (Prod.fst x), AV.sl 0 (Seq.raw []) Tip.nil, AV.int IntKind.i64 (0 : Int), AV.int IntKind.i64 (0 : Int),
        AV.sl 0 (Seq.raw []) Tip.nil]] ∧
        Post
        (AV.agg
        [AV.int IntKind.i64 (Prod.fst x), AV.sl 0 (Seq.raw []) Tip.nil, AV.int IntKind.i64 (0 : Int), AV.int IntKind.i64 (Prod.fst x_1),
        AV.sl 0 (Seq.raw []) Tip.nil])
        [AObj.cells [AV.sl 1 (Seq.map encB (0 : UInt8) bs) Tip.none, AV.int IntKind.i64 (Prod.fst (Prod.snd x_1)), AV.int IntKind.i64 (Prod.snd (Prod.snd x_1))],
        AObj.cells
        [AV.int IntKind.i64 (Prod.fst x), AV.sl 0 (Seq.raw []) Tip.nil, AV.int IntKind.i64 (0 : Int), AV.int IntKind.i64 (Prod.fst x_1),
        AV.sl 0 (Seq.raw []) Tip.nil],
        AObj.cells
        [AV.int IntKind.i64 (Prod.fst x), AV.sl 0 (Seq.raw []) Tip.nil, AV.int IntKind.i64 (0 : Int), AV.int IntKind.i64 (Prod.fst x_1),
        AV.sl 0 (Seq.raw []) Tip.nil]])
        (Post
        (AV.agg [AV.int IntKind.i64 (Prod.fst x), AV.sl 0 (Seq.raw []) Tip.nil, AV.int IntKind.i64 (0 : Int), AV.int IntKind.i64 (0 : Int), AV.sl 0 (Seq.raw []) Tip.nil])
        [AObj.cells [AV.sl 1 (Seq.map encB (0 : UInt8) bs) Tip.none, AV.int IntKind.i64 (Prod.fst (Prod.snd x)), AV.int IntKind.i64 (Prod.snd (Prod.snd x))],
        AObj.cells
        [AV.int IntKind.i64 (Prod.fst x), AV.sl 0 (Seq.raw []) Tip.nil, AV.int IntKind.i64 (0 : Int), AV.int IntKind.i64 (0 : Int), AV.sl 0 (Seq.raw []) Tip.nil],
        AObj.cells
        [AV.int IntKind.i64 (Prod.fst x), AV.sl 0 (Seq.raw []) Tip.nil, AV.int IntKind.i64 (0 : Int), AV.int IntKind.i64 (0 : Int), AV.sl 0 (Seq.raw []) Tip.nil]])))) →
    ASpec Try.prog 191 [AV.ptr 0 0] [V.rd bs p e] Post := fun bs p e Post h => Go.Ab.ASpec.of_vc g191 Go.Proofs.Try.func191 (by kernel_rfl) (by kernel_rfl) (by kernel_rfl) (Go.Ab.kc (by kernel_rfl) h)

-- 192
noncomputable def l192 : Nat → List Nat
  | _ => []
noncomputable def u192 : Nat → Bool
  | _ => false
noncomputable def m192 : Nat → Bool
  | _ => false
noncomputable def g192 : Cfg := { N := 6, live := l192, cut := u192, mu := m192, ret := rets }
noncomputable def c192 : Go.Code := Go.Ab.bodyOf Go.Proofs.Try.f192
theorem s192 : ∀ (e : T.Ev) (Post : AV → List AObj → Prop),
  (ASpec Try.prog 189
      [AV.agg
        [AV.int IntKind.i64 (Prod.fst e), AV.sl 2 (Seq.map T.encN ([], []) (Prod.fst (Prod.snd e))) Tip.none, AV.int IntKind.i64 (Prod.fst (Prod.snd (Prod.snd e))),
        AV.int IntKind.i64 (Prod.fst (Prod.snd (Prod.snd (Prod.snd e)))), AV.sl 1 (Seq.map encB (0 : UInt8) (Prod.snd (Prod.snd (Prod.snd (Prod.snd e))))) Tip.none]]
      [AObj.cells
        [AV.int IntKind.i64 (Prod.fst e), AV.sl 2 (Seq.map T.encN ([], []) (Prod.fst (Prod.snd e))) Tip.none, AV.int IntKind.i64 (Prod.fst (Prod.snd (Prod.snd e))),
        AV.int IntKind.i64 (Prod.fst (Prod.snd (Prod.snd (Prod.snd e)))), AV.sl 1 (Seq.map encB (0 : UInt8) (Prod.snd (Prod.snd (Prod.snd (Prod.snd e))))) Tip.none]]
      fun (r : AV) (H' : List AObj) =>
      ∃ (x : Bool),
        r = AV.bool x ∧
        H' =
        [AObj.cells
        [AV.int IntKind.i64 (Prod.fst e), AV.sl 2 (Seq.map T.encN ([], []) (Prod.fst (Prod.snd e))) Tip.none, AV.int IntKind.i64 (Prod.fst (Prod.snd (Prod.snd e))),
        AV.int IntKind.i64 (Prod.fst (Prod.snd (Prod.snd (Prod.snd e)))), AV.sl 1 (Seq.map encB (0 : UInt8) (Prod.snd (Prod.snd (Prod.snd (Prod.snd e))))) Tip.none]] ∧
        Post (AV.bool !x)
        [AObj.cells
        [AV.int IntKind.i64 (Prod.fst e), AV.sl 2 (Seq.map T.encN ([], []) (Prod.fst (Prod.snd e))) Tip.none, AV.int IntKind.i64 (Prod.fst (Prod.snd (Prod.snd e))),
        AV.int IntKind.i64 (Prod.fst (Prod.snd (Prod.snd (Prod.snd e)))), AV.sl 1 (Seq.map encB (0 : UInt8) (Prod.snd (Prod.snd (Prod.snd (Prod.snd e))))) Tip.none]]) →
    ASpec Try.prog 192 [AV.agg (T.encE e)] [] Post := fun e Post h => Go.Ab.ASpec.of_vc g192 Go.Proofs.Try.func192 (by kernel_rfl) (by kernel_rfl) (by kernel_rfl) (Go.Ab.kc (by kernel_rfl) h)

-- 187
noncomputable def l187 : Nat → List Nat
  | _ => []
noncomputable def u187 : Nat → Bool
  | _ => false
noncomputable def m187 : Nat → Bool
  | _ => false
noncomputable def g187 : Cfg := { N := 9, live := l187, cut := u187, mu := m187, ret := rets }
noncomputable def c187 : Go.Code := Go.Ab.bodyOf Go.Proofs.Try.f187
theorem s187 : ∀ (l : List T.Ev) (Post : AV → List AObj → Prop),
  (ASpec Try.prog 281 [AV.sl 5 (Seq.map T.encE T.noEv l) Tip.none, AV.fn (192 : FuncId) []] [] fun (r : AV) (H' : List AObj) =>
      ∃ (x : Int), r = AV.int IntKind.i64 x ∧ H' = [] ∧ Post (AV.bool (decide (x ≥ (0 : Int)))) []) →
    ASpec Try.prog 187 [AV.sl 5 (Seq.map T.encE T.noEv l) Tip.none, AV.fn (192 : FuncId) []] [] Post := fun l Post h => Go.Ab.ASpec.of_vc g187 Go.Proofs.Try.func187 (by kernel_rfl) (by kernel_rfl) (by kernel_rfl) (Go.Ab.kc (by kernel_rfl) h)

-- 281
noncomputable def l281 : Nat → List Nat
  | 2 => [0, 1, 7, 8]
  | _ => []
noncomputable def u281 : Nat → Bool
  | _ => false
noncomputable def m281 : Nat → Bool
  | _ => false
noncomputable def g281 : Cfg := { N := 19, live := l281, cut := u281, mu := m281, ret := rets }
noncomputable def c281 : Go.Code := Go.Ab.bodyOf Go.Proofs.Try.f281
noncomputable def q281_0 : Nat → (AV → List AObj → Prop) → AQ := fun (n : Nat) (Post : AV → List AObj → Prop) => endQ Try.prog (resultsOf Try.f281) Post
noncomputable def q281_1 : Nat → (AV → List AObj → Prop) → AQ := fun (n : Nat) (Post : AV → List AObj → Prop) => seqQ (fun (s' : Slots) (H' : List AObj) => awp Try.prog g281 n (codeSnd (codeSnd c281)) s' H' (q281_0 n Post)) (q281_0 n Post)
noncomputable def q281_2 : Nat → (AV → List AObj → Prop) → AQ := fun (n : Nat) (Post : AV → List AObj → Prop) => blockQ 0 (q281_1 n Post)
noncomputable def c281_2 : Go.Code := codeFst (codeSnd (codeFst (codeSnd c281)))
theorem s281 : ∀ (l : List T.Ev) (Post : AV → List AObj → Prop),
  AWP Try.prog 19 0 c281_2
      [(0, AV.sl 5 (Seq.map T.encE T.noEv l) Tip.none), (1, AV.fn (192 : FuncId) []), (7, AV.int IntKind.i64 (↑(List.length l) : Int)),
        (8, AV.int IntKind.i64 (0 : Int))]
      [] (q281_2 0 Post) →
    ASpec Try.prog 281 [AV.sl 5 (Seq.map T.encE T.noEv l) Tip.none, AV.fn (192 : FuncId) []] [] Post := fun l Post h => Go.Ab.ASpec.of_vc g281 Go.Proofs.Try.func281 (by kernel_rfl) (by kernel_rfl) (by kernel_rfl) (Go.Ab.kc (by kernel_rfl) h)
theorem v281_2 : ∀ (l : List T.Ev) (n i : Int) (n_1 : Nat) (Post : AV → List AObj → Prop),
  condP (decide (i < n))
      (needP ((0 : Int) ≤ i ∧ i < (↑(List.length l) : Int))
        (ASpec Try.prog 192
        [AV.agg
        [AV.int IntKind.i64 (Prod.fst (List.getD l (Int.toNat i) T.noEv)), AV.sl 2 (Seq.map T.encN ([], []) (Prod.fst (Prod.snd (List.getD l (Int.toNat i) T.noEv)))) Tip.none,
        AV.int IntKind.i64 (Prod.fst (Prod.snd (Prod.snd (List.getD l (Int.toNat i) T.noEv)))),
        AV.int IntKind.i64 (Prod.fst (Prod.snd (Prod.snd (Prod.snd (List.getD l (Int.toNat i) T.noEv))))),
        AV.sl 1 (Seq.map encB (0 : UInt8) (Prod.snd (Prod.snd (Prod.snd (Prod.snd (List.getD l (Int.toNat i) T.noEv)))))) Tip.none]]
        [] fun (r : AV) (H' : List AObj) =>
        ∃ (x : Bool),
        r = AV.bool x ∧
        H' = [] ∧
        condP x (Post (AV.int IntKind.i64 i) [])
        (AWP Try.prog 19 n_1 c281_2
        [(0, AV.sl 5 (Seq.map T.encE T.noEv l) Tip.none), (1, AV.fn (192 : FuncId) []), (7, AV.int IntKind.i64 n),
        (8, AV.int IntKind.i64 (IntKind.wrap IntKind.i64 (i + (1 : Int))))]
        [] (q281_2 n_1 Post))))
      (Post (AV.int IntKind.i64 (-1 : Int)) []) →
    AWP Try.prog 19 n_1 c281_2
      [(0, AV.sl 5 (Seq.map T.encE T.noEv l) Tip.none), (1, AV.fn (192 : FuncId) []), (7, AV.int IntKind.i64 n), (8, AV.int IntKind.i64 i)] [] (q281_2 n_1 Post) := fun l n i n Post h => Go.Ab.AWP.loop' g281 (Cfg.live g281) c281_2 (by kernel_rfl) (by kernel_rfl) (Go.Ab.kc (by kernel_rfl) h)

-- 73
noncomputable def l73 : Nat → List Nat
  | 4 => [4, 5, 6]
  | 7 => [4, 5]
  | _ => []
noncomputable def u73 : Nat → Bool
  | 7 => true
  | _ => false
noncomputable def m73 : Nat → Bool
  | _ => false
noncomputable def g73 : Cfg := { N := 38, live := l73, cut := u73, mu := m73, ret := rets }
noncomputable def c73 : Go.Code := Go.Ab.bodyOf Go.Proofs.Try.f73
noncomputable def q73_0 : Nat → (AV → List AObj → Prop) → AQ := fun (n : Nat) (Post : AV → List AObj → Prop) => endQ Try.prog (resultsOf Try.f73) Post
noncomputable def c73_7 : Go.Code := codeSnd (codeSnd (codeSnd (codeSnd c73)))
noncomputable def q73_1 : Nat → (AV → List AObj → Prop) → AQ := fun (n : Nat) (Post : AV → List AObj → Prop) => seqQ (fun (s' : Slots) (H' : List AObj) => AWP Try.prog (Cfg.N g73) n c73_7 (restrict s' (Cfg.live g73 7)) H' (q73_0 n Post)) (q73_0 n Post)
noncomputable def q73_2 : Nat → (AV → List AObj → Prop) → AQ := fun (n : Nat) (Post : AV → List AObj → Prop) => blockQ 0 (q73_1 n Post)
noncomputable def c73_4 : Go.Code := codeFst (codeSnd (codeFst (codeSnd (codeSnd (codeSnd c73)))))
theorem s73 : ∀ (bs : List UInt8) (Post : AV → List AObj → Prop),
  (ASpec Try.prog 142 [AV.sl 1 (Seq.map encB (0 : UInt8) bs) Tip.none] [] fun (r : AV) (H' : List AObj) =>
      ∃ (x : List UInt8),
        r = AV.ptr 0 0 ∧
        H' = [AObj.cells [AV.sl 1 (Seq.map encB (0 : UInt8) x) Tip.none, AV.int IntKind.i64 (0 : Int), AV.int IntKind.i64 (0 : Int)]] ∧
        ASpec Try.prog 143 [AV.ptr 0 0, AV.int IntKind.i64 (400 : Int)]
        [AObj.cells [AV.sl 1 (Seq.map encB (0 : UInt8) x) Tip.none, AV.int IntKind.i64 (0 : Int), AV.int IntKind.i64 (0 : Int)]] fun (r : AV) (H' : List AObj) =>
        ∃ (x_1 : Int × Int × Int),
        r = AV.int IntKind.i64 (Prod.fst x_1) ∧
        H' = [AObj.cells [AV.sl 1 (Seq.map encB (0 : UInt8) x) Tip.none, AV.int IntKind.i64 (Prod.fst (Prod.snd x_1)), AV.int IntKind.i64 (Prod.snd (Prod.snd x_1))]] ∧
        AWP Try.prog 38 0 c73_4 [(4, AV.ptr 0 0), (5, AV.sl 0 (Seq.raw []) Tip.nil), (6, AV.int IntKind.i64 (Prod.fst x_1))]
        [AObj.cells [AV.sl 1 (Seq.map encB (0 : UInt8) x) Tip.none, AV.int IntKind.i64 (Prod.fst (Prod.snd x_1)), AV.int IntKind.i64 (Prod.snd (Prod.snd x_1))]]
        (q73_2 0 Post)) →
    ASpec Try.prog 73 [AV.sl 1 (Seq.map encB (0 : UInt8) bs) Tip.none] [] Post := fun bs Post h => Go.Ab.ASpec.of_vc g73 Go.Proofs.Try.func73 (by kernel_rfl) (by kernel_rfl) (by kernel_rfl) (Go.Ab.kc (by kernel_rfl) h)
theorem v73_4 : ∀ (bs : List UInt8) (p e : Int) (acc : List T.Ev) (n : Int) (n_1 : Nat) (Post : AV → List AObj → Prop),
  condP (decide (n > (0 : Int)))
      (ASpec Try.prog 144 [AV.ptr 0 0] [AObj.cells [AV.sl 1 (Seq.map encB (0 : UInt8) bs) Tip.none, AV.int IntKind.i64 p, AV.int IntKind.i64 e], AObj.tok]
        fun (r : AV) (H' : List AObj) =>
        ∃ (x : Int),
        r = AV.int IntKind.i64 x ∧
        H' = [AObj.cells [AV.sl 1 (Seq.map encB (0 : UInt8) bs) Tip.none, AV.int IntKind.i64 p, AV.int IntKind.i64 e], AObj.tok] ∧
        condP (x == (0 : Int))
        (ASpec Try.prog 191 [AV.ptr 0 0] [AObj.cells [AV.sl 1 (Seq.map encB (0 : UInt8) bs) Tip.none, AV.int IntKind.i64 p, AV.int IntKind.i64 e], AObj.tok]
        fun (r : AV) (H' : List AObj) =>
        ∃ (x : T.Ev × Int × Int),
        r =
        AV.agg
        [AV.int IntKind.i64 (Prod.fst (Prod.fst x)), AV.sl 2 (Seq.map T.encN ([], []) (Prod.fst (Prod.snd (Prod.fst x)))) Tip.none,
        AV.int IntKind.i64 (Prod.fst (Prod.snd (Prod.snd (Prod.fst x)))), AV.int IntKind.i64 (Prod.fst (Prod.snd (Prod.snd (Prod.snd (Prod.fst x))))),
        AV.sl 1 (Seq.map encB (0 : UInt8) (Prod.snd (Prod.snd (Prod.snd (Prod.snd (Prod.fst x)))))) Tip.none] ∧
        H' = [AObj.cells [AV.sl 1 (Seq.map encB (0 : UInt8) bs) Tip.none, AV.int IntKind.i64 (Prod.fst (Prod.snd x)), AV.int IntKind.i64 (Prod.snd (Prod.snd x))], AObj.tok] ∧
        needP ((List.length acc + 1) * 72 ≤ 140737488351232)
        (AWP Try.prog 38 n_1 c73_4
        [(4, AV.ptr 0 0),
        (5,
        AV.sl 5
        (Seq.app (Seq.map T.encE T.noEv acc)
        (Seq.raw
        [[AV.int IntKind.i64 (Prod.fst (Prod.fst x)), AV.sl 2 (Seq.map T.encN ([], []) (Prod.fst (Prod.snd (Prod.fst x)))) Tip.none,
        AV.int IntKind.i64 (Prod.fst (Prod.snd (Prod.snd (Prod.fst x)))), AV.int IntKind.i64 (Prod.fst (Prod.snd (Prod.snd (Prod.snd (Prod.fst x))))),
        AV.sl 1 (Seq.map encB (0 : UInt8) (Prod.snd (Prod.snd (Prod.snd (Prod.snd (Prod.fst x)))))) Tip.none]]))
        (Tip.tok 2)),
        (6, AV.int IntKind.i64 (IntKind.wrap IntKind.i64 (n - (1 : Int))))]
        [AObj.cells [AV.sl 1 (Seq.map encB (0 : UInt8) bs) Tip.none, AV.int IntKind.i64 (Prod.fst (Prod.snd x)), AV.int IntKind.i64 (Prod.snd (Prod.snd x))], AObj.gone,
        AObj.tok]
        (q73_2 n_1 Post)))
        (AWP Try.prog 38 n_1 c73_7 [(4, AV.ptr 0 0), (5, AV.sl 5 (Seq.map T.encE T.noEv acc) (Tip.tok 1))]
        [AObj.cells [AV.sl 1 (Seq.map encB (0 : UInt8) bs) Tip.none, AV.int IntKind.i64 p, AV.int IntKind.i64 e], AObj.tok] (q73_0 n_1 Post)))
      (AWP Try.prog 38 n_1 c73_7 [(4, AV.ptr 0 0), (5, AV.sl 5 (Seq.map T.encE T.noEv acc) (Tip.tok 1))]
        [AObj.cells [AV.sl 1 (Seq.map encB (0 : UInt8) bs) Tip.none, AV.int IntKind.i64 p, AV.int IntKind.i64 e], AObj.tok] (q73_0 n_1 Post)) →
    AWP Try.prog 38 n_1 c73_4 [(4, AV.ptr 0 0), (5, AV.sl 5 (Seq.map T.encE T.noEv acc) (Tip.tok 1)), (6, AV.int IntKind.i64 n)]
      [V.rd bs p e, AObj.tok] (q73_2 n_1 Post) := fun bs p e acc n n Post h => Go.Ab.AWP.loop' g73 (Cfg.live g73) c73_4 (by kernel_rfl) (by kernel_rfl) (Go.Ab.kc (by kernel_rfl) h)
theorem v73_7 : ∀ (bs : List UInt8) (p e : Int) (acc : List T.Ev) (n : Nat) (Post : AV → List AObj → Prop),
  (ASpec Try.prog 146 [AV.ptr 0 0] [AObj.cells [AV.sl 1 (Seq.map encB (0 : UInt8) bs) Tip.none, AV.int IntKind.i64 p, AV.int IntKind.i64 e], AObj.tok]
      fun (r : AV) (H' : List AObj) =>
      ∃ (x : Int),
        r = AV.int IntKind.i64 x ∧
        H' = [AObj.cells [AV.sl 1 (Seq.map encB (0 : UInt8) bs) Tip.none, AV.int IntKind.i64 p, AV.int IntKind.i64 e], AObj.tok] ∧
        condP (x == (0 : Int))
        (ASpec Try.prog 187 [AV.sl 5 (Seq.map T.encE T.noEv acc) (Tip.tok 1), AV.fn 192 []]
        [AObj.cells [AV.sl 1 (Seq.map encB (0 : UInt8) bs) Tip.none, AV.int IntKind.i64 p, AV.int IntKind.i64 e], AObj.tok] fun (r : AV) (H' : List AObj) =>
        ∃ (x_1 : Bool),
        r = AV.bool x_1 ∧
        H' = [AObj.cells [AV.sl 1 (Seq.map encB (0 : UInt8) bs) Tip.none, AV.int IntKind.i64 p, AV.int IntKind.i64 e], AObj.tok] ∧
        condP x_1
        (Post (AV.tup [AV.sl 0 (Seq.raw []) Tip.nil, AV.int IntKind.i64 (3 : Int)])
        [AObj.cells [AV.sl 1 (Seq.map encB (0 : UInt8) bs) Tip.none, AV.int IntKind.i64 p, AV.int IntKind.i64 e], AObj.tok])
        (condP (x != (0 : Int))
        (Post (AV.tup [AV.sl 0 (Seq.raw []) Tip.nil, AV.int IntKind.i64 x])
        [AObj.cells [AV.sl 1 (Seq.map encB (0 : UInt8) bs) Tip.none, AV.int IntKind.i64 p, AV.int IntKind.i64 e], AObj.tok])
        (Post (AV.tup [AV.sl 5 (Seq.map T.encE T.noEv acc) (Tip.tok 1), AV.int IntKind.i64 (0 : Int)])
        [AObj.cells [AV.sl 1 (Seq.map encB (0 : UInt8) bs) Tip.none, AV.int IntKind.i64 p, AV.int IntKind.i64 e], AObj.tok])))
        (condP (x != (0 : Int))
        (Post (AV.tup [AV.sl 0 (Seq.raw []) Tip.nil, AV.int IntKind.i64 x])
        [AObj.cells [AV.sl 1 (Seq.map encB (0 : UInt8) bs) Tip.none, AV.int IntKind.i64 p, AV.int IntKind.i64 e], AObj.tok])
        (Post (AV.tup [AV.sl 5 (Seq.map T.encE T.noEv acc) (Tip.tok 1), AV.int IntKind.i64 (0 : Int)])
        [AObj.cells [AV.sl 1 (Seq.map encB (0 : UInt8) bs) Tip.none, AV.int IntKind.i64 p, AV.int IntKind.i64 e], AObj.tok]))) →
    AWP Try.prog 38 n c73_7 [(4, AV.ptr 0 0), (5, AV.sl 5 (Seq.map T.encE T.noEv acc) (Tip.tok 1))] [V.rd bs p e, AObj.tok] (q73_0 n Post) := fun bs p e acc n Post h => Go.Ab.awp_sound g73 n _ _ _ _ (Go.Ab.kc (by kernel_rfl) h)

-- 416
noncomputable def l416 : Nat → List Nat
  | 3 => [1, 18, 19, 20]
  | 7 => [1, 18, 19, 20, 34, 35, 36]
  | _ => []
noncomputable def u416 : Nat → Bool
  | _ => false
noncomputable def m416 : Nat → Bool
  | _ => false
noncomputable def g416 : Cfg := { N := 53, live := l416, cut := u416, mu := m416, ret := rets }
noncomputable def c416 : Go.Code := Go.Ab.bodyOf Go.Proofs.Try.f416
noncomputable def q416_0 : Nat → (AV → List AObj → Prop) → AQ := fun (n : Nat) (Post : AV → List AObj → Prop) => endQ Try.prog (resultsOf Try.f416) Post
noncomputable def q416_1 : Nat → (AV → List AObj → Prop) → AQ := fun (n : Nat) (Post : AV → List AObj → Prop) => seqQ (fun (s' : Slots) (H' : List AObj) => awp Try.prog g416 n (codeSnd (codeSnd (codeSnd c416))) s' H' (q416_0 n Post)) (q416_0 n Post)
noncomputable def q416_2 : Nat → (AV → List AObj → Prop) → AQ := fun (n : Nat) (Post : AV → List AObj → Prop) => blockQ 0 (q416_1 n Post)
noncomputable def c416_3 : Go.Code := codeFst (codeSnd (codeFst (codeSnd (codeSnd c416))))
theorem s416 : ∀ (t : Int) (l : List T.Need) (b : List UInt8) (Post : AV → List AObj → Prop),
  (ASpec Try.prog 140 [AV.sl 1 (Seq.map encB (0 : UInt8) b) Tip.none, AV.sl 1 (Seq.raw [[AV.int IntKind.i64 t], [AV.int IntKind.i64 (↑(List.length l) : Int)]]) Tip.full]
      [AObj.cells [AV.int IntKind.i64 t, AV.sl 2 (Seq.map T.encN ([], []) l) Tip.none]] fun (r : AV) (H' : List AObj) =>
      ∃ (x : List UInt8),
        r = AV.sl 1 (Seq.map encB (0 : UInt8) x) (Tip.tok 1) ∧
        H' = [AObj.cells [AV.int IntKind.i64 t, AV.sl 2 (Seq.map T.encN ([], []) l) Tip.none], AObj.tok] ∧
        AWP Try.prog 53 0 c416_3
        [(1, AV.sl 1 (Seq.map encB (0 : UInt8) x) (Tip.tok 1)), (18, AV.sl 2 (Seq.map T.encN ([], []) l) Tip.none),
        (19, AV.int IntKind.i64 (↑(List.length l) : Int)), (20, AV.int IntKind.i64 (0 : Int))]
        [AObj.cells [AV.int IntKind.i64 t, AV.sl 2 (Seq.map T.encN ([], []) l) Tip.none], AObj.tok] (q416_2 0 Post)) →
    ASpec Try.prog 416 [AV.agg [AV.int IntKind.i64 t, AV.sl 2 (Seq.map T.encN ([], []) l) Tip.none], AV.sl 1 (Seq.map encB (0 : UInt8) b) Tip.none] [] Post := fun t l b Post h => Go.Ab.ASpec.of_vc g416 Go.Proofs.Try.func416 (by kernel_rfl) (by kernel_rfl) (by kernel_rfl) (Go.Ab.kc (by kernel_rfl) h)
noncomputable def q416_3 : Nat → (AV → List AObj → Prop) → AQ := fun (n : Nat) (Post : AV → List AObj → Prop) => loopQ Try.prog 53 n c416_3 (q416_2 n Post) (Cfg.live g416)
noncomputable def q416_4 : Nat → (AV → List AObj → Prop) → AQ := fun (n : Nat) (Post : AV → List AObj → Prop) => seqQ (fun (s' : Slots) (H' : List AObj) => awp Try.prog g416 n (codeSnd (codeSnd (codeSnd (codeFst c416_3)))) s' H' (q416_3 n Post)) (q416_3 n Post)
noncomputable def q416_5 : Nat → (AV → List AObj → Prop) → AQ := fun (n : Nat) (Post : AV → List AObj → Prop) => blockQ 1 (q416_4 n Post)
noncomputable def q416_6 : Nat → (AV → List AObj → Prop) → AQ := fun (n : Nat) (Post : AV → List AObj → Prop) => blockQ 2 (q416_5 n Post)
noncomputable def c416_7 : Go.Code := codeFst (codeSnd (codeSnd (codeSnd (codeFst (codeFst (codeSnd (codeSnd (codeFst c416_3))))))))
theorem v416_3 : ∀ (b : List UInt8) (l : List T.Need) (n i : Int) (n_1 : Nat) (Post : AV → List AObj → Prop),
  condP (decide (i < n))
      (needP ((0 : Int) ≤ i ∧ i < (↑(List.length l) : Int))
        (ASpec Try.prog 141 [AV.sl 1 (Seq.map encB (0 : UInt8) b) Tip.none, AV.str { data := List.toArray (Prod.fst (List.getD l (Int.toNat i) ([], []))) }]
        [AObj.cells
        [AV.str { data := List.toArray (Prod.fst (List.getD l (Int.toNat i) ([], []))) },
        AV.sl 2 (Seq.map T.encS ((0 : Int), (0 : Int)) (Prod.snd (List.getD l (Int.toNat i) ([], [])))) Tip.none]]
        fun (r : AV) (H' : List AObj) =>
        ∃ (x : List UInt8),
        r = AV.sl 1 (Seq.map encB (0 : UInt8) x) (Tip.tok 1) ∧
        H' =
        [AObj.cells
        [AV.str { data := List.toArray (Prod.fst (List.getD l (Int.toNat i) ([], []))) },
        AV.sl 2 (Seq.map T.encS ((0 : Int), (0 : Int)) (Prod.snd (List.getD l (Int.toNat i) ([], [])))) Tip.none],
        AObj.tok] ∧
        (AV.int IntKind.i64 (↑(List.length (Prod.snd (List.getD l (Int.toNat i) ([], [])))) : Int) = AV.int IntKind.i64 (↑(List.length (Prod.snd (List.getD l (Int.toNat i) ([], [])))) : Int) ∧
        [AObj.cells
        [AV.str { data := List.toArray (Prod.fst (List.getD l (Int.toNat i) ([], []))) },
        AV.sl 2 (Seq.map T.encS ((0 : Int), (0 : Int)) (Prod.snd (List.getD l (Int.toNat i) ([], [])))) Tip.none],
        AObj.tok] =
        [AObj.cells
        [AV.str { data := List.toArray (Prod.fst (List.getD l (Int.toNat i) ([], []))) },
        AV.sl 2 (Seq.map T.encS ((0 : Int), (0 : Int)) (Prod.snd (List.getD l (Int.toNat i) ([], [])))) Tip.none],
        AObj.tok]) ∧
        (AV.sl 2 (Seq.map T.encS ((0 : Int), (0 : Int)) (Prod.snd (List.getD l (Int.toNat i) ([], [])))) Tip.none =
        AV.sl 2 (Seq.map T.encS ((0 : Int), (0 : Int)) (Prod.snd (List.getD l (Int.toNat i) ([], [])))) Tip.none ∧
        [AObj.cells
        [AV.str { data := List.toArray (Prod.fst (List.getD l (Int.toNat i) ([], []))) },
        AV.sl 2 (Seq.map T.encS ((0 : Int), (0 : Int)) (Prod.snd (List.getD l (Int.toNat i) ([], [])))) Tip.none],
        AObj.tok] =
        [AObj.cells
        [AV.str { data := List.toArray (Prod.fst (List.getD l (Int.toNat i) ([], []))) },
        AV.sl 2 (Seq.map T.encS ((0 : Int), (0 : Int)) (Prod.snd (List.getD l (Int.toNat i) ([], [])))) Tip.none],
        AObj.tok]) ∧
        ASpec Try.prog 140
        [AV.sl 1 (Seq.map encB (0 : UInt8) x) (Tip.tok 1),
        AV.sl 1 (Seq.raw [[AV.int IntKind.i64 (↑(List.length (Prod.snd (List.getD l (Int.toNat i) ([], [])))) : Int)]]) Tip.full]
        [AObj.cells
        [AV.str { data := List.toArray (Prod.fst (List.getD l (Int.toNat i) ([], []))) },
        AV.sl 2 (Seq.map T.encS ((0 : Int), (0 : Int)) (Prod.snd (List.getD l (Int.toNat i) ([], [])))) Tip.none],
        AObj.tok]
        fun (r : AV) (H' : List AObj) =>
        ∃ (x : List UInt8),
        r = AV.sl 1 (Seq.map encB (0 : UInt8) x) (Tip.tok 2) ∧
        H' =
        [AObj.cells
        [AV.str { data := List.toArray (Prod.fst (List.getD l (Int.toNat i) ([], []))) },
        AV.sl 2 (Seq.map T.encS ((0 : Int), (0 : Int)) (Prod.snd (List.getD l (Int.toNat i) ([], [])))) Tip.none],
        AObj.tok, AObj.tok] ∧
        AWP Try.prog 53 n_1 c416_7
        [(1, AV.sl 1 (Seq.map encB (0 : UInt8) x) (Tip.tok 2)), (18, AV.sl 2 (Seq.map T.encN ([], []) l) Tip.none),
        (19, AV.int IntKind.i64 n), (20, AV.int IntKind.i64 i),
        (34, AV.sl 2 (Seq.map T.encS ((0 : Int), (0 : Int)) (Prod.snd (List.getD l (Int.toNat i) ([], [])))) Tip.none),
        (35, AV.int IntKind.i64 (↑(List.length (Prod.snd (List.getD l (Int.toNat i) ([], [])))) : Int)), (36, AV.int IntKind.i64 (0 : Int))]
        [AObj.cells
        [AV.str { data := List.toArray (Prod.fst (List.getD l (Int.toNat i) ([], []))) },
        AV.sl 2 (Seq.map T.encS ((0 : Int), (0 : Int)) (Prod.snd (List.getD l (Int.toNat i) ([], [])))) Tip.none],
        AObj.tok, AObj.tok]
        (q416_6 n_1 Post)))
      (Post (AV.sl 1 (Seq.map encB (0 : UInt8) b) Tip.none) []) →
    AWP Try.prog 53 n_1 c416_3
      [(1, AV.sl 1 (Seq.map encB (0 : UInt8) b) Tip.none), (18, AV.sl 2 (Seq.map T.encN ([], []) l) Tip.none), (19, AV.int IntKind.i64 n),
        (20, AV.int IntKind.i64 i)]
      [] (q416_2 n_1 Post) := fun b l n i n Post h => Go.Ab.AWP.loop' g416 (Cfg.live g416) c416_3 (by kernel_rfl) (by kernel_rfl) (Go.Ab.kc (by kernel_rfl) h)
theorem v416_7 : ∀ (b : List UInt8) (l : List T.Need) (n i : Int) (ss : List T.Span) (n2 i2 : Int) (n_1 : Nat) (Post : AV → List AObj → Prop),
  condP (decide (i2 < n2))
      (needP ((0 : Int) ≤ i2 ∧ i2 < (↑(List.length ss) : Int))
        (ASpec Try.prog 140
        [AV.sl 1 (Seq.map encB (0 : UInt8) b) Tip.none,
        AV.sl 1
        (Seq.raw
        [[AV.int IntKind.i64 (Prod.fst (List.getD ss (Int.toNat i2) ((0 : Int), (0 : Int))))],
        [AV.int IntKind.i64 (IntKind.wrap IntKind.i64 (Prod.snd (List.getD ss (Int.toNat i2) ((0 : Int), (0 : Int))) - Prod.fst (List.getD ss (Int.toNat i2) ((0 : Int), (0 : Int)))))]])
        Tip.full]
        [AObj.cells [AV.int IntKind.i64 (Prod.fst (List.getD ss (Int.toNat i2) ((0 : Int), (0 : Int)))), AV.int IntKind.i64 (Prod.snd (List.getD ss (Int.toNat i2) ((0 : Int), (0 : Int))))]]
        fun (r : AV) (H' : List AObj) =>
        ∃ (x : List UInt8),
        r = AV.sl 1 (Seq.map encB (0 : UInt8) x) (Tip.tok 1) ∧
        H' =
        [AObj.cells [AV.int IntKind.i64 (Prod.fst (List.getD ss (Int.toNat i2) ((0 : Int), (0 : Int)))), AV.int IntKind.i64 (Prod.snd (List.getD ss (Int.toNat i2) ((0 : Int), (0 : Int))))],
        AObj.tok] ∧
        AWP Try.prog 53 n_1 c416_7
        [(1, AV.sl 1 (Seq.map encB (0 : UInt8) x) (Tip.tok 1)), (18, AV.sl 2 (Seq.map T.encN ([], []) l) Tip.none),
        (19, AV.int IntKind.i64 n), (20, AV.int IntKind.i64 i), (34, AV.sl 2 (Seq.map T.encS ((0 : Int), (0 : Int)) ss) Tip.none),
        (35, AV.int IntKind.i64 n2), (36, AV.int IntKind.i64 (IntKind.wrap IntKind.i64 (i2 + (1 : Int))))]
        [AObj.cells [AV.int IntKind.i64 (Prod.fst (List.getD ss (Int.toNat i2) ((0 : Int), (0 : Int)))), AV.int IntKind.i64 (Prod.snd (List.getD ss (Int.toNat i2) ((0 : Int), (0 : Int))))],
        AObj.tok]
        (q416_6 n_1 Post)))
      (AWP Try.prog 53 n_1 c416_3
        [(1, AV.sl 1 (Seq.map encB (0 : UInt8) b) Tip.none), (18, AV.sl 2 (Seq.map T.encN ([], []) l) Tip.none), (19, AV.int IntKind.i64 n),
        (20, AV.int IntKind.i64 (IntKind.wrap IntKind.i64 (i + (1 : Int))))]
        [] (q416_2 n_1 Post)) →
    AWP Try.prog 53 n_1 c416_7
      [(1, AV.sl 1 (Seq.map encB (0 : UInt8) b) Tip.none), (18, AV.sl 2 (Seq.map T.encN ([], []) l) Tip.none), (19, AV.int IntKind.i64 n),
        (20, AV.int IntKind.i64 i), (34, AV.sl 2 (Seq.map T.encS ((0 : Int), (0 : Int)) ss) Tip.none), (35, AV.int IntKind.i64 n2), (36, AV.int IntKind.i64 i2)]
      [] (q416_6 n_1 Post) := fun b l n i ss n2 i2 n Post h => Go.Ab.AWP.loop' g416 (Cfg.live g416) c416_7 (by kernel_rfl) (by kernel_rfl) (Go.Ab.kc (by kernel_rfl) h)

-- 417
noncomputable def l417 : Nat → List Nat
  | _ => []
noncomputable def u417 : Nat → Bool
  | _ => false
noncomputable def m417 : Nat → Bool
  | _ => false
noncomputable def g417 : Cfg := { N := 14, live := l417, cut := u417, mu := m417, ret := rets }
noncomputable def c417 : Go.Code := Go.Ab.bodyOf Go.Proofs.Try.f417
theorem s417 : ∀ (t : Int) (y b : List UInt8) (Post : AV → List AObj → Prop),
  needP (allBytes (Seq.map encB (0 : UInt8) y))
      (ASpec Try.prog 140 [AV.sl 1 (Seq.map encB (0 : UInt8) b) Tip.none, AV.sl 1 (Seq.raw [[AV.int IntKind.i64 t]]) Tip.full]
        [AObj.cells [AV.int IntKind.i64 t, AV.sl 1 (Seq.map encB (0 : UInt8) y) Tip.none]] fun (r : AV) (H' : List AObj) =>
        ∃ (x : List UInt8),
        r = AV.sl 1 (Seq.map encB (0 : UInt8) x) (Tip.tok 1) ∧
        H' = [AObj.cells [AV.int IntKind.i64 t, AV.sl 1 (Seq.map encB (0 : UInt8) y) Tip.none], AObj.tok] ∧
        (AV.sl 1 (Seq.map encB (0 : UInt8) y) Tip.none = AV.sl 1 (Seq.map encB (0 : UInt8) y) Tip.none ∧
        [AObj.cells [AV.int IntKind.i64 t, AV.sl 1 (Seq.map encB (0 : UInt8) y) Tip.none], AObj.tok] =
        [AObj.cells [AV.int IntKind.i64 t, AV.sl 1 (Seq.map encB (0 : UInt8) y) Tip.none], AObj.tok]) ∧
        ASpec Try.prog 141 [AV.sl 1 (Seq.map encB (0 : UInt8) x) (Tip.tok 1), AV.str (bytesOf (Seq.map encB (0 : UInt8) y))]
        [AObj.cells [AV.int IntKind.i64 t, AV.sl 1 (Seq.map encB (0 : UInt8) y) Tip.none], AObj.tok] fun (r : AV) (H' : List AObj) =>
        ∃ (x : List UInt8),
        r = AV.sl 1 (Seq.map encB (0 : UInt8) x) (Tip.tok 2) ∧
        H' = [AObj.cells [AV.int IntKind.i64 t, AV.sl 1 (Seq.map encB (0 : UInt8) y) Tip.none], AObj.tok, AObj.tok] ∧
        Post (AV.sl 1 (Seq.map encB (0 : UInt8) x) (Tip.tok 2))
        [AObj.cells [AV.int IntKind.i64 t, AV.sl 1 (Seq.map encB (0 : UInt8) y) Tip.none], AObj.tok, AObj.tok]) →
    ASpec Try.prog 417 [AV.agg [AV.int IntKind.i64 t, AV.sl 1 (Seq.map encB (0 : UInt8) y) Tip.none], AV.sl 1 (Seq.map encB (0 : UInt8) b) Tip.none] [] Post := fun t y b Post h => Go.Ab.ASpec.of_vc g417 Go.Proofs.Try.func417 (by kernel_rfl) (by kernel_rfl) (by kernel_rfl) (Go.Ab.kc (by kernel_rfl) h)

-- 418
noncomputable def l418 : Nat → List Nat
  | _ => []
noncomputable def u418 : Nat → Bool
  | _ => false
noncomputable def m418 : Nat → Bool
  | _ => false
noncomputable def g418 : Cfg := { N := 10, live := l418, cut := u418, mu := m418, ret := rets }
noncomputable def c418 : Go.Code := Go.Ab.bodyOf Go.Proofs.Try.f418
theorem s418 : ∀ (t : Int) (b : List UInt8) (Post : AV → List AObj → Prop),
  (ASpec Try.prog 140 [AV.sl 1 (Seq.map encB (0 : UInt8) b) Tip.none, AV.sl 1 (Seq.raw [[AV.int IntKind.i64 t]]) Tip.full] [AObj.cells [AV.int IntKind.i64 t]]
      fun (r : AV) (H' : List AObj) =>
      ∃ (x : List UInt8),
        r = AV.sl 1 (Seq.map encB (0 : UInt8) x) (Tip.tok 1) ∧
        H' = [AObj.cells [AV.int IntKind.i64 t], AObj.tok] ∧ Post (AV.sl 1 (Seq.map encB (0 : UInt8) x) (Tip.tok 1)) [AObj.cells [AV.int IntKind.i64 t], AObj.tok]) →
    ASpec Try.prog 418 [AV.agg [AV.int IntKind.i64 t], AV.sl 1 (Seq.map encB (0 : UInt8) b) Tip.none] [] Post := fun t b Post h => Go.Ab.ASpec.of_vc g418 Go.Proofs.Try.func418 (by kernel_rfl) (by kernel_rfl) (by kernel_rfl) (Go.Ab.kc (by kernel_rfl) h)

-- 193
noncomputable def l193 : Nat → List Nat
  | 4 => [0, 3, 4, 5]
  | 9 => [0, 3, 4, 5, 6, 7, 8]
  | _ => []
noncomputable def u193 : Nat → Bool
  | _ => false
noncomputable def m193 : Nat → Bool
  | _ => false
noncomputable def g193 : Cfg := { N := 47, live := l193, cut := u193, mu := m193, ret := rets }
noncomputable def c193 : Go.Code := Go.Ab.bodyOf Go.Proofs.Try.f193
noncomputable def q193_0 : Nat → (AV → List AObj → Prop) → AQ := fun (n : Nat) (Post : AV → List AObj → Prop) => endQ Try.prog (resultsOf Try.f193) Post
noncomputable def q193_1 : Nat → (AV → List AObj → Prop) → AQ := fun (n : Nat) (Post : AV → List AObj → Prop) => seqQ (fun (s' : Slots) (H' : List AObj) => awp Try.prog g193 n (codeSnd (codeSnd (codeSnd (codeSnd c193)))) s' H' (q193_0 n Post)) (q193_0 n Post)
noncomputable def q193_2 : Nat → (AV → List AObj → Prop) → AQ := fun (n : Nat) (Post : AV → List AObj → Prop) => blockQ 0 (q193_1 n Post)
noncomputable def c193_4 : Go.Code := codeFst (codeSnd (codeFst (codeSnd (codeSnd (codeSnd c193)))))
theorem s193 : ∀ (s : ByteArray) (e : Int) (Post : AV → List AObj → Prop),
  (ASpec Try.prog 147 [AV.ptr 0 0, AV.int IntKind.i64 (6 : Int)] [AObj.cells [AV.str s, AV.int IntKind.i64 e]] fun (r : AV) (H' : List AObj) =>
      ∃ (x : Int × ByteArray × Int),
        r = AV.int IntKind.i64 (Prod.fst x) ∧
        H' = [AObj.cells [AV.str (Prod.fst (Prod.snd x)), AV.int IntKind.i64 (Prod.snd (Prod.snd x))]] ∧
        AWP Try.prog 47 1 c193_4
        [(0, AV.ptr 0 0), (3, AV.sl 0 (Seq.raw []) Tip.nil), (4, AV.int IntKind.i64 (Prod.fst x)), (5, AV.int IntKind.i64 (0 : Int))]
        [AObj.cells [AV.str (Prod.fst (Prod.snd x)), AV.int IntKind.i64 (Prod.snd (Prod.snd x))]] (q193_2 1 Post)) →
    ASpec Try.prog 193 [AV.ptr 0 0] [AObj.cells [AV.str s, AV.int IntKind.i64 e]] Post := fun s e Post h => Go.Ab.ASpec.of_vc g193 Go.Proofs.Try.func193 (by kernel_rfl) (by kernel_rfl) (by kernel_rfl) (Go.Ab.kc (by kernel_rfl) h)
noncomputable def q193_3 : Nat → (AV → List AObj → Prop) → AQ := fun (n : Nat) (Post : AV → List AObj → Prop) => loopQ Try.prog 47 n c193_4 (q193_2 n Post) (Cfg.live g193)
noncomputable def q193_4 : Nat → (AV → List AObj → Prop) → AQ := fun (n : Nat) (Post : AV → List AObj → Prop) => seqQ (fun (s' : Slots) (H' : List AObj) => awp Try.prog g193 n (codeSnd (codeSnd (codeFst c193_4))) s' H' (q193_3 n Post)) (q193_3 n Post)
noncomputable def q193_5 : Nat → (AV → List AObj → Prop) → AQ := fun (n : Nat) (Post : AV → List AObj → Prop) => blockQ 1 (q193_4 n Post)
noncomputable def q193_6 : Nat → (AV → List AObj → Prop) → AQ := fun (n : Nat) (Post : AV → List AObj → Prop) => seqQ (fun (s' : Slots) (H' : List AObj) => awp Try.prog g193 n (codeSnd (codeSnd (codeSnd (codeFst (codeFst (codeSnd (codeFst c193_4))))))) s' H' (q193_5 n Post)) (q193_5 n Post)
noncomputable def q193_7 : Nat → (AV → List AObj → Prop) → AQ := fun (n : Nat) (Post : AV → List AObj → Prop) => blockQ 2 (q193_6 n Post)
noncomputable def c193_9 : Go.Code := codeFst (codeSnd (codeFst (codeSnd (codeSnd (codeFst (codeFst (codeSnd (codeFst c193_4))))))))
theorem v193_4 : ∀ (s : ByteArray) (e : Int) (acc : List T.Need) (n i : Int) (n_1 : Nat) (Post : AV → List AObj → Prop),
  condP (decide (i < n))
      (ASpec Try.prog 148 [AV.ptr 0 0, AV.int IntKind.i64 (24 : Int)] [AObj.cells [AV.str s, AV.int IntKind.i64 e], AObj.tok] fun (r : AV) (H' : List AObj) =>
        ∃ (x : ByteArray × ByteArray × Int),
        r = AV.str (Prod.fst x) ∧
        H' = [AObj.cells [AV.str (Prod.fst (Prod.snd x)), AV.int IntKind.i64 (Prod.snd (Prod.snd x))], AObj.tok] ∧
        ASpec Try.prog 147 [AV.ptr 0 0, AV.int IntKind.i64 (6 : Int)]
        [AObj.cells [AV.str (Prod.fst (Prod.snd x)), AV.int IntKind.i64 (Prod.snd (Prod.snd x))], AObj.tok, AObj.cells [AV.str (Prod.fst x), AV.sl 0 (Seq.raw []) Tip.nil]]
        fun (r : AV) (H' : List AObj) =>
        ∃ (x_1 : Int × ByteArray × Int),
        r = AV.int IntKind.i64 (Prod.fst x_1) ∧
        H' =
        [AObj.cells [AV.str (Prod.fst (Prod.snd x_1)), AV.int IntKind.i64 (Prod.snd (Prod.snd x_1))], AObj.tok,
        AObj.cells [AV.str (Prod.fst x), AV.sl 0 (Seq.raw []) Tip.nil]] ∧
        AWP Try.prog 47 n_1 c193_9
        [(0, AV.ptr 0 0), (3, AV.sl 2 (Seq.map T.encN ([], []) acc) (Tip.tok 1)), (4, AV.int IntKind.i64 n),
        (5, AV.int IntKind.i64 i), (6, AV.ptr 2 0), (7, AV.int IntKind.i64 (Prod.fst x_1)), (8, AV.int IntKind.i64 (0 : Int))]
        [AObj.cells [AV.str (Prod.fst (Prod.snd x_1)), AV.int IntKind.i64 (Prod.snd (Prod.snd x_1))], AObj.tok, AObj.cells [AV.str (Prod.fst x), AV.sl 0 (Seq.raw []) Tip.nil]]
        (q193_7 n_1 Post))
      (Post (AV.sl 2 (Seq.map T.encN ([], []) acc) (Tip.tok 1)) [AObj.cells [AV.str s, AV.int IntKind.i64 e], AObj.tok]) →
    AWP Try.prog 47 n_1 c193_4
      [(0, AV.ptr 0 0), (3, AV.sl 2 (Seq.map T.encN ([], []) acc) (Tip.tok 1)), (4, AV.int IntKind.i64 n), (5, AV.int IntKind.i64 i)]
      [AObj.cells [AV.str s, AV.int IntKind.i64 e], AObj.tok] (q193_2 n_1 Post) := fun s e acc n i n Post h => Go.Ab.AWP.loop' g193 (Cfg.live g193) c193_4 (by kernel_rfl) (by kernel_rfl) (Go.Ab.kc (by kernel_rfl) h)
theorem v193_9 : ∀ (s : ByteArray) (e : Int) (acc : List T.Need) (n i : Int) (nm : ByteArray) (sp : List T.Span) (k j : Int) (n_1 : Nat) (Post : AV → List AObj → Prop),
  condP (decide (j < k))
      (ASpec Try.prog 147 [AV.ptr 0 0, AV.int IntKind.i64 (1000000000 : Int)]
        [AObj.cells [AV.str s, AV.int IntKind.i64 e], AObj.tok, AObj.cells [AV.str nm, AV.sl 2 (Seq.map T.encS ((0 : Int), (0 : Int)) sp) (Tip.tok 3)], AObj.tok]
        fun (r : AV) (H' : List AObj) =>
        ∃ (x : Int × ByteArray × Int),
        r = AV.int IntKind.i64 (Prod.fst x) ∧
        H' =
        [AObj.cells [AV.str (Prod.fst (Prod.snd x)), AV.int IntKind.i64 (Prod.snd (Prod.snd x))], AObj.tok,
        AObj.cells [AV.str nm, AV.sl 2 (Seq.map T.encS ((0 : Int), (0 : Int)) sp) (Tip.tok 3)], AObj.tok] ∧
        ASpec Try.prog 147 [AV.ptr 0 0, AV.int IntKind.i64 (1000000000 : Int)]
        [AObj.cells [AV.str (Prod.fst (Prod.snd x)), AV.int IntKind.i64 (Prod.snd (Prod.snd x))], AObj.tok,
        AObj.cells [AV.str nm, AV.sl 2 (Seq.map T.encS ((0 : Int), (0 : Int)) sp) (Tip.tok 3)], AObj.tok]
        fun (r : AV) (H' : List AObj) =>
        ∃ (x_1 : Int × ByteArray × Int),
        r = AV.int IntKind.i64 (Prod.fst x_1) ∧
        H' =
        [AObj.cells [AV.str (Prod.fst (Prod.snd x_1)), AV.int IntKind.i64 (Prod.snd (Prod.snd x_1))], AObj.tok,
        AObj.cells [AV.str nm, AV.sl 2 (Seq.map T.encS ((0 : Int), (0 : Int)) sp) (Tip.tok 3)], AObj.tok] ∧
        needP ((List.length sp + 1) * 16 ≤ 140737488351232)
        (AWP Try.prog 47 n_1 c193_9
        [(0, AV.ptr 0 0), (3, AV.sl 2 (Seq.map T.encN ([], []) acc) (Tip.tok 1)), (4, AV.int IntKind.i64 n),
        (5, AV.int IntKind.i64 i), (6, AV.ptr 2 0), (7, AV.int IntKind.i64 k),
        (8, AV.int IntKind.i64 (IntKind.wrap IntKind.i64 (j + (1 : Int))))]
        [AObj.cells [AV.str (Prod.fst (Prod.snd x_1)), AV.int IntKind.i64 (Prod.snd (Prod.snd x_1))], AObj.tok,
        AObj.cells
        [AV.str nm,
        AV.sl 2
        (Seq.app (Seq.map T.encS ((0 : Int), (0 : Int)) sp)
        (Seq.raw [[AV.int IntKind.i64 (Prod.fst x), AV.int IntKind.i64 (IntKind.wrap IntKind.i64 (Prod.fst x + Prod.fst x_1))]]))
        (Tip.tok 4)],
        AObj.gone, AObj.tok]
        (q193_7 n_1 Post)))
      (needP ((List.length acc + 1) * 40 ≤ 140737488351232)
        (AWP Try.prog 47 n_1 c193_4
        [(0, AV.ptr 0 0),
        (3,
        AV.sl 2 (Seq.app (Seq.map T.encN ([], []) acc) (Seq.raw [[AV.str nm, AV.sl 2 (Seq.map T.encS ((0 : Int), (0 : Int)) sp) (Tip.tok 3)]])) (Tip.tok 4)),
        (4, AV.int IntKind.i64 n), (5, AV.int IntKind.i64 (IntKind.wrap IntKind.i64 (i + (1 : Int))))]
        [AObj.cells [AV.str s, AV.int IntKind.i64 e], AObj.gone, AObj.cells [AV.str nm, AV.sl 2 (Seq.map T.encS ((0 : Int), (0 : Int)) sp) (Tip.tok 3)], AObj.tok, AObj.tok]
        (q193_2 n_1 Post))) →
    AWP Try.prog 47 n_1 c193_9
      [(0, AV.ptr 0 0), (3, AV.sl 2 (Seq.map T.encN ([], []) acc) (Tip.tok 1)), (4, AV.int IntKind.i64 n), (5, AV.int IntKind.i64 i),
        (6, AV.ptr 2 0), (7, AV.int IntKind.i64 k), (8, AV.int IntKind.i64 j)]
      [AObj.cells [AV.str s, AV.int IntKind.i64 e], AObj.tok, AObj.cells [AV.str nm, AV.sl 2 (Seq.map T.encS ((0 : Int), (0 : Int)) sp) (Tip.tok 3)], AObj.tok] (q193_7 n_1 Post) := fun s e acc n i nm sp k j n Post h => Go.Ab.AWP.loop' g193 (Cfg.live g193) c193_9 (by kernel_rfl) (by kernel_rfl) (Go.Ab.kc (by kernel_rfl) h)

-- 74
noncomputable def l74 : Nat → List Nat
  | 5 => [4, 5, 6, 7]
  | 11 => [4, 5, 6, 7, 8]
  | 13 => [4, 5, 6, 7, 8]
  | 15 => [4, 5, 6, 7, 8]
  | 16 => [4, 5]
  | 18 => [5, 9, 10]
  | _ => []
noncomputable def u74 : Nat → Bool
  | 11 => true
  | 13 => true
  | 15 => true
  | 16 => true
  | _ => false
noncomputable def m74 : Nat → Bool
  | _ => false
noncomputable def g74 : Cfg := { N := 84, live := l74, cut := u74, mu := m74, ret := rets }
noncomputable def c74 : Go.Code := Go.Ab.bodyOf Go.Proofs.Try.f74
noncomputable def q74_0 : Nat → (AV → List AObj → Prop) → AQ := fun (n : Nat) (Post : AV → List AObj → Prop) => endQ Try.prog (resultsOf Try.f74) Post
noncomputable def c74_16 : Go.Code := codeSnd (codeSnd (codeSnd (codeSnd (codeSnd c74))))
noncomputable def q74_1 : Nat → (AV → List AObj → Prop) → AQ := fun (n : Nat) (Post : AV → List AObj → Prop) => seqQ (fun (s' : Slots) (H' : List AObj) => AWP Try.prog (Cfg.N g74) n c74_16 (restrict s' (Cfg.live g74 16)) H' (q74_0 n Post)) (q74_0 n Post)
noncomputable def q74_2 : Nat → (AV → List AObj → Prop) → AQ := fun (n : Nat) (Post : AV → List AObj → Prop) => blockQ 0 (q74_1 n Post)
noncomputable def c74_5 : Go.Code := codeFst (codeSnd (codeFst (codeSnd (codeSnd (codeSnd (codeSnd c74))))))
theorem s74 : ∀ (s : ByteArray) (Post : AV → List AObj → Prop),
  (ASpec Try.prog 147 [AV.ptr 0 0, AV.int IntKind.i64 (400 : Int)] [AObj.cells [AV.str s, AV.int IntKind.i64 (0 : Int)]] fun (r : AV) (H' : List AObj) =>
      ∃ (x : Int × ByteArray × Int),
        r = AV.int IntKind.i64 (Prod.fst x) ∧
        H' = [AObj.cells [AV.str (Prod.fst (Prod.snd x)), AV.int IntKind.i64 (Prod.snd (Prod.snd x))]] ∧
        AWP Try.prog 84 0 c74_5
        [(4, AV.ptr 0 0), (5, AV.sl 0 (Seq.raw []) Tip.nil), (6, AV.int IntKind.i64 (Prod.fst x)), (7, AV.int IntKind.i64 (0 : Int))]
        [AObj.cells [AV.str (Prod.fst (Prod.snd x)), AV.int IntKind.i64 (Prod.snd (Prod.snd x))]] (q74_2 0 Post)) →
    ASpec Try.prog 74 [AV.str s] [] Post := fun s Post h => Go.Ab.ASpec.of_vc g74 Go.Proofs.Try.func74 (by kernel_rfl) (by kernel_rfl) (by kernel_rfl) (Go.Ab.kc (by kernel_rfl) h)
noncomputable def q74_3 : Nat → (AV → List AObj → Prop) → AQ := fun (n : Nat) (Post : AV → List AObj → Prop) => loopQ Try.prog 84 n c74_5 (q74_2 n Post) (Cfg.live g74)
noncomputable def q74_4 : Nat → (AV → List AObj → Prop) → AQ := fun (n : Nat) (Post : AV → List AObj → Prop) => seqQ (fun (s' : Slots) (H' : List AObj) => awp Try.prog g74 n (codeSnd (codeSnd (codeFst c74_5))) s' H' (q74_3 n Post)) (q74_3 n Post)
noncomputable def q74_5 : Nat → (AV → List AObj → Prop) → AQ := fun (n : Nat) (Post : AV → List AObj → Prop) => blockQ 1 (q74_4 n Post)
noncomputable def c74_11 : Go.Code := codeSnd (codeSnd (codeFst (codeFst (codeSnd (codeFst c74_5)))))
theorem v74_5 : ∀ (s : ByteArray) (e : Int) (acc : List T.Ev) (n i : Int) (n_1 : Nat) (Post : AV → List AObj → Prop),
  condP (decide (i < n))
      (condP (e == (0 : Int))
        (ASpec Try.prog 147 [AV.ptr 0 0, AV.int IntKind.i64 (4 : Int)] [AObj.cells [AV.str s, AV.int IntKind.i64 e], AObj.tok] fun (r : AV) (H' : List AObj) =>
        ∃ (x : Int × ByteArray × Int),
        r = AV.int IntKind.i64 (Prod.fst x) ∧
        H' = [AObj.cells [AV.str (Prod.fst (Prod.snd x)), AV.int IntKind.i64 (Prod.snd (Prod.snd x))], AObj.tok] ∧
        condP (Prod.fst x == (1 : Int))
        (ASpec Try.prog 147 [AV.ptr 0 0, AV.int IntKind.i64 (1099511627776 : Int)]
        [AObj.cells [AV.str (Prod.fst (Prod.snd x)), AV.int IntKind.i64 (Prod.snd (Prod.snd x))], AObj.tok,
        AObj.cells
        [AV.int IntKind.i64 (Prod.fst x), AV.sl 0 (Seq.raw []) Tip.nil, AV.int IntKind.i64 (0 : Int), AV.int IntKind.i64 (0 : Int), AV.sl 0 (Seq.raw []) Tip.nil]]
        fun (r : AV) (H' : List AObj) =>
        ∃ (x_1 : Int × ByteArray × Int),
        r = AV.int IntKind.i64 (Prod.fst x_1) ∧
        H' =
        [AObj.cells [AV.str (Prod.fst (Prod.snd x_1)), AV.int IntKind.i64 (Prod.snd (Prod.snd x_1))], AObj.tok,
        AObj.cells
        [AV.int IntKind.i64 (Prod.fst x), AV.sl 0 (Seq.raw []) Tip.nil, AV.int IntKind.i64 (0 : Int), AV.int IntKind.i64 (0 : Int),
        AV.sl 0 (Seq.raw []) Tip.nil]] ∧
        ASpec Try.prog 193 [AV.ptr 0 0]
        [AObj.cells [AV.str (Prod.fst (Prod.snd x_1)), AV.int IntKind.i64 (Prod.snd (Prod.snd x_1))], AObj.tok,
        AObj.cells
        [AV.int IntKind.i64 (Prod.fst x), AV.sl 0 (Seq.raw []) Tip.nil, AV.int IntKind.i64 (Prod.fst x_1), AV.int IntKind.i64 (0 : Int),
        AV.sl 0 (Seq.raw []) Tip.nil]]
        fun (r : AV) (H' : List AObj) =>
        ∃ (x_2 : List T.Need × ByteArray × Int),
        r = AV.sl 2 (Seq.map T.encN ([], []) (Prod.fst x_2)) Tip.none ∧
        H' =
        [AObj.cells [AV.str (Prod.fst (Prod.snd x_2)), AV.int IntKind.i64 (Prod.snd (Prod.snd x_2))], AObj.tok,
        AObj.cells
        [AV.int IntKind.i64 (Prod.fst x), AV.sl 0 (Seq.raw []) Tip.nil, AV.int IntKind.i64 (Prod.fst x_1), AV.int IntKind.i64 (0 : Int),
        AV.sl 0 (Seq.raw []) Tip.nil]] ∧
        AWP Try.prog 84 n_1 c74_11
        [(4, AV.ptr 0 0), (5, AV.sl 5 (Seq.map T.encE T.noEv acc) (Tip.tok 1)), (6, AV.int IntKind.i64 n),
        (7, AV.int IntKind.i64 i), (8, AV.ptr 2 0)]
        [AObj.cells [AV.str (Prod.fst (Prod.snd x_2)), AV.int IntKind.i64 (Prod.snd (Prod.snd x_2))], AObj.tok,
        AObj.cells
        [AV.int IntKind.i64 (Prod.fst x), AV.sl 2 (Seq.map T.encN ([], []) (Prod.fst x_2)) Tip.none, AV.int IntKind.i64 (Prod.fst x_1),
        AV.int IntKind.i64 (0 : Int), AV.sl 0 (Seq.raw []) Tip.nil]]
        (q74_5 n_1 Post))
        (AWP Try.prog 84 n_1 c74_11
        [(4, AV.ptr 0 0), (5, AV.sl 5 (Seq.map T.encE T.noEv acc) (Tip.tok 1)), (6, AV.int IntKind.i64 n),
        (7, AV.int IntKind.i64 i), (8, AV.ptr 2 0)]
        [AObj.cells [AV.str (Prod.fst (Prod.snd x)), AV.int IntKind.i64 (Prod.snd (Prod.snd x))], AObj.tok,
        AObj.cells
        [AV.int IntKind.i64 (Prod.fst x), AV.sl 0 (Seq.raw []) Tip.nil, AV.int IntKind.i64 (0 : Int), AV.int IntKind.i64 (0 : Int), AV.sl 0 (Seq.raw []) Tip.nil]]
        (q74_5 n_1 Post)))
        (AWP Try.prog 84 n_1 c74_16 [(4, AV.ptr 0 0), (5, AV.sl 5 (Seq.map T.encE T.noEv acc) (Tip.tok 1))]
        [AObj.cells [AV.str s, AV.int IntKind.i64 e], AObj.tok] (q74_0 n_1 Post)))
      (AWP Try.prog 84 n_1 c74_16 [(4, AV.ptr 0 0), (5, AV.sl 5 (Seq.map T.encE T.noEv acc) (Tip.tok 1))]
        [AObj.cells [AV.str s, AV.int IntKind.i64 e], AObj.tok] (q74_0 n_1 Post)) →
    AWP Try.prog 84 n_1 c74_5
      [(4, AV.ptr 0 0), (5, AV.sl 5 (Seq.map T.encE T.noEv acc) (Tip.tok 1)), (6, AV.int IntKind.i64 n), (7, AV.int IntKind.i64 i)]
      [AObj.cells [AV.str s, AV.int IntKind.i64 e], AObj.tok] (q74_2 n_1 Post) := fun s e acc n i n Post h => Go.Ab.AWP.loop' g74 (Cfg.live g74) c74_5 (by kernel_rfl) (by kernel_rfl) (Go.Ab.kc (by kernel_rfl) h)
noncomputable def c74_13 : Go.Code := codeSnd c74_11
theorem v74_11 : ∀ (s : ByteArray) (e : Int) (acc : List T.Ev) (n i k t u : Int) (l : List T.Need) (b : List UInt8) (n_1 : Nat) (Post : AV → List AObj → Prop),
  condP (k == (3 : Int))
      (ASpec Try.prog 147 [AV.ptr 0 0, AV.int IntKind.i64 (1099511627776 : Int)]
        [AObj.cells [AV.str s, AV.int IntKind.i64 e], AObj.tok,
        AObj.cells [AV.int IntKind.i64 k, AV.sl 2 (Seq.map T.encN ([], []) l) Tip.none, AV.int IntKind.i64 t, AV.int IntKind.i64 u, AV.sl 1 (Seq.map encB (0 : UInt8) b) Tip.none]]
        fun (r : AV) (H' : List AObj) =>
        ∃ (x : Int × ByteArray × Int),
        r = AV.int IntKind.i64 (Prod.fst x) ∧
        H' =
        [AObj.cells [AV.str (Prod.fst (Prod.snd x)), AV.int IntKind.i64 (Prod.snd (Prod.snd x))], AObj.tok,
        AObj.cells
        [AV.int IntKind.i64 k, AV.sl 2 (Seq.map T.encN ([], []) l) Tip.none, AV.int IntKind.i64 t, AV.int IntKind.i64 u, AV.sl 1 (Seq.map encB (0 : UInt8) b) Tip.none]] ∧
        AWP Try.prog 84 n_1 c74_13
        [(4, AV.ptr 0 0), (5, AV.sl 5 (Seq.map T.encE T.noEv acc) (Tip.tok 1)), (6, AV.int IntKind.i64 n),
        (7, AV.int IntKind.i64 i), (8, AV.ptr 2 0)]
        [AObj.cells [AV.str (Prod.fst (Prod.snd x)), AV.int IntKind.i64 (Prod.snd (Prod.snd x))], AObj.tok,
        AObj.cells
        [AV.int IntKind.i64 k, AV.sl 2 (Seq.map T.encN ([], []) l) Tip.none, AV.int IntKind.i64 t, AV.int IntKind.i64 (Prod.fst x),
        AV.sl 1 (Seq.map encB (0 : UInt8) b) Tip.none]]
        (q74_5 n_1 Post))
      (condP (k == (4 : Int))
        (ASpec Try.prog 147 [AV.ptr 0 0, AV.int IntKind.i64 (1099511627776 : Int)]
        [AObj.cells [AV.str s, AV.int IntKind.i64 e], AObj.tok,
        AObj.cells [AV.int IntKind.i64 k, AV.sl 2 (Seq.map T.encN ([], []) l) Tip.none, AV.int IntKind.i64 t, AV.int IntKind.i64 u, AV.sl 1 (Seq.map encB (0 : UInt8) b) Tip.none]]
        fun (r : AV) (H' : List AObj) =>
        ∃ (x : Int × ByteArray × Int),
        r = AV.int IntKind.i64 (Prod.fst x) ∧
        H' =
        [AObj.cells [AV.str (Prod.fst (Prod.snd x)), AV.int IntKind.i64 (Prod.snd (Prod.snd x))], AObj.tok,
        AObj.cells
        [AV.int IntKind.i64 k, AV.sl 2 (Seq.map T.encN ([], []) l) Tip.none, AV.int IntKind.i64 t, AV.int IntKind.i64 u, AV.sl 1 (Seq.map encB (0 : UInt8) b) Tip.none]] ∧
        AWP Try.prog 84 n_1 c74_13
        [(4, AV.ptr 0 0), (5, AV.sl 5 (Seq.map T.encE T.noEv acc) (Tip.tok 1)), (6, AV.int IntKind.i64 n),
        (7, AV.int IntKind.i64 i), (8, AV.ptr 2 0)]
        [AObj.cells [AV.str (Prod.fst (Prod.snd x)), AV.int IntKind.i64 (Prod.snd (Prod.snd x))], AObj.tok,
        AObj.cells
        [AV.int IntKind.i64 k, AV.sl 2 (Seq.map T.encN ([], []) l) Tip.none, AV.int IntKind.i64 t, AV.int IntKind.i64 (Prod.fst x),
        AV.sl 1 (Seq.map encB (0 : UInt8) b) Tip.none]]
        (q74_5 n_1 Post))
        (AWP Try.prog 84 n_1 c74_13
        [(4, AV.ptr 0 0), (5, AV.sl 5 (Seq.map T.encE T.noEv acc) (Tip.tok 1)), (6, AV.int IntKind.i64 n), (7, AV.int IntKind.i64 i),
        (8, AV.ptr 2 0)]
        [AObj.cells [AV.str s, AV.int IntKind.i64 e], AObj.tok,
        AObj.cells [AV.int IntKind.i64 k, AV.sl 2 (Seq.map T.encN ([], []) l) Tip.none, AV.int IntKind.i64 t, AV.int IntKind.i64 u, AV.sl 1 (Seq.map encB (0 : UInt8) b) Tip.none]]
        (q74_5 n_1 Post))) →
    AWP Try.prog 84 n_1 c74_11
      [(4, AV.ptr 0 0), (5, AV.sl 5 (Seq.map T.encE T.noEv acc) (Tip.tok 1)), (6, AV.int IntKind.i64 n), (7, AV.int IntKind.i64 i),
        (8, AV.ptr 2 0)]
      [AObj.cells [AV.str s, AV.int IntKind.i64 e], AObj.tok,
        AObj.cells [AV.int IntKind.i64 k, AV.sl 2 (Seq.map T.encN ([], []) l) Tip.none, AV.int IntKind.i64 t, AV.int IntKind.i64 u, AV.sl 1 (Seq.map encB (0 : UInt8) b) Tip.none]]
      (q74_5 n_1 Post) := fun s e acc n i k t u l b n Post h => Go.Ab.awp_sound g74 n _ _ _ _ (Go.Ab.kc (by kernel_rfl) h)
noncomputable def c74_15 : Go.Code := codeSnd c74_13
theorem v74_13 : ∀ (s : ByteArray) (e : Int) (acc : List T.Ev) (n i k t u : Int) (l : List T.Need) (b : List UInt8) (n_1 : Nat) (Post : AV → List AObj → Prop),
  condP (k == (3 : Int))
      (ASpec Try.prog 148 [AV.ptr 0 0, AV.int IntKind.i64 (9000 : Int)]
        [AObj.cells [AV.str s, AV.int IntKind.i64 e], AObj.tok,
        AObj.cells [AV.int IntKind.i64 k, AV.sl 2 (Seq.map T.encN ([], []) l) Tip.none, AV.int IntKind.i64 t, AV.int IntKind.i64 u, AV.sl 1 (Seq.map encB (0 : UInt8) b) Tip.none]]
        fun (r : AV) (H' : List AObj) =>
        ∃ (x : ByteArray × ByteArray × Int),
        r = AV.str (Prod.fst x) ∧
        H' =
        [AObj.cells [AV.str (Prod.fst (Prod.snd x)), AV.int IntKind.i64 (Prod.snd (Prod.snd x))], AObj.tok,
        AObj.cells
        [AV.int IntKind.i64 k, AV.sl 2 (Seq.map T.encN ([], []) l) Tip.none, AV.int IntKind.i64 t, AV.int IntKind.i64 u, AV.sl 1 (Seq.map encB (0 : UInt8) b) Tip.none]] ∧
        AWP Try.prog 84 n_1 c74_15
        [(4, AV.ptr 0 0), (5, AV.sl 5 (Seq.map T.encE T.noEv acc) (Tip.tok 1)), (6, AV.int IntKind.i64 n),
        (7, AV.int IntKind.i64 i), (8, AV.ptr 2 0)]
        [AObj.cells [AV.str (Prod.fst (Prod.snd x)), AV.int IntKind.i64 (Prod.snd (Prod.snd x))], AObj.tok,
        AObj.cells [AV.int IntKind.i64 k, AV.sl 2 (Seq.map T.encN ([], []) l) Tip.none, AV.int IntKind.i64 t, AV.int IntKind.i64 u, AV.sl 1 (bytesSeq (Prod.fst x)) Tip.none]]
        (q74_5 n_1 Post))
      (AWP Try.prog 84 n_1 c74_15
        [(4, AV.ptr 0 0), (5, AV.sl 5 (Seq.map T.encE T.noEv acc) (Tip.tok 1)), (6, AV.int IntKind.i64 n), (7, AV.int IntKind.i64 i),
        (8, AV.ptr 2 0)]
        [AObj.cells [AV.str s, AV.int IntKind.i64 e], AObj.tok,
        AObj.cells [AV.int IntKind.i64 k, AV.sl 2 (Seq.map T.encN ([], []) l) Tip.none, AV.int IntKind.i64 t, AV.int IntKind.i64 u, AV.sl 1 (Seq.map encB (0 : UInt8) b) Tip.none]]
        (q74_5 n_1 Post)) →
    AWP Try.prog 84 n_1 c74_13
      [(4, AV.ptr 0 0), (5, AV.sl 5 (Seq.map T.encE T.noEv acc) (Tip.tok 1)), (6, AV.int IntKind.i64 n), (7, AV.int IntKind.i64 i),
        (8, AV.ptr 2 0)]
      [AObj.cells [AV.str s, AV.int IntKind.i64 e], AObj.tok,
        AObj.cells [AV.int IntKind.i64 k, AV.sl 2 (Seq.map T.encN ([], []) l) Tip.none, AV.int IntKind.i64 t, AV.int IntKind.i64 u, AV.sl 1 (Seq.map encB (0 : UInt8) b) Tip.none]]
      (q74_5 n_1 Post) := fun s e acc n i k t u l b n Post h => Go.Ab.awp_sound g74 n _ _ _ _ (Go.Ab.kc (by kernel_rfl) h)
theorem v74_15 : ∀ (s : ByteArray) (e : Int) (acc : List T.Ev) (n i k t u : Int) (l : List T.Need) (b : List UInt8) (n_1 : Nat) (Post : AV → List AObj → Prop),
  needP ((List.length acc + 1) * 72 ≤ 140737488351232)
      (AWP Try.prog 84 n_1 c74_5
        [(4, AV.ptr 0 0),
        (5,
        AV.sl 5
        (Seq.app (Seq.map T.encE T.noEv acc)
        (Seq.raw
        [[AV.int IntKind.i64 k, AV.sl 2 (Seq.map T.encN ([], []) l) Tip.none, AV.int IntKind.i64 t, AV.int IntKind.i64 u, AV.sl 1 (Seq.map encB (0 : UInt8) b) Tip.none]]))
        (Tip.tok 3)),
        (6, AV.int IntKind.i64 n), (7, AV.int IntKind.i64 (IntKind.wrap IntKind.i64 (i + (1 : Int))))]
        [AObj.cells [AV.str s, AV.int IntKind.i64 e], AObj.gone,
        AObj.cells [AV.int IntKind.i64 k, AV.sl 2 (Seq.map T.encN ([], []) l) Tip.none, AV.int IntKind.i64 t, AV.int IntKind.i64 u, AV.sl 1 (Seq.map encB (0 : UInt8) b) Tip.none],
        AObj.tok]
        (q74_2 n_1 Post)) →
    AWP Try.prog 84 n_1 c74_15
      [(4, AV.ptr 0 0), (5, AV.sl 5 (Seq.map T.encE T.noEv acc) (Tip.tok 1)), (6, AV.int IntKind.i64 n), (7, AV.int IntKind.i64 i),
        (8, AV.ptr 2 0)]
      [AObj.cells [AV.str s, AV.int IntKind.i64 e], AObj.tok,
        AObj.cells [AV.int IntKind.i64 k, AV.sl 2 (Seq.map T.encN ([], []) l) Tip.none, AV.int IntKind.i64 t, AV.int IntKind.i64 u, AV.sl 1 (Seq.map encB (0 : UInt8) b) Tip.none]]
      (q74_5 n_1 Post) := fun s e acc n i k t u l b n Post h => Go.Ab.awp_sound g74 n _ _ _ _ (Go.Ab.kc (by kernel_rfl) h)
noncomputable def q74_6 : Nat → (AV → List AObj → Prop) → AQ := fun (n : Nat) (Post : AV → List AObj → Prop) => seqQ (fun (s' : Slots) (H' : List AObj) => awp Try.prog g74 n (codeSnd (codeSnd c74_16)) s' H' (q74_0 n Post)) (q74_0 n Post)
noncomputable def q74_7 : Nat → (AV → List AObj → Prop) → AQ := fun (n : Nat) (Post : AV → List AObj → Prop) => blockQ 2 (q74_6 n Post)
noncomputable def c74_18 : Go.Code := codeFst (codeSnd (codeFst (codeSnd c74_16)))
theorem v74_16 : ∀ (s : ByteArray) (e : Int) (acc : List T.Ev) (n : Nat) (Post : AV → List AObj → Prop),
  (ASpec Try.prog 149 [AV.ptr 0 0] [AObj.cells [AV.str s, AV.int IntKind.i64 e], AObj.tok] fun (r : AV) (H' : List AObj) =>
      ∃ (x : Int),
        r = AV.int IntKind.i64 x ∧
        H' = [AObj.cells [AV.str s, AV.int IntKind.i64 e], AObj.tok] ∧
        AWP Try.prog 84 n c74_18
        [(5, AV.sl 5 (Seq.map T.encE T.noEv acc) (Tip.tok 1)), (9, AV.int IntKind.i64 x), (10, AV.int IntKind.i64 (0 : Int))]
        [AObj.cells [AV.str s, AV.int IntKind.i64 e], AObj.tok] (q74_7 n Post)) →
    AWP Try.prog 84 n c74_16 [(4, AV.ptr 0 0), (5, AV.sl 5 (Seq.map T.encE T.noEv acc) (Tip.tok 1))]
      [AObj.cells [AV.str s, AV.int IntKind.i64 e], AObj.tok] (q74_0 n Post) := fun s e acc n Post h => Go.Ab.awp_sound g74 n _ _ _ _ (Go.Ab.kc (by kernel_rfl) h)
theorem v74_18 : ∀ (s : ByteArray) (e : Int) (acc : List T.Ev) (f i : Int) (n : Nat) (Post : AV → List AObj → Prop),
  condP (decide (i < (↑(List.length acc) : Int)))
      (condP (f == (0 : Int))
        (needP ((0 : Int) ≤ i ∧ i < (↑(List.length acc) : Int))
        (ASpec Try.prog 194
        [AV.agg
        [AV.int IntKind.i64 (Prod.fst (List.getD acc (Int.toNat i) T.noEv)), AV.sl 2 (Seq.map T.encN ([], []) (Prod.fst (Prod.snd (List.getD acc (Int.toNat i) T.noEv)))) Tip.none,
        AV.int IntKind.i64 (Prod.fst (Prod.snd (Prod.snd (List.getD acc (Int.toNat i) T.noEv)))),
        AV.int IntKind.i64 (Prod.fst (Prod.snd (Prod.snd (Prod.snd (List.getD acc (Int.toNat i) T.noEv))))),
        AV.sl 1 (Seq.map encB (0 : UInt8) (Prod.snd (Prod.snd (Prod.snd (Prod.snd (List.getD acc (Int.toNat i) T.noEv)))))) Tip.none]]
        [AObj.cells [AV.str s, AV.int IntKind.i64 e], AObj.tok] fun (r : AV) (H' : List AObj) =>
        ∃ (x : Bool),
        r = AV.bool x ∧
        H' = [AObj.cells [AV.str s, AV.int IntKind.i64 e], AObj.tok] ∧
        condP (!x)
        (AWP Try.prog 84 n c74_18
        [(5, AV.sl 5 (Seq.map T.encE T.noEv acc) (Tip.tok 1)), (9, AV.int IntKind.i64 (3 : Int)),
        (10, AV.int IntKind.i64 (IntKind.wrap IntKind.i64 (i + (1 : Int))))]
        [AObj.cells [AV.str s, AV.int IntKind.i64 e], AObj.tok] (q74_7 n Post))
        (AWP Try.prog 84 n c74_18
        [(5, AV.sl 5 (Seq.map T.encE T.noEv acc) (Tip.tok 1)), (9, AV.int IntKind.i64 f),
        (10, AV.int IntKind.i64 (IntKind.wrap IntKind.i64 (i + (1 : Int))))]
        [AObj.cells [AV.str s, AV.int IntKind.i64 e], AObj.tok] (q74_7 n Post))))
        (condP (f != (0 : Int)) (Post (AV.tup [AV.sl 0 (Seq.raw []) Tip.nil, AV.int IntKind.i64 f]) [AObj.cells [AV.str s, AV.int IntKind.i64 e], AObj.tok])
        (Post (AV.tup [AV.sl 5 (Seq.map T.encE T.noEv acc) (Tip.tok 1), AV.int IntKind.i64 (0 : Int)]) [AObj.cells [AV.str s, AV.int IntKind.i64 e], AObj.tok])))
      (condP (f != (0 : Int)) (Post (AV.tup [AV.sl 0 (Seq.raw []) Tip.nil, AV.int IntKind.i64 f]) [AObj.cells [AV.str s, AV.int IntKind.i64 e], AObj.tok])
        (Post (AV.tup [AV.sl 5 (Seq.map T.encE T.noEv acc) (Tip.tok 1), AV.int IntKind.i64 (0 : Int)]) [AObj.cells [AV.str s, AV.int IntKind.i64 e], AObj.tok])) →
    AWP Try.prog 84 n c74_18 [(5, AV.sl 5 (Seq.map T.encE T.noEv acc) (Tip.tok 1)), (9, AV.int IntKind.i64 f), (10, AV.int IntKind.i64 i)]
      [AObj.cells [AV.str s, AV.int IntKind.i64 e], AObj.tok] (q74_7 n Post) := fun s e acc f i n Post h => Go.Ab.AWP.loop' g74 (Cfg.live g74) c74_18 (by kernel_rfl) (by kernel_rfl) (Go.Ab.kc (by kernel_rfl) h)

-- 195
noncomputable def l195 : Nat → List Nat
  | 5 => [1, 3, 4]
  | 10 => [1, 3, 4, 5, 6]
  | 13 => [1, 3]
  | 15 => [1, 3]
  | _ => []
noncomputable def u195 : Nat → Bool
  | 13 => true
  | 15 => true
  | _ => false
noncomputable def m195 : Nat → Bool
  | _ => false
noncomputable def g195 : Cfg := { N := 98, live := l195, cut := u195, mu := m195, ret := rets }
noncomputable def c195 : Go.Code := Go.Ab.bodyOf Go.Proofs.Try.f195
noncomputable def q195_0 : Nat → (AV → List AObj → Prop) → AQ := fun (n : Nat) (Post : AV → List AObj → Prop) => endQ Try.prog (resultsOf Try.f195) Post
noncomputable def c195_13 : Go.Code := codeSnd (codeSnd (codeSnd c195))
noncomputable def q195_1 : Nat → (AV → List AObj → Prop) → AQ := fun (n : Nat) (Post : AV → List AObj → Prop) => seqQ (fun (s' : Slots) (H' : List AObj) => AWP Try.prog (Cfg.N g195) n c195_13 (restrict s' (Cfg.live g195 13)) H' (q195_0 n Post)) (q195_0 n Post)
noncomputable def q195_2 : Nat → (AV → List AObj → Prop) → AQ := fun (n : Nat) (Post : AV → List AObj → Prop) => blockQ 0 (q195_1 n Post)
noncomputable def c195_5 : Go.Code := codeFst (codeSnd (codeSnd (codeFst (codeSnd (codeFst (codeSnd (codeSnd c195)))))))
theorem s195 : ∀ (e : T.Ev) (Post : AV → List AObj → Prop),
  (ASpec Try.prog 150 [AV.int IntKind.i64 (Prod.fst e)]
      [AObj.cells
        [AV.int IntKind.i64 (Prod.fst e), AV.sl 2 (Seq.map T.encN ([], []) (Prod.fst (Prod.snd e))) Tip.none, AV.int IntKind.i64 (Prod.fst (Prod.snd (Prod.snd e))),
        AV.int IntKind.i64 (Prod.fst (Prod.snd (Prod.snd (Prod.snd e)))), AV.sl 1 (Seq.map encB (0 : UInt8) (Prod.snd (Prod.snd (Prod.snd (Prod.snd e))))) Tip.none]]
      fun (r : AV) (H' : List AObj) =>
      ∃ (x : ByteArray),
        r = AV.str x ∧
        H' =
        [AObj.cells
        [AV.int IntKind.i64 (Prod.fst e), AV.sl 2 (Seq.map T.encN ([], []) (Prod.fst (Prod.snd e))) Tip.none, AV.int IntKind.i64 (Prod.fst (Prod.snd (Prod.snd e))),
        AV.int IntKind.i64 (Prod.fst (Prod.snd (Prod.snd (Prod.snd e)))), AV.sl 1 (Seq.map encB (0 : UInt8) (Prod.snd (Prod.snd (Prod.snd (Prod.snd e))))) Tip.none]] ∧
        condP (Prod.fst e == (1 : Int))
        (ASpec Try.prog 150 [AV.int IntKind.i64 (Prod.fst (Prod.snd (Prod.snd e)))]
        [AObj.cells
        [AV.int IntKind.i64 (Prod.fst e), AV.sl 2 (Seq.map T.encN ([], []) (Prod.fst (Prod.snd e))) Tip.none, AV.int IntKind.i64 (Prod.fst (Prod.snd (Prod.snd e))),
        AV.int IntKind.i64 (Prod.fst (Prod.snd (Prod.snd (Prod.snd e)))), AV.sl 1 (Seq.map encB (0 : UInt8) (Prod.snd (Prod.snd (Prod.snd (Prod.snd e))))) Tip.none]]
        fun (r : AV) (H' : List AObj) =>
        ∃ (x_1 : ByteArray),
        r = AV.str x_1 ∧
        H' =
        [AObj.cells
        [AV.int IntKind.i64 (Prod.fst e), AV.sl 2 (Seq.map T.encN ([], []) (Prod.fst (Prod.snd e))) Tip.none, AV.int IntKind.i64 (Prod.fst (Prod.snd (Prod.snd e))),
        AV.int IntKind.i64 (Prod.fst (Prod.snd (Prod.snd (Prod.snd e)))), AV.sl 1 (Seq.map encB (0 : UInt8) (Prod.snd (Prod.snd (Prod.snd (Prod.snd e))))) Tip.none]] ∧
        (AV.int IntKind.i64 (↑(List.length (Prod.fst (Prod.snd e))) : Int) = AV.int IntKind.i64 (↑(List.length (Prod.fst (Prod.snd e))) : Int) ∧
        [AObj.cells
        [AV.int IntKind.i64 (Prod.fst e), AV.sl 2 (Seq.map T.encN ([], []) (Prod.fst (Prod.snd e))) Tip.none, AV.int IntKind.i64 (Prod.fst (Prod.snd (Prod.snd e))),
        AV.int IntKind.i64 (Prod.fst (Prod.snd (Prod.snd (Prod.snd e)))),
        AV.sl 1 (Seq.map encB (0 : UInt8) (Prod.snd (Prod.snd (Prod.snd (Prod.snd e))))) Tip.none]] =
        [AObj.cells
        [AV.int IntKind.i64 (Prod.fst e), AV.sl 2 (Seq.map T.encN ([], []) (Prod.fst (Prod.snd e))) Tip.none, AV.int IntKind.i64 (Prod.fst (Prod.snd (Prod.snd e))),
        AV.int IntKind.i64 (Prod.fst (Prod.snd (Prod.snd (Prod.snd e)))),
        AV.sl 1 (Seq.map encB (0 : UInt8) (Prod.snd (Prod.snd (Prod.snd (Prod.snd e))))) Tip.none]]) ∧
        (AV.sl 2 (Seq.map T.encN ([], []) (Prod.fst (Prod.snd e))) Tip.none = AV.sl 2 (Seq.map T.encN ([], []) (Prod.fst (Prod.snd e))) Tip.none ∧
        [AObj.cells
        [AV.int IntKind.i64 (Prod.fst e), AV.sl 2 (Seq.map T.encN ([], []) (Prod.fst (Prod.snd e))) Tip.none, AV.int IntKind.i64 (Prod.fst (Prod.snd (Prod.snd e))),
        AV.int IntKind.i64 (Prod.fst (Prod.snd (Prod.snd (Prod.snd e)))),
        AV.sl 1 (Seq.map encB (0 : UInt8) (Prod.snd (Prod.snd (Prod.snd (Prod.snd e))))) Tip.none]] =
        [AObj.cells
        [AV.int IntKind.i64 (Prod.fst e), AV.sl 2 (Seq.map T.encN ([], []) (Prod.fst (Prod.snd e))) Tip.none, AV.int IntKind.i64 (Prod.fst (Prod.snd (Prod.snd e))),
        AV.int IntKind.i64 (Prod.fst (Prod.snd (Prod.snd (Prod.snd e)))),
        AV.sl 1 (Seq.map encB (0 : UInt8) (Prod.snd (Prod.snd (Prod.snd (Prod.snd e))))) Tip.none]]) ∧
        needP ((↑(ByteArray.size x + ByteArray.size x_1) : Int) ≤ (9223372036854775807 : Int))
        (ASpec Try.prog 150 [AV.int IntKind.i64 (↑(List.length (Prod.fst (Prod.snd e))) : Int)]
        [AObj.cells
        [AV.int IntKind.i64 (Prod.fst e), AV.sl 2 (Seq.map T.encN ([], []) (Prod.fst (Prod.snd e))) Tip.none, AV.int IntKind.i64 (Prod.fst (Prod.snd (Prod.snd e))),
        AV.int IntKind.i64 (Prod.fst (Prod.snd (Prod.snd (Prod.snd e)))),
        AV.sl 1 (Seq.map encB (0 : UInt8) (Prod.snd (Prod.snd (Prod.snd (Prod.snd e))))) Tip.none]]
        fun (r : AV) (H' : List AObj) =>
        ∃ (x_2 : ByteArray),
        r = AV.str x_2 ∧
        H' =
        [AObj.cells
        [AV.int IntKind.i64 (Prod.fst e), AV.sl 2 (Seq.map T.encN ([], []) (Prod.fst (Prod.snd e))) Tip.none,
        AV.int IntKind.i64 (Prod.fst (Prod.snd (Prod.snd e))), AV.int IntKind.i64 (Prod.fst (Prod.snd (Prod.snd (Prod.snd e)))),
        AV.sl 1 (Seq.map encB (0 : UInt8) (Prod.snd (Prod.snd (Prod.snd (Prod.snd e))))) Tip.none]] ∧
        needP ((↑(ByteArray.size (x ++ x_1) + ByteArray.size x_2) : Int) ≤ (9223372036854775807 : Int))
        (AWP Try.prog 98 0 c195_5
        [(1, AV.ptr 0 0), (3, AV.str (x ++ x_1 ++ x_2)), (4, AV.int IntKind.i64 (0 : Int))]
        [AObj.cells
        [AV.int IntKind.i64 (Prod.fst e), AV.sl 2 (Seq.map T.encN ([], []) (Prod.fst (Prod.snd e))) Tip.none,
        AV.int IntKind.i64 (Prod.fst (Prod.snd (Prod.snd e))), AV.int IntKind.i64 (Prod.fst (Prod.snd (Prod.snd (Prod.snd e)))),
        AV.sl 1 (Seq.map encB (0 : UInt8) (Prod.snd (Prod.snd (Prod.snd (Prod.snd e))))) Tip.none]]
        (q195_2 0 Post))))
        (AWP Try.prog 98 0 c195_13 [(1, AV.ptr 0 0), (3, AV.str x)]
        [AObj.cells
        [AV.int IntKind.i64 (Prod.fst e), AV.sl 2 (Seq.map T.encN ([], []) (Prod.fst (Prod.snd e))) Tip.none, AV.int IntKind.i64 (Prod.fst (Prod.snd (Prod.snd e))),
        AV.int IntKind.i64 (Prod.fst (Prod.snd (Prod.snd (Prod.snd e)))), AV.sl 1 (Seq.map encB (0 : UInt8) (Prod.snd (Prod.snd (Prod.snd (Prod.snd e))))) Tip.none]]
        (q195_0 0 Post))) →
    ASpec Try.prog 195 [AV.agg (T.encE e)] [] Post := fun e Post h => Go.Ab.ASpec.of_vc g195 Go.Proofs.Try.func195 (by kernel_rfl) (by kernel_rfl) (by kernel_rfl) (Go.Ab.kc (by kernel_rfl) h)
noncomputable def q195_3 : Nat → (AV → List AObj → Prop) → AQ := fun (n : Nat) (Post : AV → List AObj → Prop) => loopQ Try.prog 98 n c195_5 (q195_2 n Post) (Cfg.live g195)
noncomputable def q195_4 : Nat → (AV → List AObj → Prop) → AQ := fun (n : Nat) (Post : AV → List AObj → Prop) => seqQ (fun (s' : Slots) (H' : List AObj) => awp Try.prog g195 n (codeSnd (codeSnd (codeFst c195_5))) s' H' (q195_3 n Post)) (q195_3 n Post)
noncomputable def q195_5 : Nat → (AV → List AObj → Prop) → AQ := fun (n : Nat) (Post : AV → List AObj → Prop) => blockQ 1 (q195_4 n Post)
noncomputable def q195_6 : Nat → (AV → List AObj → Prop) → AQ := fun (n : Nat) (Post : AV → List AObj → Prop) => blockQ 2 (q195_5 n Post)
noncomputable def c195_10 : Go.Code := codeFst (codeSnd (codeSnd (codeSnd (codeFst (codeFst (codeSnd (codeFst c195_5)))))))
theorem v195_5 : ∀ (e : T.Ev) (s : ByteArray) (i : Int) (n : Nat) (Post : AV → List AObj → Prop),
  condP (decide (i < (↑(List.length (Prod.fst (Prod.snd e))) : Int)))
      (needP ((0 : Int) ≤ i ∧ i < (↑(List.length (Prod.fst (Prod.snd e))) : Int))
        (ASpec Try.prog 151 [AV.str { data := List.toArray (Prod.fst (List.getD (Prod.fst (Prod.snd e)) (Int.toNat i) ([], []))) }]
        [AObj.cells
        [AV.int IntKind.i64 (Prod.fst e), AV.sl 2 (Seq.map T.encN ([], []) (Prod.fst (Prod.snd e))) Tip.none, AV.int IntKind.i64 (Prod.fst (Prod.snd (Prod.snd e))),
        AV.int IntKind.i64 (Prod.fst (Prod.snd (Prod.snd (Prod.snd e)))), AV.sl 1 (Seq.map encB (0 : UInt8) (Prod.snd (Prod.snd (Prod.snd (Prod.snd e))))) Tip.none],
        AObj.cells
        [AV.str { data := List.toArray (Prod.fst (List.getD (Prod.fst (Prod.snd e)) (Int.toNat i) ([], []))) },
        AV.sl 2 (Seq.map T.encS ((0 : Int), (0 : Int)) (Prod.snd (List.getD (Prod.fst (Prod.snd e)) (Int.toNat i) ([], [])))) Tip.none]]
        fun (r : AV) (H' : List AObj) =>
        ∃ (x : ByteArray),
        r = AV.str x ∧
        H' =
        [AObj.cells
        [AV.int IntKind.i64 (Prod.fst e), AV.sl 2 (Seq.map T.encN ([], []) (Prod.fst (Prod.snd e))) Tip.none, AV.int IntKind.i64 (Prod.fst (Prod.snd (Prod.snd e))),
        AV.int IntKind.i64 (Prod.fst (Prod.snd (Prod.snd (Prod.snd e)))), AV.sl 1 (Seq.map encB (0 : UInt8) (Prod.snd (Prod.snd (Prod.snd (Prod.snd e))))) Tip.none],
        AObj.cells
        [AV.str { data := List.toArray (Prod.fst (List.getD (Prod.fst (Prod.snd e)) (Int.toNat i) ([], []))) },
        AV.sl 2 (Seq.map T.encS ((0 : Int), (0 : Int)) (Prod.snd (List.getD (Prod.fst (Prod.snd e)) (Int.toNat i) ([], [])))) Tip.none]] ∧
        (AV.int IntKind.i64 (↑(List.length (Prod.snd (List.getD (Prod.fst (Prod.snd e)) (Int.toNat i) ([], [])))) : Int) =
        AV.int IntKind.i64 (↑(List.length (Prod.snd (List.getD (Prod.fst (Prod.snd e)) (Int.toNat i) ([], [])))) : Int) ∧
        [AObj.cells
        [AV.int IntKind.i64 (Prod.fst e), AV.sl 2 (Seq.map T.encN ([], []) (Prod.fst (Prod.snd e))) Tip.none, AV.int IntKind.i64 (Prod.fst (Prod.snd (Prod.snd e))),
        AV.int IntKind.i64 (Prod.fst (Prod.snd (Prod.snd (Prod.snd e)))), AV.sl 1 (Seq.map encB (0 : UInt8) (Prod.snd (Prod.snd (Prod.snd (Prod.snd e))))) Tip.none],
        AObj.cells
        [AV.str { data := List.toArray (Prod.fst (List.getD (Prod.fst (Prod.snd e)) (Int.toNat i) ([], []))) },
        AV.sl 2 (Seq.map T.encS ((0 : Int), (0 : Int)) (Prod.snd (List.getD (Prod.fst (Prod.snd e)) (Int.toNat i) ([], [])))) Tip.none]] =
        [AObj.cells
        [AV.int IntKind.i64 (Prod.fst e), AV.sl 2 (Seq.map T.encN ([], []) (Prod.fst (Prod.snd e))) Tip.none, AV.int IntKind.i64 (Prod.fst (Prod.snd (Prod.snd e))),
        AV.int IntKind.i64 (Prod.fst (Prod.snd (Prod.snd (Prod.snd e)))), AV.sl 1 (Seq.map encB (0 : UInt8) (Prod.snd (Prod.snd (Prod.snd (Prod.snd e))))) Tip.none],
        AObj.cells
        [AV.str { data := List.toArray (Prod.fst (List.getD (Prod.fst (Prod.snd e)) (Int.toNat i) ([], []))) },
        AV.sl 2 (Seq.map T.encS ((0 : Int), (0 : Int)) (Prod.snd (List.getD (Prod.fst (Prod.snd e)) (Int.toNat i) ([], [])))) Tip.none]]) ∧
        (AV.sl 2 (Seq.map T.encS ((0 : Int), (0 : Int)) (Prod.snd (List.getD (Prod.fst (Prod.snd e)) (Int.toNat i) ([], [])))) Tip.none =
        AV.sl 2 (Seq.map T.encS ((0 : Int), (0 : Int)) (Prod.snd (List.getD (Prod.fst (Prod.snd e)) (Int.toNat i) ([], [])))) Tip.none ∧
        [AObj.cells
        [AV.int IntKind.i64 (Prod.fst e), AV.sl 2 (Seq.map T.encN ([], []) (Prod.fst (Prod.snd e))) Tip.none, AV.int IntKind.i64 (Prod.fst (Prod.snd (Prod.snd e))),
        AV.int IntKind.i64 (Prod.fst (Prod.snd (Prod.snd (Prod.snd e)))), AV.sl 1 (Seq.map encB (0 : UInt8) (Prod.snd (Prod.snd (Prod.snd (Prod.snd e))))) Tip.none],
        AObj.cells
        [AV.str { data := List.toArray (Prod.fst (List.getD (Prod.fst (Prod.snd e)) (Int.toNat i) ([], []))) },
        AV.sl 2 (Seq.map T.encS ((0 : Int), (0 : Int)) (Prod.snd (List.getD (Prod.fst (Prod.snd e)) (Int.toNat i) ([], [])))) Tip.none]] =
        [AObj.cells
        [AV.int IntKind.i64 (Prod.fst e), AV.sl 2 (Seq.map T.encN ([], []) (Prod.fst (Prod.snd e))) Tip.none, AV.int IntKind.i64 (Prod.fst (Prod.snd (Prod.snd e))),
        AV.int IntKind.i64 (Prod.fst (Prod.snd (Prod.snd (Prod.snd e)))), AV.sl 1 (Seq.map encB (0 : UInt8) (Prod.snd (Prod.snd (Prod.snd (Prod.snd e))))) Tip.none],
        AObj.cells
        [AV.str { data := List.toArray (Prod.fst (List.getD (Prod.fst (Prod.snd e)) (Int.toNat i) ([], []))) },
        AV.sl 2 (Seq.map T.encS ((0 : Int), (0 : Int)) (Prod.snd (List.getD (Prod.fst (Prod.snd e)) (Int.toNat i) ([], [])))) Tip.none]]) ∧
        needP ((↑(ByteArray.size s + ByteArray.size x) : Int) ≤ (9223372036854775807 : Int))
        (ASpec Try.prog 150 [AV.int IntKind.i64 (↑(List.length (Prod.snd (List.getD (Prod.fst (Prod.snd e)) (Int.toNat i) ([], [])))) : Int)]
        [AObj.cells
        [AV.int IntKind.i64 (Prod.fst e), AV.sl 2 (Seq.map T.encN ([], []) (Prod.fst (Prod.snd e))) Tip.none, AV.int IntKind.i64 (Prod.fst (Prod.snd (Prod.snd e))),
        AV.int IntKind.i64 (Prod.fst (Prod.snd (Prod.snd (Prod.snd e)))), AV.sl 1 (Seq.map encB (0 : UInt8) (Prod.snd (Prod.snd (Prod.snd (Prod.snd e))))) Tip.none],
        AObj.cells
        [AV.str { data := List.toArray (Prod.fst (List.getD (Prod.fst (Prod.snd e)) (Int.toNat i) ([], []))) },
        AV.sl 2 (Seq.map T.encS ((0 : Int), (0 : Int)) (Prod.snd (List.getD (Prod.fst (Prod.snd e)) (Int.toNat i) ([], [])))) Tip.none]]
        fun (r : AV) (H' : List AObj) =>
        ∃ (x_1 : ByteArray),
        r = AV.str x_1 ∧
        H' =
        [AObj.cells
        [AV.int IntKind.i64 (Prod.fst e), AV.sl 2 (Seq.map T.encN ([], []) (Prod.fst (Prod.snd e))) Tip.none, AV.int IntKind.i64 (Prod.fst (Prod.snd (Prod.snd e))),
        AV.int IntKind.i64 (Prod.fst (Prod.snd (Prod.snd (Prod.snd e)))),
        AV.sl 1 (Seq.map encB (0 : UInt8) (Prod.snd (Prod.snd (Prod.snd (Prod.snd e))))) Tip.none],
        AObj.cells
        [AV.str { data := List.toArray (Prod.fst (List.getD (Prod.fst (Prod.snd e)) (Int.toNat i) ([], []))) },
        AV.sl 2 (Seq.map T.encS ((0 : Int), (0 : Int)) (Prod.snd (List.getD (Prod.fst (Prod.snd e)) (Int.toNat i) ([], [])))) Tip.none]] ∧
        needP ((↑(ByteArray.size (s ++ x) + ByteArray.size x_1) : Int) ≤ (9223372036854775807 : Int))
        (AWP Try.prog 98 n c195_10
        [(1, AV.ptr 0 0), (3, AV.str (s ++ x ++ x_1)), (4, AV.int IntKind.i64 i), (5, AV.ptr 1 0),
        (6, AV.int IntKind.i64 (0 : Int))]
        [AObj.cells
        [AV.int IntKind.i64 (Prod.fst e), AV.sl 2 (Seq.map T.encN ([], []) (Prod.fst (Prod.snd e))) Tip.none,
        AV.int IntKind.i64 (Prod.fst (Prod.snd (Prod.snd e))), AV.int IntKind.i64 (Prod.fst (Prod.snd (Prod.snd (Prod.snd e)))),
        AV.sl 1 (Seq.map encB (0 : UInt8) (Prod.snd (Prod.snd (Prod.snd (Prod.snd e))))) Tip.none],
        AObj.cells
        [AV.str { data := List.toArray (Prod.fst (List.getD (Prod.fst (Prod.snd e)) (Int.toNat i) ([], []))) },
        AV.sl 2 (Seq.map T.encS ((0 : Int), (0 : Int)) (Prod.snd (List.getD (Prod.fst (Prod.snd e)) (Int.toNat i) ([], [])))) Tip.none]]
        (q195_6 n Post)))))
      (AWP Try.prog 98 n c195_13 [(1, AV.ptr 0 0), (3, AV.str s)]
        [AObj.cells
        [AV.int IntKind.i64 (Prod.fst e), AV.sl 2 (Seq.map T.encN ([], []) (Prod.fst (Prod.snd e))) Tip.none, AV.int IntKind.i64 (Prod.fst (Prod.snd (Prod.snd e))),
        AV.int IntKind.i64 (Prod.fst (Prod.snd (Prod.snd (Prod.snd e)))), AV.sl 1 (Seq.map encB (0 : UInt8) (Prod.snd (Prod.snd (Prod.snd (Prod.snd e))))) Tip.none]]
        (q195_0 n Post)) →
    AWP Try.prog 98 n c195_5 [(1, AV.ptr 0 0), (3, AV.str s), (4, AV.int IntKind.i64 i)] [AObj.cells (T.encE e)] (q195_2 n Post) := fun e s i n Post h => Go.Ab.AWP.loop' g195 (Cfg.live g195) c195_5 (by kernel_rfl) (by kernel_rfl) (Go.Ab.kc (by kernel_rfl) h)
theorem v195_10 : ∀ (e : T.Ev) (s : ByteArray) (i : Int) (nd : T.Need) (k : Int) (n : Nat) (Post : AV → List AObj → Prop),
  condP (decide (k < (↑(List.length (Prod.snd nd)) : Int)))
      (needP ((0 : Int) ≤ k ∧ k < (↑(List.length (Prod.snd nd)) : Int))
        (needP ((0 : Int) ≤ k ∧ k < (↑(List.length (Prod.snd nd)) : Int))
        (needP ((0 : Int) ≤ k ∧ k < (↑(List.length (Prod.snd nd)) : Int))
        (ASpec Try.prog 150 [AV.int IntKind.i64 (Prod.fst (List.getD (Prod.snd nd) (Int.toNat k) ((0 : Int), (0 : Int))))]
        [AObj.cells
        [AV.int IntKind.i64 (Prod.fst e), AV.sl 2 (Seq.map T.encN ([], []) (Prod.fst (Prod.snd e))) Tip.none, AV.int IntKind.i64 (Prod.fst (Prod.snd (Prod.snd e))),
        AV.int IntKind.i64 (Prod.fst (Prod.snd (Prod.snd (Prod.snd e)))), AV.sl 1 (Seq.map encB (0 : UInt8) (Prod.snd (Prod.snd (Prod.snd (Prod.snd e))))) Tip.none],
        AObj.cells [AV.str { data := List.toArray (Prod.fst nd) }, AV.sl 2 (Seq.map T.encS ((0 : Int), (0 : Int)) (Prod.snd nd)) Tip.none]]
        fun (r : AV) (H' : List AObj) =>
        ∃ (x : ByteArray),
        r = AV.str x ∧
        H' =
        [AObj.cells
        [AV.int IntKind.i64 (Prod.fst e), AV.sl 2 (Seq.map T.encN ([], []) (Prod.fst (Prod.snd e))) Tip.none, AV.int IntKind.i64 (Prod.fst (Prod.snd (Prod.snd e))),
        AV.int IntKind.i64 (Prod.fst (Prod.snd (Prod.snd (Prod.snd e)))), AV.sl 1 (Seq.map encB (0 : UInt8) (Prod.snd (Prod.snd (Prod.snd (Prod.snd e))))) Tip.none],
        AObj.cells [AV.str { data := List.toArray (Prod.fst nd) }, AV.sl 2 (Seq.map T.encS ((0 : Int), (0 : Int)) (Prod.snd nd)) Tip.none]] ∧
        (AV.int IntKind.i64 (Prod.fst (List.getD (Prod.snd nd) (Int.toNat k) ((0 : Int), (0 : Int)))) =
        AV.int IntKind.i64 (Prod.fst (List.getD (Prod.snd nd) (Int.toNat k) ((0 : Int), (0 : Int)))) ∧
        [AObj.cells
        [AV.int IntKind.i64 (Prod.fst e), AV.sl 2 (Seq.map T.encN ([], []) (Prod.fst (Prod.snd e))) Tip.none, AV.int IntKind.i64 (Prod.fst (Prod.snd (Prod.snd e))),
        AV.int IntKind.i64 (Prod.fst (Prod.snd (Prod.snd (Prod.snd e)))), AV.sl 1 (Seq.map encB (0 : UInt8) (Prod.snd (Prod.snd (Prod.snd (Prod.snd e))))) Tip.none],
        AObj.cells [AV.str { data := List.toArray (Prod.fst nd) }, AV.sl 2 (Seq.map T.encS ((0 : Int), (0 : Int)) (Prod.snd nd)) Tip.none]] =
        [AObj.cells
        [AV.int IntKind.i64 (Prod.fst e), AV.sl 2 (Seq.map T.encN ([], []) (Prod.fst (Prod.snd e))) Tip.none, AV.int IntKind.i64 (Prod.fst (Prod.snd (Prod.snd e))),
        AV.int IntKind.i64 (Prod.fst (Prod.snd (Prod.snd (Prod.snd e)))), AV.sl 1 (Seq.map encB (0 : UInt8) (Prod.snd (Prod.snd (Prod.snd (Prod.snd e))))) Tip.none],
        AObj.cells [AV.str { data := List.toArray (Prod.fst nd) }, AV.sl 2 (Seq.map T.encS ((0 : Int), (0 : Int)) (Prod.snd nd)) Tip.none]]) ∧
        (AV.sl 2 (Seq.map T.encS ((0 : Int), (0 : Int)) (Prod.snd nd)) Tip.none = AV.sl 2 (Seq.map T.encS ((0 : Int), (0 : Int)) (Prod.snd nd)) Tip.none ∧
        [AObj.cells
        [AV.int IntKind.i64 (Prod.fst e), AV.sl 2 (Seq.map T.encN ([], []) (Prod.fst (Prod.snd e))) Tip.none, AV.int IntKind.i64 (Prod.fst (Prod.snd (Prod.snd e))),
        AV.int IntKind.i64 (Prod.fst (Prod.snd (Prod.snd (Prod.snd e)))), AV.sl 1 (Seq.map encB (0 : UInt8) (Prod.snd (Prod.snd (Prod.snd (Prod.snd e))))) Tip.none],
        AObj.cells [AV.str { data := List.toArray (Prod.fst nd) }, AV.sl 2 (Seq.map T.encS ((0 : Int), (0 : Int)) (Prod.snd nd)) Tip.none]] =
        [AObj.cells
        [AV.int IntKind.i64 (Prod.fst e), AV.sl 2 (Seq.map T.encN ([], []) (Prod.fst (Prod.snd e))) Tip.none, AV.int IntKind.i64 (Prod.fst (Prod.snd (Prod.snd e))),
        AV.int IntKind.i64 (Prod.fst (Prod.snd (Prod.snd (Prod.snd e)))), AV.sl 1 (Seq.map encB (0 : UInt8) (Prod.snd (Prod.snd (Prod.snd (Prod.snd e))))) Tip.none],
        AObj.cells [AV.str { data := List.toArray (Prod.fst nd) }, AV.sl 2 (Seq.map T.encS ((0 : Int), (0 : Int)) (Prod.snd nd)) Tip.none]]) ∧
        (AV.int IntKind.i64 (Prod.snd (List.getD (Prod.snd nd) (Int.toNat k) ((0 : Int), (0 : Int)))) =
        AV.int IntKind.i64 (Prod.snd (List.getD (Prod.snd nd) (Int.toNat k) ((0 : Int), (0 : Int)))) ∧
        [AObj.cells
        [AV.int IntKind.i64 (Prod.fst e), AV.sl 2 (Seq.map T.encN ([], []) (Prod.fst (Prod.snd e))) Tip.none, AV.int IntKind.i64 (Prod.fst (Prod.snd (Prod.snd e))),
        AV.int IntKind.i64 (Prod.fst (Prod.snd (Prod.snd (Prod.snd e)))),
        AV.sl 1 (Seq.map encB (0 : UInt8) (Prod.snd (Prod.snd (Prod.snd (Prod.snd e))))) Tip.none],
        AObj.cells [AV.str { data := List.toArray (Prod.fst nd) }, AV.sl 2 (Seq.map T.encS ((0 : Int), (0 : Int)) (Prod.snd nd)) Tip.none]] =
        [AObj.cells
        [AV.int IntKind.i64 (Prod.fst e), AV.sl 2 (Seq.map T.encN ([], []) (Prod.fst (Prod.snd e))) Tip.none, AV.int IntKind.i64 (Prod.fst (Prod.snd (Prod.snd e))),
        AV.int IntKind.i64 (Prod.fst (Prod.snd (Prod.snd (Prod.snd e)))),
        AV.sl 1 (Seq.map encB (0 : UInt8) (Prod.snd (Prod.snd (Prod.snd (Prod.snd e))))) Tip.none],
        AObj.cells [AV.str { data := List.toArray (Prod.fst nd) }, AV.sl 2 (Seq.map T.encS ((0 : Int), (0 : Int)) (Prod.snd nd)) Tip.none]]) ∧
        (AV.sl 2 (Seq.map T.encS ((0 : Int), (0 : Int)) (Prod.snd nd)) Tip.none = AV.sl 2 (Seq.map T.encS ((0 : Int), (0 : Int)) (Prod.snd nd)) Tip.none ∧
        [AObj.cells
        [AV.int IntKind.i64 (Prod.fst e), AV.sl 2 (Seq.map T.encN ([], []) (Prod.fst (Prod.snd e))) Tip.none, AV.int IntKind.i64 (Prod.fst (Prod.snd (Prod.snd e))),
        AV.int IntKind.i64 (Prod.fst (Prod.snd (Prod.snd (Prod.snd e)))),
        AV.sl 1 (Seq.map encB (0 : UInt8) (Prod.snd (Prod.snd (Prod.snd (Prod.snd e))))) Tip.none],
        AObj.cells [AV.str { data := List.toArray (Prod.fst nd) }, AV.sl 2 (Seq.map T.encS ((0 : Int), (0 : Int)) (Prod.snd nd)) Tip.none]] =
        [AObj.cells
        [AV.int IntKind.i64 (Prod.fst e), AV.sl 2 (Seq.map T.encN ([], []) (Prod.fst (Prod.snd e))) Tip.none, AV.int IntKind.i64 (Prod.fst (Prod.snd (Prod.snd e))),
        AV.int IntKind.i64 (Prod.fst (Prod.snd (Prod.snd (Prod.snd e)))),
        AV.sl 1 (Seq.map encB (0 : UInt8) (Prod.snd (Prod.snd (Prod.snd (Prod.snd e))))) Tip.none],
        AObj.cells [AV.str { data := List.toArray (Prod.fst nd) }, AV.sl 2 (Seq.map T.encS ((0 : Int), (0 : Int)) (Prod.snd nd)) Tip.none]]) ∧
        needP ((↑(ByteArray.size s + ByteArray.size x) : Int) ≤ (9223372036854775807 : Int))
        (ASpec Try.prog 150
        [AV.int IntKind.i64
        (IntKind.wrap IntKind.i64
        (Prod.snd (List.getD (Prod.snd nd) (Int.toNat k) ((0 : Int), (0 : Int))) - Prod.fst (List.getD (Prod.snd nd) (Int.toNat k) ((0 : Int), (0 : Int)))))]
        [AObj.cells
        [AV.int IntKind.i64 (Prod.fst e), AV.sl 2 (Seq.map T.encN ([], []) (Prod.fst (Prod.snd e))) Tip.none, AV.int IntKind.i64 (Prod.fst (Prod.snd (Prod.snd e))),
        AV.int IntKind.i64 (Prod.fst (Prod.snd (Prod.snd (Prod.snd e)))),
        AV.sl 1 (Seq.map encB (0 : UInt8) (Prod.snd (Prod.snd (Prod.snd (Prod.snd e))))) Tip.none],
        AObj.cells [AV.str { data := List.toArray (Prod.fst nd) }, AV.sl 2 (Seq.map T.encS ((0 : Int), (0 : Int)) (Prod.snd nd)) Tip.none]]
        fun (r : AV) (H' : List AObj) =>
        ∃ (x_1 : ByteArray),
        r = AV.str x_1 ∧
        H' =
        [AObj.cells
        [AV.int IntKind.i64 (Prod.fst e), AV.sl 2 (Seq.map T.encN ([], []) (Prod.fst (Prod.snd e))) Tip.none,
        AV.int IntKind.i64 (Prod.fst (Prod.snd (Prod.snd e))), AV.int IntKind.i64 (Prod.fst (Prod.snd (Prod.snd (Prod.snd e)))),
        AV.sl 1 (Seq.map encB (0 : UInt8) (Prod.snd (Prod.snd (Prod.snd (Prod.snd e))))) Tip.none],
        AObj.cells [AV.str { data := List.toArray (Prod.fst nd) }, AV.sl 2 (Seq.map T.encS ((0 : Int), (0 : Int)) (Prod.snd nd)) Tip.none]] ∧
        needP ((↑(ByteArray.size (s ++ x) + ByteArray.size x_1) : Int) ≤ (9223372036854775807 : Int))
        (AWP Try.prog 98 n c195_10
        [(1, AV.ptr 0 0), (3, AV.str (s ++ x ++ x_1)), (4, AV.int IntKind.i64 i), (5, AV.ptr 1 0),
        (6, AV.int IntKind.i64 (IntKind.wrap IntKind.i64 (k + (1 : Int))))]
        [AObj.cells
        [AV.int IntKind.i64 (Prod.fst e), AV.sl 2 (Seq.map T.encN ([], []) (Prod.fst (Prod.snd e))) Tip.none,
        AV.int IntKind.i64 (Prod.fst (Prod.snd (Prod.snd e))), AV.int IntKind.i64 (Prod.fst (Prod.snd (Prod.snd (Prod.snd e)))),
        AV.sl 1 (Seq.map encB (0 : UInt8) (Prod.snd (Prod.snd (Prod.snd (Prod.snd e))))) Tip.none],
        AObj.cells [AV.str { data := List.toArray (Prod.fst nd) }, AV.sl 2 (Seq.map T.encS ((0 : Int), (0 : Int)) (Prod.snd nd)) Tip.none]]
        (q195_6 n Post)))))))
      (AWP Try.prog 98 n c195_5 [(1, AV.ptr 0 0), (3, AV.str s), (4, AV.int IntKind.i64 (IntKind.wrap IntKind.i64 (i + (1 : Int))))]
        [AObj.cells
        [AV.int IntKind.i64 (Prod.fst e), AV.sl 2 (Seq.map T.encN ([], []) (Prod.fst (Prod.snd e))) Tip.none, AV.int IntKind.i64 (Prod.fst (Prod.snd (Prod.snd e))),
        AV.int IntKind.i64 (Prod.fst (Prod.snd (Prod.snd (Prod.snd e)))), AV.sl 1 (Seq.map encB (0 : UInt8) (Prod.snd (Prod.snd (Prod.snd (Prod.snd e))))) Tip.none],
        AObj.cells [AV.str { data := List.toArray (Prod.fst nd) }, AV.sl 2 (Seq.map T.encS ((0 : Int), (0 : Int)) (Prod.snd nd)) Tip.none]]
        (q195_2 n Post)) →
    AWP Try.prog 98 n c195_10
      [(1, AV.ptr 0 0), (3, AV.str s), (4, AV.int IntKind.i64 i), (5, AV.ptr 1 0), (6, AV.int IntKind.i64 k)]
      [AObj.cells (T.encE e), AObj.cells (T.encN nd)] (q195_6 n Post) := fun e s i nd k n Post h => Go.Ab.AWP.loop' g195 (Cfg.live g195) c195_10 (by kernel_rfl) (by kernel_rfl) (Go.Ab.kc (by kernel_rfl) h)
noncomputable def c195_15 : Go.Code := codeSnd c195_13
theorem v195_13 : ∀ (e : T.Ev) (s : ByteArray) (n : Nat) (Post : AV → List AObj → Prop),
  condP (Prod.fst e == (3 : Int))
      (needP (allBytes (Seq.map encB (0 : UInt8) (Prod.snd (Prod.snd (Prod.snd (Prod.snd e))))))
        (ASpec Try.prog 150 [AV.int IntKind.i64 (Prod.fst (Prod.snd (Prod.snd (Prod.snd e))))]
        [AObj.cells
        [AV.int IntKind.i64 (Prod.fst e), AV.sl 2 (Seq.map T.encN ([], []) (Prod.fst (Prod.snd e))) Tip.none, AV.int IntKind.i64 (Prod.fst (Prod.snd (Prod.snd e))),
        AV.int IntKind.i64 (Prod.fst (Prod.snd (Prod.snd (Prod.snd e)))), AV.sl 1 (Seq.map encB (0 : UInt8) (Prod.snd (Prod.snd (Prod.snd (Prod.snd e))))) Tip.none]]
        fun (r : AV) (H' : List AObj) =>
        ∃ (x : ByteArray),
        r = AV.str x ∧
        H' =
        [AObj.cells
        [AV.int IntKind.i64 (Prod.fst e), AV.sl 2 (Seq.map T.encN ([], []) (Prod.fst (Prod.snd e))) Tip.none, AV.int IntKind.i64 (Prod.fst (Prod.snd (Prod.snd e))),
        AV.int IntKind.i64 (Prod.fst (Prod.snd (Prod.snd (Prod.snd e)))), AV.sl 1 (Seq.map encB (0 : UInt8) (Prod.snd (Prod.snd (Prod.snd (Prod.snd e))))) Tip.none]] ∧
        (AV.sl 1 (Seq.map encB (0 : UInt8) (Prod.snd (Prod.snd (Prod.snd (Prod.snd e))))) Tip.none =
        AV.sl 1 (Seq.map encB (0 : UInt8) (Prod.snd (Prod.snd (Prod.snd (Prod.snd e))))) Tip.none ∧
        [AObj.cells
        [AV.int IntKind.i64 (Prod.fst e), AV.sl 2 (Seq.map T.encN ([], []) (Prod.fst (Prod.snd e))) Tip.none, AV.int IntKind.i64 (Prod.fst (Prod.snd (Prod.snd e))),
        AV.int IntKind.i64 (Prod.fst (Prod.snd (Prod.snd (Prod.snd e)))), AV.sl 1 (Seq.map encB (0 : UInt8) (Prod.snd (Prod.snd (Prod.snd (Prod.snd e))))) Tip.none]] =
        [AObj.cells
        [AV.int IntKind.i64 (Prod.fst e), AV.sl 2 (Seq.map T.encN ([], []) (Prod.fst (Prod.snd e))) Tip.none, AV.int IntKind.i64 (Prod.fst (Prod.snd (Prod.snd e))),
        AV.int IntKind.i64 (Prod.fst (Prod.snd (Prod.snd (Prod.snd e)))), AV.sl 1 (Seq.map encB (0 : UInt8) (Prod.snd (Prod.snd (Prod.snd (Prod.snd e))))) Tip.none]]) ∧
        needP ((↑(ByteArray.size s + ByteArray.size x) : Int) ≤ (9223372036854775807 : Int))
        (ASpec Try.prog 151 [AV.str (bytesOf (Seq.map encB (0 : UInt8) (Prod.snd (Prod.snd (Prod.snd (Prod.snd e))))))]
        [AObj.cells
        [AV.int IntKind.i64 (Prod.fst e), AV.sl 2 (Seq.map T.encN ([], []) (Prod.fst (Prod.snd e))) Tip.none, AV.int IntKind.i64 (Prod.fst (Prod.snd (Prod.snd e))),
        AV.int IntKind.i64 (Prod.fst (Prod.snd (Prod.snd (Prod.snd e)))), AV.sl 1 (Seq.map encB (0 : UInt8) (Prod.snd (Prod.snd (Prod.snd (Prod.snd e))))) Tip.none]]
        fun (r : AV) (H' : List AObj) =>
        ∃ (x_1 : ByteArray),
        r = AV.str x_1 ∧
        H' =
        [AObj.cells
        [AV.int IntKind.i64 (Prod.fst e), AV.sl 2 (Seq.map T.encN ([], []) (Prod.fst (Prod.snd e))) Tip.none, AV.int IntKind.i64 (Prod.fst (Prod.snd (Prod.snd e))),
        AV.int IntKind.i64 (Prod.fst (Prod.snd (Prod.snd (Prod.snd e)))),
        AV.sl 1 (Seq.map encB (0 : UInt8) (Prod.snd (Prod.snd (Prod.snd (Prod.snd e))))) Tip.none]] ∧
        needP ((↑(ByteArray.size (s ++ x) + ByteArray.size x_1) : Int) ≤ (9223372036854775807 : Int))
        (AWP Try.prog 98 n c195_15 [(1, AV.ptr 0 0), (3, AV.str (s ++ x ++ x_1))]
        [AObj.cells
        [AV.int IntKind.i64 (Prod.fst e), AV.sl 2 (Seq.map T.encN ([], []) (Prod.fst (Prod.snd e))) Tip.none, AV.int IntKind.i64 (Prod.fst (Prod.snd (Prod.snd e))),
        AV.int IntKind.i64 (Prod.fst (Prod.snd (Prod.snd (Prod.snd e)))),
        AV.sl 1 (Seq.map encB (0 : UInt8) (Prod.snd (Prod.snd (Prod.snd (Prod.snd e))))) Tip.none]]
        (q195_0 n Post)))))
      (AWP Try.prog 98 n c195_15 [(1, AV.ptr 0 0), (3, AV.str s)]
        [AObj.cells
        [AV.int IntKind.i64 (Prod.fst e), AV.sl 2 (Seq.map T.encN ([], []) (Prod.fst (Prod.snd e))) Tip.none, AV.int IntKind.i64 (Prod.fst (Prod.snd (Prod.snd e))),
        AV.int IntKind.i64 (Prod.fst (Prod.snd (Prod.snd (Prod.snd e)))), AV.sl 1 (Seq.map encB (0 : UInt8) (Prod.snd (Prod.snd (Prod.snd (Prod.snd e))))) Tip.none]]
        (q195_0 n Post)) →
    AWP Try.prog 98 n c195_13 [(1, AV.ptr 0 0), (3, AV.str s)] [AObj.cells (T.encE e)] (q195_0 n Post) := fun e s n Post h => Go.Ab.awp_sound g195 n _ _ _ _ (Go.Ab.kc (by kernel_rfl) h)
theorem v195_15 : ∀ (e : T.Ev) (s : ByteArray) (n : Nat) (Post : AV → List AObj → Prop),
  condP (Prod.fst e == (4 : Int))
      (ASpec Try.prog 150 [AV.int IntKind.i64 (Prod.fst (Prod.snd (Prod.snd (Prod.snd e))))]
        [AObj.cells
        [AV.int IntKind.i64 (Prod.fst e), AV.sl 2 (Seq.map T.encN ([], []) (Prod.fst (Prod.snd e))) Tip.none, AV.int IntKind.i64 (Prod.fst (Prod.snd (Prod.snd e))),
        AV.int IntKind.i64 (Prod.fst (Prod.snd (Prod.snd (Prod.snd e)))), AV.sl 1 (Seq.map encB (0 : UInt8) (Prod.snd (Prod.snd (Prod.snd (Prod.snd e))))) Tip.none]]
        fun (r : AV) (H' : List AObj) =>
        ∃ (x : ByteArray),
        r = AV.str x ∧
        H' =
        [AObj.cells
        [AV.int IntKind.i64 (Prod.fst e), AV.sl 2 (Seq.map T.encN ([], []) (Prod.fst (Prod.snd e))) Tip.none, AV.int IntKind.i64 (Prod.fst (Prod.snd (Prod.snd e))),
        AV.int IntKind.i64 (Prod.fst (Prod.snd (Prod.snd (Prod.snd e)))), AV.sl 1 (Seq.map encB (0 : UInt8) (Prod.snd (Prod.snd (Prod.snd (Prod.snd e))))) Tip.none]] ∧
        needP ((↑(ByteArray.size s + ByteArray.size x) : Int) ≤ (9223372036854775807 : Int))
        (Post (AV.str (s ++ x))
        [AObj.cells
        [AV.int IntKind.i64 (Prod.fst e), AV.sl 2 (Seq.map T.encN ([], []) (Prod.fst (Prod.snd e))) Tip.none, AV.int IntKind.i64 (Prod.fst (Prod.snd (Prod.snd e))),
        AV.int IntKind.i64 (Prod.fst (Prod.snd (Prod.snd (Prod.snd e)))), AV.sl 1 (Seq.map encB (0 : UInt8) (Prod.snd (Prod.snd (Prod.snd (Prod.snd e))))) Tip.none]]))
      (Post (AV.str s)
        [AObj.cells
        [AV.int IntKind.i64 (Prod.fst e), AV.sl 2 (Seq.map T.encN ([], []) (Prod.fst (Prod.snd e))) Tip.none, AV.int IntKind.i64 (Prod.fst (Prod.snd (Prod.snd e))),
        AV.int IntKind.i64 (Prod.fst (Prod.snd (Prod.snd (Prod.snd e)))), AV.sl 1 (Seq.map encB (0 : UInt8) (Prod.snd (Prod.snd (Prod.snd (Prod.snd e))))) Tip.none]]) →
    AWP Try.prog 98 n c195_15 [(1, AV.ptr 0 0), (3, AV.str s)] [AObj.cells (T.encE e)] (q195_0 n Post) := fun e s n Post h => Go.Ab.awp_sound g195 n _ _ _ _ (Go.Ab.kc (by kernel_rfl) h)

-- 75
noncomputable def l75 : Nat → List Nat
  | 5 => [0, 3, 4]
  | _ => []
noncomputable def u75 : Nat → Bool
  | _ => false
noncomputable def m75 : Nat → Bool
  | _ => false
noncomputable def g75 : Cfg := { N := 31, live := l75, cut := u75, mu := m75, ret := rets }
noncomputable def c75 : Go.Code := Go.Ab.bodyOf Go.Proofs.Try.f75
noncomputable def q75_0 : Nat → (AV → List AObj → Prop) → AQ := fun (n : Nat) (Post : AV → List AObj → Prop) => endQ Try.prog (resultsOf Try.f75) Post
noncomputable def q75_1 : Nat → (AV → List AObj → Prop) → AQ := fun (n : Nat) (Post : AV → List AObj → Prop) => seqQ (fun (s' : Slots) (H' : List AObj) => awp Try.prog g75 n (codeSnd (codeSnd (codeSnd (codeSnd c75)))) s' H' (q75_0 n Post)) (q75_0 n Post)
noncomputable def q75_2 : Nat → (AV → List AObj → Prop) → AQ := fun (n : Nat) (Post : AV → List AObj → Prop) => blockQ 0 (q75_1 n Post)
noncomputable def c75_5 : Go.Code := codeFst (codeSnd (codeFst (codeSnd (codeSnd (codeSnd c75)))))
theorem s75 : ∀ (l : List T.Ev) (Post : AV → List AObj → Prop),
  condP (decide ((↑(List.length l) : Int) > (400 : Int))) (Post (AV.str { data := #[] }) [])
      (ASpec Try.prog 150 [AV.int IntKind.i64 (↑(List.length l) : Int)] [] fun (r : AV) (H' : List AObj) =>
        ∃ (x : ByteArray),
        r = AV.str x ∧
        H' = [] ∧
        AWP Try.prog 31 0 c75_5 [(0, AV.sl 5 (Seq.map T.encE T.noEv l) Tip.none), (3, AV.str x), (4, AV.int IntKind.i64 (0 : Int))] []
        (q75_2 0 Post)) →
    ASpec Try.prog 75 [AV.sl 5 (Seq.map T.encE T.noEv l) Tip.none] [] Post := fun l Post h => Go.Ab.ASpec.of_vc g75 Go.Proofs.Try.func75 (by kernel_rfl) (by kernel_rfl) (by kernel_rfl) (Go.Ab.kc (by kernel_rfl) h)
theorem v75_5 : ∀ (l : List T.Ev) (s : ByteArray) (i : Int) (n : Nat) (Post : AV → List AObj → Prop),
  condP (decide (i < (↑(List.length l) : Int)))
      (needP ((0 : Int) ≤ i ∧ i < (↑(List.length l) : Int))
        (ASpec Try.prog 194
        [AV.agg
        [AV.int IntKind.i64 (Prod.fst (List.getD l (Int.toNat i) T.noEv)), AV.sl 2 (Seq.map T.encN ([], []) (Prod.fst (Prod.snd (List.getD l (Int.toNat i) T.noEv)))) Tip.none,
        AV.int IntKind.i64 (Prod.fst (Prod.snd (Prod.snd (List.getD l (Int.toNat i) T.noEv)))),
        AV.int IntKind.i64 (Prod.fst (Prod.snd (Prod.snd (Prod.snd (List.getD l (Int.toNat i) T.noEv))))),
        AV.sl 1 (Seq.map encB (0 : UInt8) (Prod.snd (Prod.snd (Prod.snd (Prod.snd (List.getD l (Int.toNat i) T.noEv)))))) Tip.none]]
        [] fun (r : AV) (H' : List AObj) =>
        ∃ (x : Bool),
        r = AV.bool x ∧
        H' = [] ∧
        condP (!x) (Post (AV.str { data := #[] }) [])
        (needP ((0 : Int) ≤ i ∧ i < (↑(List.length l) : Int))
        (ASpec Try.prog 195
        [AV.agg
        [AV.int IntKind.i64 (Prod.fst (List.getD l (Int.toNat i) T.noEv)),
        AV.sl 2 (Seq.map T.encN ([], []) (Prod.fst (Prod.snd (List.getD l (Int.toNat i) T.noEv)))) Tip.none,
        AV.int IntKind.i64 (Prod.fst (Prod.snd (Prod.snd (List.getD l (Int.toNat i) T.noEv)))),
        AV.int IntKind.i64 (Prod.fst (Prod.snd (Prod.snd (Prod.snd (List.getD l (Int.toNat i) T.noEv))))),
        AV.sl 1 (Seq.map encB (0 : UInt8) (Prod.snd (Prod.snd (Prod.snd (Prod.snd (List.getD l (Int.toNat i) T.noEv)))))) Tip.none]]
        [] fun (r : AV) (H' : List AObj) =>
        ∃ (x : ByteArray),
        r = AV.str x ∧
        H' = [] ∧
        needP ((↑(ByteArray.size s + ByteArray.size x) : Int) ≤ (9223372036854775807 : Int))
        (AWP Try.prog 31 n c75_5
        [(0, AV.sl 5 (Seq.map T.encE T.noEv l) Tip.none), (3, AV.str (s ++ x)),
        (4, AV.int IntKind.i64 (IntKind.wrap IntKind.i64 (i + (1 : Int))))]
        [] (q75_2 n Post))))))
      (Post (AV.str s) []) →
    AWP Try.prog 31 n c75_5 [(0, AV.sl 5 (Seq.map T.encE T.noEv l) Tip.none), (3, AV.str s), (4, AV.int IntKind.i64 i)] [] (q75_2 n Post) := fun l s i n Post h => Go.Ab.AWP.loop' g75 (Cfg.live g75) c75_5 (by kernel_rfl) (by kernel_rfl) (Go.Ab.kc (by kernel_rfl) h)

-- 76
noncomputable def l76 : Nat → List Nat
  | 4 => [0, 1, 5]
  | _ => []
noncomputable def u76 : Nat → Bool
  | _ => false
noncomputable def m76 : Nat → Bool
  | _ => false
noncomputable def g76 : Cfg := { N := 27, live := l76, cut := u76, mu := m76, ret := rets }
noncomputable def c76 : Go.Code := Go.Ab.bodyOf Go.Proofs.Try.f76
noncomputable def q76_0 : Nat → (AV → List AObj → Prop) → AQ := fun (n : Nat) (Post : AV → List AObj → Prop) => endQ Try.prog (resultsOf Try.f76) Post
noncomputable def q76_1 : Nat → (AV → List AObj → Prop) → AQ := fun (n : Nat) (Post : AV → List AObj → Prop) => seqQ (fun (s' : Slots) (H' : List AObj) => awp Try.prog g76 n (codeSnd (codeSnd (codeSnd c76))) s' H' (q76_0 n Post)) (q76_0 n Post)
noncomputable def q76_2 : Nat → (AV → List AObj → Prop) → AQ := fun (n : Nat) (Post : AV → List AObj → Prop) => blockQ 0 (q76_1 n Post)
noncomputable def c76_4 : Go.Code := codeFst (codeSnd (codeFst (codeSnd (codeSnd c76))))
theorem s76 : ∀ (a b : List T.Ev) (Post : AV → List AObj → Prop),
  condP ((↑(List.length a) : Int) != (↑(List.length b) : Int)) (Post (AV.bool false) [])
      (AWP Try.prog 27 0 c76_4
        [(0, AV.sl 5 (Seq.map T.encE T.noEv a) Tip.none), (1, AV.sl 5 (Seq.map T.encE T.noEv b) Tip.none), (5, AV.int IntKind.i64 (0 : Int))] []
        (q76_2 0 Post)) →
    ASpec Try.prog 76 [AV.sl 5 (Seq.map T.encE T.noEv a) Tip.none, AV.sl 5 (Seq.map T.encE T.noEv b) Tip.none] [] Post := fun a b Post h => Go.Ab.ASpec.of_vc g76 Go.Proofs.Try.func76 (by kernel_rfl) (by kernel_rfl) (by kernel_rfl) (Go.Ab.kc (by kernel_rfl) h)
theorem v76_4 : ∀ (a b : List T.Ev) (i : Int) (n : Nat) (Post : AV → List AObj → Prop),
  condP (decide (i < (↑(List.length a) : Int)))
      (needP ((0 : Int) ≤ i ∧ i < (↑(List.length a) : Int))
        (needP ((0 : Int) ≤ i ∧ i < (↑(List.length b) : Int))
        (ASpec Try.prog 48
        [AV.agg
        [AV.int IntKind.i64 (Prod.fst (List.getD a (Int.toNat i) T.noEv)), AV.sl 2 (Seq.map T.encN ([], []) (Prod.fst (Prod.snd (List.getD a (Int.toNat i) T.noEv)))) Tip.none,
        AV.int IntKind.i64 (Prod.fst (Prod.snd (Prod.snd (List.getD a (Int.toNat i) T.noEv)))),
        AV.int IntKind.i64 (Prod.fst (Prod.snd (Prod.snd (Prod.snd (List.getD a (Int.toNat i) T.noEv))))),
        AV.sl 1 (Seq.map encB (0 : UInt8) (Prod.snd (Prod.snd (Prod.snd (Prod.snd (List.getD a (Int.toNat i) T.noEv)))))) Tip.none],
        AV.agg
        [AV.int IntKind.i64 (Prod.fst (List.getD b (Int.toNat i) T.noEv)), AV.sl 2 (Seq.map T.encN ([], []) (Prod.fst (Prod.snd (List.getD b (Int.toNat i) T.noEv)))) Tip.none,
        AV.int IntKind.i64 (Prod.fst (Prod.snd (Prod.snd (List.getD b (Int.toNat i) T.noEv)))),
        AV.int IntKind.i64 (Prod.fst (Prod.snd (Prod.snd (Prod.snd (List.getD b (Int.toNat i) T.noEv))))),
        AV.sl 1 (Seq.map encB (0 : UInt8) (Prod.snd (Prod.snd (Prod.snd (Prod.snd (List.getD b (Int.toNat i) T.noEv)))))) Tip.none]]
        [] fun (r : AV) (H' : List AObj) =>
        ∃ (x : Bool),
        r = AV.bool x ∧
        H' = [] ∧
        condP (!x) (Post (AV.bool false) [])
        (AWP Try.prog 27 n c76_4
        [(0, AV.sl 5 (Seq.map T.encE T.noEv a) Tip.none), (1, AV.sl 5 (Seq.map T.encE T.noEv b) Tip.none),
        (5, AV.int IntKind.i64 (IntKind.wrap IntKind.i64 (i + (1 : Int))))]
        [] (q76_2 n Post)))))
      (Post (AV.bool true) []) →
    AWP Try.prog 27 n c76_4
      [(0, AV.sl 5 (Seq.map T.encE T.noEv a) Tip.none), (1, AV.sl 5 (Seq.map T.encE T.noEv b) Tip.none), (5, AV.int IntKind.i64 i)] [] (q76_2 n Post) := fun a b i n Post h => Go.Ab.AWP.loop' g76 (Cfg.live g76) c76_4 (by kernel_rfl) (by kernel_rfl) (Go.Ab.kc (by kernel_rfl) h)

-- 9
noncomputable def l9 : Nat → List Nat
  | 8 => [0, 5]
  | _ => []
noncomputable def u9 : Nat → Bool
  | 8 => true
  | _ => false
noncomputable def m9 : Nat → Bool
  | _ => false
noncomputable def g9 : Cfg := { N := 81, live := l9, cut := u9, mu := m9, ret := rets }
noncomputable def c9 : Go.Code := Go.Ab.bodyOf Go.Proofs.Try.f9
noncomputable def q9_0 : Nat → (AV → List AObj → Prop) → AQ := fun (n : Nat) (Post : AV → List AObj → Prop) => endQ Try.prog (resultsOf Try.f9) Post
noncomputable def c9_8 : Go.Code := codeSnd (codeSnd (codeSnd (codeSnd (codeSnd (codeSnd c9)))))
theorem s9 : ∀ (l : List T.Ev) (b : List UInt8) (Post : AV → List AObj → Prop),
  (ASpec Try.prog 70 [AV.sl 5 (Seq.map T.encE T.noEv l) Tip.none] [] fun (r : AV) (H' : List AObj) =>
      ∃ (x : Bool),
        r = AV.bool x ∧
        H' = [] ∧
        condP x (ASpec Try.prog 71 [] [] fun (r : AV) (H' : List AObj) => ∃ (x : Unit), r = AV.bool true ∧ H' = [] ∧ Post (AV.bool true) [])
        (condP (decide ((↑(List.length b) : Int) > (12000 : Int)))
        (ASpec Try.prog 71 [] [] fun (r : AV) (H' : List AObj) => ∃ (x : Unit), r = AV.bool true ∧ H' = [] ∧ Post (AV.bool true) [])
        (ASpec Try.prog 72 [AV.sl 5 (Seq.map T.encE T.noEv l) Tip.none] [] fun (r : AV) (H' : List AObj) =>
        ∃ (x : List UInt8),
        r = AV.sl 1 (Seq.map encB (0 : UInt8) x) Tip.none ∧
        H' = [] ∧
        ASpec Try.prog 73 [AV.sl 1 (Seq.map encB (0 : UInt8) b) Tip.none] [] fun (r : AV) (H' : List AObj) =>
        ∃ (x_1 : List T.Ev × Int),
        r = AV.tup [AV.sl 5 (Seq.map T.encE T.noEv (Prod.fst x_1)) Tip.none, AV.int IntKind.i64 (Prod.snd x_1)] ∧
        H' = [] ∧
        needP (allBytes (Seq.map encB (0 : UInt8) b))
        (ASpec Try.prog 74 [AV.str (bytesOf (Seq.map encB (0 : UInt8) b))] [] fun (r : AV) (H' : List AObj) =>
        ∃ (x_2 : List T.Ev × Int),
        r = AV.tup [AV.sl 5 (Seq.map T.encE T.noEv (Prod.fst x_2)) Tip.none, AV.int IntKind.i64 (Prod.snd x_2)] ∧
        H' = [] ∧
        needP (allBytes (Seq.map encB (0 : UInt8) x))
        (ASpec Try.prog 75 [AV.sl 5 (Seq.map T.encE T.noEv l) Tip.none] [] fun (r : AV) (H' : List AObj) =>
        ∃ (x_3 : ByteArray),
        r = AV.str x_3 ∧
        H' = [] ∧
        condP (!ByteArray.toList (bytesOf (Seq.map encB (0 : UInt8) x)) == ByteArray.toList x_3) (Post (AV.bool false) [])
        (ASpec Try.prog 76
        [AV.sl 5 (Seq.map T.encE T.noEv (Prod.fst x_1)) Tip.none, AV.sl 5 (Seq.map T.encE T.noEv (Prod.fst x_2)) Tip.none] []
        fun (r : AV) (H' : List AObj) =>
        ∃ (x_4 : Bool),
        r = AV.bool x_4 ∧
        H' = [] ∧
        condP (!x_4) (Post (AV.bool false) [])
        (condP (Prod.snd x_1 != Prod.snd x_2) (Post (AV.bool false) [])
        (condP (Prod.snd x_1 == (0 : Int))
        (needP (allBytes (Seq.map encB (0 : UInt8) b))
        (ASpec Try.prog 72 [AV.sl 5 (Seq.map T.encE T.noEv (Prod.fst x_1)) Tip.none] [] fun (r : AV) (H' : List AObj) =>
        ∃ (x_5 : List UInt8),
        r = AV.sl 1 (Seq.map encB (0 : UInt8) x_5) Tip.none ∧
        H' = [] ∧
        needP (allBytes (Seq.map encB (0 : UInt8) x_5))
        (condP
        (!ByteArray.toList (bytesOf (Seq.map encB (0 : UInt8) x_5)) ==
        ByteArray.toList (bytesOf (Seq.map encB (0 : UInt8) b)))
        (Post (AV.bool false) [])
        (AWP Try.prog 81 0 c9_8
        [(0, AV.sl 5 (Seq.map T.encE T.noEv l) Tip.none),
        (5, AV.sl 1 (Seq.map encB (0 : UInt8) x) Tip.none)]
        [] (q9_0 0 Post)))))
        (AWP Try.prog 81 0 c9_8
        [(0, AV.sl 5 (Seq.map T.encE T.noEv l) Tip.none),
        (5, AV.sl 1 (Seq.map encB (0 : UInt8) x) Tip.none)]
        [] (q9_0 0 Post)))))))))) →
    ASpec Try.prog 9 [AV.sl 5 (Seq.map T.encE T.noEv l) Tip.none, AV.sl 1 (Seq.map encB (0 : UInt8) b) Tip.none] [] Post := fun l b Post h => Go.Ab.ASpec.of_vc g9 Go.Proofs.Try.func9 (by kernel_rfl) (by kernel_rfl) (by kernel_rfl) (Go.Ab.kc (by kernel_rfl) h)
theorem v9_8 : ∀ (l : List T.Ev) (w : List UInt8) (n : Nat) (Post : AV → List AObj → Prop),
  (ASpec Try.prog 73 [AV.sl 1 (Seq.map encB (0 : UInt8) w) Tip.none] [] fun (r : AV) (H' : List AObj) =>
      ∃ (x : List T.Ev × Int),
        r = AV.tup [AV.sl 5 (Seq.map T.encE T.noEv (Prod.fst x)) Tip.none, AV.int IntKind.i64 (Prod.snd x)] ∧
        H' = [] ∧
        ASpec Try.prog 75 [AV.sl 5 (Seq.map T.encE T.noEv l) Tip.none] [] fun (r : AV) (H' : List AObj) =>
        ∃ (x_1 : ByteArray),
        r = AV.str x_1 ∧
        H' = [] ∧
        condP (ByteArray.toList x_1 == ByteArray.toList { data := #[] })
        (ASpec Try.prog 71 [] [] fun (r : AV) (H' : List AObj) => ∃ (x : Unit), r = AV.bool true ∧ H' = [] ∧ Post (AV.bool true) [])
        (condP (Prod.snd x == (0 : Int))
        (ASpec Try.prog 76 [AV.sl 5 (Seq.map T.encE T.noEv (Prod.fst x)) Tip.none, AV.sl 5 (Seq.map T.encE T.noEv l) Tip.none] []
        fun (r : AV) (H' : List AObj) =>
        ∃ (x : Bool),
        r = AV.bool x ∧
        H' = [] ∧
        condP x (ASpec Try.prog 71 [] [] fun (r : AV) (H' : List AObj) => ∃ (x : Unit), r = AV.bool true ∧ H' = [] ∧ Post (AV.bool true) []) (Post (AV.bool false) []))
        (Post (AV.bool false) []))) →
    AWP Try.prog 81 n c9_8 [(0, AV.sl 5 (Seq.map T.encE T.noEv l) Tip.none), (5, AV.sl 1 (Seq.map encB (0 : UInt8) w) Tip.none)] [] (q9_0 n Post) := fun l w n Post h => Go.Ab.awp_sound g9 n _ _ _ _ (Go.Ab.kc (by kernel_rfl) h)

end
end EB
end

section
/- Printed: what the code of functions 184, 264, 172, 270, 271, 273, 272, 276, 275, 274, 181, 326, 277 asks for, by the framework's own reading of it; each line is checked against the code. -/

set_option linter.unusedVariables false
set_option maxRecDepth 100000
set_option maxHeartbeats 4000000
open Go Go.Ab Go.Proofs
namespace W
noncomputable section

noncomputable def updC (args : List AV) (H : List AObj) (p e : Int) : List AObj := match args with
  | .ptr c _ :: _ => match H[c]? with
    | some (.cells [.ptr id off]) => V.upd3 [.ptr id off] H p e
    | _ => H
  | _ => H
noncomputable def tl (args : List AV) : List AV := match args with
  | _ :: r => r
  | _ => []
noncomputable def HR (bs : List UInt8) (p e : Int) : List AObj := [V.rd bs p e, .cells [.ptr 0 0], .cells [.fn 270 [.ptr 1 0]], .cells [.fn 271 [.ptr 1 0]], .cells [.fn 272 [.ptr 2 0, .ptr 1 0, .ptr 3 0]]]
noncomputable def retW : List (Nat × Ret) := [
  (9039, ⟨Unit, fun _ _ _ => .bool true, fun _ H _ => H⟩),
  (181, ⟨T.Mani × Int, fun _ _ x => .tup [.agg (T.encM x.1), .int .i64 x.2], fun _ H _ => H⟩),
  (277, ⟨T.Mani × Int, fun _ _ x => .tup [.agg (T.encM x.1), .int .i64 x.2], fun _ H _ => H⟩),
  (184, ⟨List UInt8, fun _ _ x => .sl 1 (.map encB 0 x) .none, fun _ H _ => H⟩),
  (172, ⟨ByteArray, fun _ _ x => .str x, fun _ H _ => H⟩),
  (270, ⟨ByteArray × Int × Int, fun _ _ x => .str x.1, fun a H x => updC a H x.2.1 x.2.2⟩),
  (271, ⟨T.Span × Int × Int, fun _ _ x => .agg (T.encS x.1), fun a H x => updC a H x.2.1 x.2.2⟩),
  (272, ⟨T.Need × Int × Int, fun _ _ x => .agg (T.encN x.1), fun a H x => updC (tl a) H x.2.1 x.2.2⟩),
  (275, ⟨T.Rel × Int × Int, fun _ _ x => .agg (T.encR x.1), fun a H x => updC a H x.2.1 x.2.2⟩),
  (273, ⟨List T.Span × Int × Int, fun _ _ x => .sl 2 (.map T.encS (0, 0) x.1) .none, fun a H x => V.upd3 a H x.2.1 x.2.2⟩),
  (276, ⟨List T.Need × Int × Int, fun _ _ x => .sl 2 (.map T.encN ([], []) x.1) .none, fun a H x => V.upd3 a H x.2.1 x.2.2⟩),
  (274, ⟨List T.Rel × Int × Int, fun _ _ x => .sl 2 (.map T.encR (0, []) x.1) .none, fun a H x => V.upd3 a H x.2.1 x.2.2⟩),
  (326, ⟨List T.Need × ByteArray × Int, fun _ _ x => .sl 2 (.map T.encN ([], []) x.1) .none, fun a H x => V.upd2 a H x.2.1 x.2.2⟩),
  (264, ⟨ByteArray, fun _ _ x => .str x, fun _ H _ => H⟩)]
noncomputable def rets : FuncId → List Ret := lookupR (retW ++ C.retC ++ V.retL)

-- 184
noncomputable def l184 : Nat → List Nat
  | 5 => [3, 22, 23, 24]
  | 9 => [3, 22, 23, 24, 37, 38, 39]
  | 13 => [3, 22, 23, 24, 37, 38, 39, 53, 54, 55]
  | _ => []
noncomputable def u184 : Nat → Bool
  | _ => false
noncomputable def m184 : Nat → Bool
  | _ => false
noncomputable def g184 : Cfg := { N := 73, live := l184, cut := u184, mu := m184, ret := rets }
noncomputable def c184 : Go.Code := Go.Ab.bodyOf Go.Proofs.Try.f184
noncomputable def q184_0 : Nat → (AV → List AObj → Prop) → AQ := fun (n : Nat) (Post : AV → List AObj → Prop) => endQ Try.prog (resultsOf Try.f184) Post
noncomputable def q184_1 : Nat → (AV → List AObj → Prop) → AQ := fun (n : Nat) (Post : AV → List AObj → Prop) => seqQ (fun (s' : Slots) (H' : List AObj) => awp Try.prog g184 n (codeSnd (codeSnd (codeSnd (codeSnd c184)))) s' H' (q184_0 n Post)) (q184_0 n Post)
noncomputable def q184_2 : Nat → (AV → List AObj → Prop) → AQ := fun (n : Nat) (Post : AV → List AObj → Prop) => blockQ 0 (q184_1 n Post)
noncomputable def c184_5 : Go.Code := codeFst (codeSnd (codeFst (codeSnd (codeSnd (codeSnd c184)))))
theorem s184 : ∀ (m : T.Mani) (Post : AV → List AObj → Prop),
  (ASpec Try.prog 185 [AV.agg [AV.str { data := List.toArray (Prod.fst m) }, AV.sl 2 (Seq.map T.encR ((0 : Int), []) (Prod.snd m)) Tip.none]]
      [AObj.cells [AV.str { data := List.toArray (Prod.fst m) }, AV.sl 2 (Seq.map T.encR ((0 : Int), []) (Prod.snd m)) Tip.none]] fun (r : AV) (H' : List AObj) =>
      ∃ (x : Bool),
        r = AV.bool x ∧
        H' = [AObj.cells [AV.str { data := List.toArray (Prod.fst m) }, AV.sl 2 (Seq.map T.encR ((0 : Int), []) (Prod.snd m)) Tip.none]] ∧
        condP (!x) (Post (AV.sl 0 (Seq.raw []) Tip.nil) [AObj.cells [AV.str { data := List.toArray (Prod.fst m) }, AV.sl 2 (Seq.map T.encR ((0 : Int), []) (Prod.snd m)) Tip.none]])
        (ASpec Try.prog 141 [AV.sl 0 (Seq.raw []) Tip.nil, AV.str { data := List.toArray (Prod.fst m) }]
        [AObj.cells [AV.str { data := List.toArray (Prod.fst m) }, AV.sl 2 (Seq.map T.encR ((0 : Int), []) (Prod.snd m)) Tip.none]] fun (r : AV) (H' : List AObj) =>
        ∃ (x : List UInt8),
        r = AV.sl 1 (Seq.map encB (0 : UInt8) x) (Tip.tok 1) ∧
        H' = [AObj.cells [AV.str { data := List.toArray (Prod.fst m) }, AV.sl 2 (Seq.map T.encR ((0 : Int), []) (Prod.snd m)) Tip.none], AObj.tok] ∧
        (AV.int IntKind.i64 (↑(List.length (Prod.snd m)) : Int) = AV.int IntKind.i64 (↑(List.length (Prod.snd m)) : Int) ∧
        [AObj.cells [AV.str { data := List.toArray (Prod.fst m) }, AV.sl 2 (Seq.map T.encR ((0 : Int), []) (Prod.snd m)) Tip.none], AObj.tok] =
        [AObj.cells [AV.str { data := List.toArray (Prod.fst m) }, AV.sl 2 (Seq.map T.encR ((0 : Int), []) (Prod.snd m)) Tip.none], AObj.tok]) ∧
        (AV.sl 2 (Seq.map T.encR ((0 : Int), []) (Prod.snd m)) Tip.none = AV.sl 2 (Seq.map T.encR ((0 : Int), []) (Prod.snd m)) Tip.none ∧
        [AObj.cells [AV.str { data := List.toArray (Prod.fst m) }, AV.sl 2 (Seq.map T.encR ((0 : Int), []) (Prod.snd m)) Tip.none], AObj.tok] =
        [AObj.cells [AV.str { data := List.toArray (Prod.fst m) }, AV.sl 2 (Seq.map T.encR ((0 : Int), []) (Prod.snd m)) Tip.none], AObj.tok]) ∧
        ASpec Try.prog 140
        [AV.sl 1 (Seq.map encB (0 : UInt8) x) (Tip.tok 1), AV.sl 1 (Seq.raw [[AV.int IntKind.i64 (↑(List.length (Prod.snd m)) : Int)]]) Tip.full]
        [AObj.cells [AV.str { data := List.toArray (Prod.fst m) }, AV.sl 2 (Seq.map T.encR ((0 : Int), []) (Prod.snd m)) Tip.none], AObj.tok]
        fun (r : AV) (H' : List AObj) =>
        ∃ (x : List UInt8),
        r = AV.sl 1 (Seq.map encB (0 : UInt8) x) (Tip.tok 2) ∧
        H' = [AObj.cells [AV.str { data := List.toArray (Prod.fst m) }, AV.sl 2 (Seq.map T.encR ((0 : Int), []) (Prod.snd m)) Tip.none], AObj.tok, AObj.tok] ∧
        AWP Try.prog 73 0 c184_5
        [(3, AV.sl 1 (Seq.map encB (0 : UInt8) x) (Tip.tok 2)),
        (22, AV.sl 2 (Seq.map T.encR ((0 : Int), []) (Prod.snd m)) Tip.none), (23, AV.int IntKind.i64 (↑(List.length (Prod.snd m)) : Int)),
        (24, AV.int IntKind.i64 (0 : Int))]
        [AObj.cells [AV.str { data := List.toArray (Prod.fst m) }, AV.sl 2 (Seq.map T.encR ((0 : Int), []) (Prod.snd m)) Tip.none], AObj.tok, AObj.tok]
        (q184_2 0 Post))) →
    ASpec Try.prog 184 [AV.agg (T.encM m)] [] Post := fun m Post h => Go.Ab.ASpec.of_vc g184 Go.Proofs.Try.func184 (by kernel_rfl) (by kernel_rfl) (by kernel_rfl) (Go.Ab.kc (by kernel_rfl) h)
noncomputable def q184_3 : Nat → (AV → List AObj → Prop) → AQ := fun (n : Nat) (Post : AV → List AObj → Prop) => loopQ Try.prog 73 n c184_5 (q184_2 n Post) (Cfg.live g184)
noncomputable def q184_4 : Nat → (AV → List AObj → Prop) → AQ := fun (n : Nat) (Post : AV → List AObj → Prop) => seqQ (fun (s' : Slots) (H' : List AObj) => awp Try.prog g184 n (codeSnd (codeSnd (codeSnd (codeFst c184_5)))) s' H' (q184_3 n Post)) (q184_3 n Post)
noncomputable def q184_5 : Nat → (AV → List AObj → Prop) → AQ := fun (n : Nat) (Post : AV → List AObj → Prop) => blockQ 1 (q184_4 n Post)
noncomputable def q184_6 : Nat → (AV → List AObj → Prop) → AQ := fun (n : Nat) (Post : AV → List AObj → Prop) => blockQ 2 (q184_5 n Post)
noncomputable def c184_9 : Go.Code := codeFst (codeSnd (codeSnd (codeSnd (codeFst (codeFst (codeSnd (codeSnd (codeFst c184_5))))))))
theorem v184_5 : ∀ (b : List UInt8) (rs : List T.Rel) (n i : Int) (n_1 : Nat) (Post : AV → List AObj → Prop),
  condP (decide (i < n))
      (needP ((0 : Int) ≤ i ∧ i < (↑(List.length rs) : Int))
        (ASpec Try.prog 140
        [AV.sl 1 (Seq.map encB (0 : UInt8) b) Tip.none,
        AV.sl 1
        (Seq.raw
        [[AV.int IntKind.i64 (Prod.fst (List.getD rs (Int.toNat i) ((0 : Int), [])))], [AV.int IntKind.i64 (↑(List.length (Prod.snd (List.getD rs (Int.toNat i) ((0 : Int), [])))) : Int)]])
        Tip.full]
        [AObj.cells
        [AV.int IntKind.i64 (Prod.fst (List.getD rs (Int.toNat i) ((0 : Int), []))), AV.sl 2 (Seq.map T.encN ([], []) (Prod.snd (List.getD rs (Int.toNat i) ((0 : Int), [])))) Tip.none]]
        fun (r : AV) (H' : List AObj) =>
        ∃ (x : List UInt8),
        r = AV.sl 1 (Seq.map encB (0 : UInt8) x) (Tip.tok 1) ∧
        H' =
        [AObj.cells
        [AV.int IntKind.i64 (Prod.fst (List.getD rs (Int.toNat i) ((0 : Int), []))),
        AV.sl 2 (Seq.map T.encN ([], []) (Prod.snd (List.getD rs (Int.toNat i) ((0 : Int), [])))) Tip.none],
        AObj.tok] ∧
        AWP Try.prog 73 n_1 c184_9
        [(3, AV.sl 1 (Seq.map encB (0 : UInt8) x) (Tip.tok 1)), (22, AV.sl 2 (Seq.map T.encR ((0 : Int), []) rs) Tip.none),
        (23, AV.int IntKind.i64 n), (24, AV.int IntKind.i64 i),
        (37, AV.sl 2 (Seq.map T.encN ([], []) (Prod.snd (List.getD rs (Int.toNat i) ((0 : Int), [])))) Tip.none),
        (38, AV.int IntKind.i64 (↑(List.length (Prod.snd (List.getD rs (Int.toNat i) ((0 : Int), [])))) : Int)), (39, AV.int IntKind.i64 (0 : Int))]
        [AObj.cells
        [AV.int IntKind.i64 (Prod.fst (List.getD rs (Int.toNat i) ((0 : Int), []))),
        AV.sl 2 (Seq.map T.encN ([], []) (Prod.snd (List.getD rs (Int.toNat i) ((0 : Int), [])))) Tip.none],
        AObj.tok]
        (q184_6 n_1 Post)))
      (Post (AV.sl 1 (Seq.map encB (0 : UInt8) b) Tip.none) []) →
    AWP Try.prog 73 n_1 c184_5
      [(3, AV.sl 1 (Seq.map encB (0 : UInt8) b) Tip.none), (22, AV.sl 2 (Seq.map T.encR ((0 : Int), []) rs) Tip.none), (23, AV.int IntKind.i64 n),
        (24, AV.int IntKind.i64 i)]
      [] (q184_2 n_1 Post) := fun b rs n i n Post h => Go.Ab.AWP.loop' g184 (Cfg.live g184) c184_5 (by kernel_rfl) (by kernel_rfl) (Go.Ab.kc (by kernel_rfl) h)
noncomputable def q184_7 : Nat → (AV → List AObj → Prop) → AQ := fun (n : Nat) (Post : AV → List AObj → Prop) => loopQ Try.prog 73 n c184_9 (q184_6 n Post) (Cfg.live g184)
noncomputable def q184_8 : Nat → (AV → List AObj → Prop) → AQ := fun (n : Nat) (Post : AV → List AObj → Prop) => seqQ (fun (s' : Slots) (H' : List AObj) => awp Try.prog g184 n (codeSnd (codeSnd (codeSnd (codeFst c184_9)))) s' H' (q184_7 n Post)) (q184_7 n Post)
noncomputable def q184_9 : Nat → (AV → List AObj → Prop) → AQ := fun (n : Nat) (Post : AV → List AObj → Prop) => blockQ 3 (q184_8 n Post)
noncomputable def q184_10 : Nat → (AV → List AObj → Prop) → AQ := fun (n : Nat) (Post : AV → List AObj → Prop) => blockQ 4 (q184_9 n Post)
noncomputable def c184_13 : Go.Code := codeFst (codeSnd (codeSnd (codeSnd (codeFst (codeFst (codeSnd (codeSnd (codeFst c184_9))))))))
theorem v184_9 : ∀ (b : List UInt8) (rs : List T.Rel) (n i : Int) (ns : List T.Need) (n2 i2 : Int) (n_1 : Nat) (Post : AV → List AObj → Prop),
  condP (decide (i2 < n2))
      (needP ((0 : Int) ≤ i2 ∧ i2 < (↑(List.length ns) : Int))
        (ASpec Try.prog 141 [AV.sl 1 (Seq.map encB (0 : UInt8) b) Tip.none, AV.str { data := List.toArray (Prod.fst (List.getD ns (Int.toNat i2) ([], []))) }]
        [AObj.cells
        [AV.str { data := List.toArray (Prod.fst (List.getD ns (Int.toNat i2) ([], []))) },
        AV.sl 2 (Seq.map T.encS ((0 : Int), (0 : Int)) (Prod.snd (List.getD ns (Int.toNat i2) ([], [])))) Tip.none]]
        fun (r : AV) (H' : List AObj) =>
        ∃ (x : List UInt8),
        r = AV.sl 1 (Seq.map encB (0 : UInt8) x) (Tip.tok 1) ∧
        H' =
        [AObj.cells
        [AV.str { data := List.toArray (Prod.fst (List.getD ns (Int.toNat i2) ([], []))) },
        AV.sl 2 (Seq.map T.encS ((0 : Int), (0 : Int)) (Prod.snd (List.getD ns (Int.toNat i2) ([], [])))) Tip.none],
        AObj.tok] ∧
        (AV.int IntKind.i64 (↑(List.length (Prod.snd (List.getD ns (Int.toNat i2) ([], [])))) : Int) =
        AV.int IntKind.i64 (↑(List.length (Prod.snd (List.getD ns (Int.toNat i2) ([], [])))) : Int) ∧
        [AObj.cells
        [AV.str { data := List.toArray (Prod.fst (List.getD ns (Int.toNat i2) ([], []))) },
        AV.sl 2 (Seq.map T.encS ((0 : Int), (0 : Int)) (Prod.snd (List.getD ns (Int.toNat i2) ([], [])))) Tip.none],
        AObj.tok] =
        [AObj.cells
        [AV.str { data := List.toArray (Prod.fst (List.getD ns (Int.toNat i2) ([], []))) },
        AV.sl 2 (Seq.map T.encS ((0 : Int), (0 : Int)) (Prod.snd (List.getD ns (Int.toNat i2) ([], [])))) Tip.none],
        AObj.tok]) ∧
        (AV.sl 2 (Seq.map T.encS ((0 : Int), (0 : Int)) (Prod.snd (List.getD ns (Int.toNat i2) ([], [])))) Tip.none =
        AV.sl 2 (Seq.map T.encS ((0 : Int), (0 : Int)) (Prod.snd (List.getD ns (Int.toNat i2) ([], [])))) Tip.none ∧
        [AObj.cells
        [AV.str { data := List.toArray (Prod.fst (List.getD ns (Int.toNat i2) ([], []))) },
        AV.sl 2 (Seq.map T.encS ((0 : Int), (0 : Int)) (Prod.snd (List.getD ns (Int.toNat i2) ([], [])))) Tip.none],
        AObj.tok] =
        [AObj.cells
        [AV.str { data := List.toArray (Prod.fst (List.getD ns (Int.toNat i2) ([], []))) },
        AV.sl 2 (Seq.map T.encS ((0 : Int), (0 : Int)) (Prod.snd (List.getD ns (Int.toNat i2) ([], [])))) Tip.none],
        AObj.tok]) ∧
        ASpec Try.prog 140
        [AV.sl 1 (Seq.map encB (0 : UInt8) x) (Tip.tok 1),
        AV.sl 1 (Seq.raw [[AV.int IntKind.i64 (↑(List.length (Prod.snd (List.getD ns (Int.toNat i2) ([], [])))) : Int)]]) Tip.full]
        [AObj.cells
        [AV.str { data := List.toArray (Prod.fst (List.getD ns (Int.toNat i2) ([], []))) },
        AV.sl 2 (Seq.map T.encS ((0 : Int), (0 : Int)) (Prod.snd (List.getD ns (Int.toNat i2) ([], [])))) Tip.none],
        AObj.tok]
        fun (r : AV) (H' : List AObj) =>
        ∃ (x : List UInt8),
        r = AV.sl 1 (Seq.map encB (0 : UInt8) x) (Tip.tok 2) ∧
        H' =
        [AObj.cells
        [AV.str { data := List.toArray (Prod.fst (List.getD ns (Int.toNat i2) ([], []))) },
        AV.sl 2 (Seq.map T.encS ((0 : Int), (0 : Int)) (Prod.snd (List.getD ns (Int.toNat i2) ([], [])))) Tip.none],
        AObj.tok, AObj.tok] ∧
        AWP Try.prog 73 n_1 c184_13
        [(3, AV.sl 1 (Seq.map encB (0 : UInt8) x) (Tip.tok 2)), (22, AV.sl 2 (Seq.map T.encR ((0 : Int), []) rs) Tip.none),
        (23, AV.int IntKind.i64 n), (24, AV.int IntKind.i64 i), (37, AV.sl 2 (Seq.map T.encN ([], []) ns) Tip.none),
        (38, AV.int IntKind.i64 n2), (39, AV.int IntKind.i64 i2),
        (53, AV.sl 2 (Seq.map T.encS ((0 : Int), (0 : Int)) (Prod.snd (List.getD ns (Int.toNat i2) ([], [])))) Tip.none),
        (54, AV.int IntKind.i64 (↑(List.length (Prod.snd (List.getD ns (Int.toNat i2) ([], [])))) : Int)), (55, AV.int IntKind.i64 (0 : Int))]
        [AObj.cells
        [AV.str { data := List.toArray (Prod.fst (List.getD ns (Int.toNat i2) ([], []))) },
        AV.sl 2 (Seq.map T.encS ((0 : Int), (0 : Int)) (Prod.snd (List.getD ns (Int.toNat i2) ([], [])))) Tip.none],
        AObj.tok, AObj.tok]
        (q184_10 n_1 Post)))
      (AWP Try.prog 73 n_1 c184_5
        [(3, AV.sl 1 (Seq.map encB (0 : UInt8) b) Tip.none), (22, AV.sl 2 (Seq.map T.encR ((0 : Int), []) rs) Tip.none), (23, AV.int IntKind.i64 n),
        (24, AV.int IntKind.i64 (IntKind.wrap IntKind.i64 (i + (1 : Int))))]
        [] (q184_2 n_1 Post)) →
    AWP Try.prog 73 n_1 c184_9
      [(3, AV.sl 1 (Seq.map encB (0 : UInt8) b) Tip.none), (22, AV.sl 2 (Seq.map T.encR ((0 : Int), []) rs) Tip.none), (23, AV.int IntKind.i64 n),
        (24, AV.int IntKind.i64 i), (37, AV.sl 2 (Seq.map T.encN ([], []) ns) Tip.none), (38, AV.int IntKind.i64 n2), (39, AV.int IntKind.i64 i2)]
      [] (q184_6 n_1 Post) := fun b rs n i ns n2 i2 n Post h => Go.Ab.AWP.loop' g184 (Cfg.live g184) c184_9 (by kernel_rfl) (by kernel_rfl) (Go.Ab.kc (by kernel_rfl) h)
theorem v184_13 : ∀ (b : List UInt8) (rs : List T.Rel) (n i : Int) (ns : List T.Need) (n2 i2 : Int) (ss : List T.Span) (n3 i3 : Int) (n_1 : Nat) (Post : AV → List AObj → Prop),
  condP (decide (i3 < n3))
      (needP ((0 : Int) ≤ i3 ∧ i3 < (↑(List.length ss) : Int))
        (ASpec Try.prog 140
        [AV.sl 1 (Seq.map encB (0 : UInt8) b) Tip.none,
        AV.sl 1
        (Seq.raw
        [[AV.int IntKind.i64 (Prod.fst (List.getD ss (Int.toNat i3) ((0 : Int), (0 : Int))))],
        [AV.int IntKind.i64 (IntKind.wrap IntKind.i64 (Prod.snd (List.getD ss (Int.toNat i3) ((0 : Int), (0 : Int))) - Prod.fst (List.getD ss (Int.toNat i3) ((0 : Int), (0 : Int)))))]])
        Tip.full]
        [AObj.cells [AV.int IntKind.i64 (Prod.fst (List.getD ss (Int.toNat i3) ((0 : Int), (0 : Int)))), AV.int IntKind.i64 (Prod.snd (List.getD ss (Int.toNat i3) ((0 : Int), (0 : Int))))]]
        fun (r : AV) (H' : List AObj) =>
        ∃ (x : List UInt8),
        r = AV.sl 1 (Seq.map encB (0 : UInt8) x) (Tip.tok 1) ∧
        H' =
        [AObj.cells [AV.int IntKind.i64 (Prod.fst (List.getD ss (Int.toNat i3) ((0 : Int), (0 : Int)))), AV.int IntKind.i64 (Prod.snd (List.getD ss (Int.toNat i3) ((0 : Int), (0 : Int))))],
        AObj.tok] ∧
        AWP Try.prog 73 n_1 c184_13
        [(3, AV.sl 1 (Seq.map encB (0 : UInt8) x) (Tip.tok 1)), (22, AV.sl 2 (Seq.map T.encR ((0 : Int), []) rs) Tip.none),
        (23, AV.int IntKind.i64 n), (24, AV.int IntKind.i64 i), (37, AV.sl 2 (Seq.map T.encN ([], []) ns) Tip.none), (38, AV.int IntKind.i64 n2),
        (39, AV.int IntKind.i64 i2), (53, AV.sl 2 (Seq.map T.encS ((0 : Int), (0 : Int)) ss) Tip.none), (54, AV.int IntKind.i64 n3),
        (55, AV.int IntKind.i64 (IntKind.wrap IntKind.i64 (i3 + (1 : Int))))]
        [AObj.cells [AV.int IntKind.i64 (Prod.fst (List.getD ss (Int.toNat i3) ((0 : Int), (0 : Int)))), AV.int IntKind.i64 (Prod.snd (List.getD ss (Int.toNat i3) ((0 : Int), (0 : Int))))],
        AObj.tok]
        (q184_10 n_1 Post)))
      (AWP Try.prog 73 n_1 c184_9
        [(3, AV.sl 1 (Seq.map encB (0 : UInt8) b) Tip.none), (22, AV.sl 2 (Seq.map T.encR ((0 : Int), []) rs) Tip.none), (23, AV.int IntKind.i64 n),
        (24, AV.int IntKind.i64 i), (37, AV.sl 2 (Seq.map T.encN ([], []) ns) Tip.none), (38, AV.int IntKind.i64 n2),
        (39, AV.int IntKind.i64 (IntKind.wrap IntKind.i64 (i2 + (1 : Int))))]
        [] (q184_6 n_1 Post)) →
    AWP Try.prog 73 n_1 c184_13
      [(3, AV.sl 1 (Seq.map encB (0 : UInt8) b) Tip.none), (22, AV.sl 2 (Seq.map T.encR ((0 : Int), []) rs) Tip.none), (23, AV.int IntKind.i64 n),
        (24, AV.int IntKind.i64 i), (37, AV.sl 2 (Seq.map T.encN ([], []) ns) Tip.none), (38, AV.int IntKind.i64 n2), (39, AV.int IntKind.i64 i2),
        (53, AV.sl 2 (Seq.map T.encS ((0 : Int), (0 : Int)) ss) Tip.none), (54, AV.int IntKind.i64 n3), (55, AV.int IntKind.i64 i3)]
      [] (q184_10 n_1 Post) := fun b rs n i ns n2 i2 ss n3 i3 n Post h => Go.Ab.AWP.loop' g184 (Cfg.live g184) c184_13 (by kernel_rfl) (by kernel_rfl) (Go.Ab.kc (by kernel_rfl) h)

-- 264
noncomputable def l264 : Nat → List Nat
  | 3 => [0, 3, 4]
  | 7 => [0, 3, 4, 5]
  | _ => []
noncomputable def u264 : Nat → Bool
  | _ => false
noncomputable def m264 : Nat → Bool
  | _ => false
noncomputable def g264 : Cfg := { N := 63, live := l264, cut := u264, mu := m264, ret := rets }
noncomputable def c264 : Go.Code := Go.Ab.bodyOf Go.Proofs.Try.f264
noncomputable def q264_0 : Nat → (AV → List AObj → Prop) → AQ := fun (n : Nat) (Post : AV → List AObj → Prop) => endQ Try.prog (resultsOf Try.f264) Post
noncomputable def q264_1 : Nat → (AV → List AObj → Prop) → AQ := fun (n : Nat) (Post : AV → List AObj → Prop) => seqQ (fun (s' : Slots) (H' : List AObj) => awp Try.prog g264 n (codeSnd (codeSnd (codeSnd c264))) s' H' (q264_0 n Post)) (q264_0 n Post)
noncomputable def q264_2 : Nat → (AV → List AObj → Prop) → AQ := fun (n : Nat) (Post : AV → List AObj → Prop) => blockQ 0 (q264_1 n Post)
noncomputable def c264_3 : Go.Code := codeFst (codeSnd (codeFst (codeSnd (codeSnd c264))))
theorem s264 : ∀ (l : List T.Need) (Post : AV → List AObj → Prop),
  (ASpec Try.prog 150 [AV.int IntKind.i64 (↑(List.length l) : Int)] [] fun (r : AV) (H' : List AObj) =>
      ∃ (x : ByteArray),
        r = AV.str x ∧
        H' = [] ∧
        AWP Try.prog 63 0 c264_3 [(0, AV.sl 2 (Seq.map T.encN ([], []) l) Tip.none), (3, AV.str x), (4, AV.int IntKind.i64 (0 : Int))] []
        (q264_2 0 Post)) →
    ASpec Try.prog 264 [AV.sl 2 (Seq.map T.encN ([], []) l) Tip.none] [] Post := fun l Post h => Go.Ab.ASpec.of_vc g264 Go.Proofs.Try.func264 (by kernel_rfl) (by kernel_rfl) (by kernel_rfl) (Go.Ab.kc (by kernel_rfl) h)
noncomputable def q264_3 : Nat → (AV → List AObj → Prop) → AQ := fun (n : Nat) (Post : AV → List AObj → Prop) => loopQ Try.prog 63 n c264_3 (q264_2 n Post) (Cfg.live g264)
noncomputable def q264_4 : Nat → (AV → List AObj → Prop) → AQ := fun (n : Nat) (Post : AV → List AObj → Prop) => seqQ (fun (s' : Slots) (H' : List AObj) => awp Try.prog g264 n (codeSnd (codeSnd (codeFst c264_3))) s' H' (q264_3 n Post)) (q264_3 n Post)
noncomputable def q264_5 : Nat → (AV → List AObj → Prop) → AQ := fun (n : Nat) (Post : AV → List AObj → Prop) => blockQ 1 (q264_4 n Post)
noncomputable def q264_6 : Nat → (AV → List AObj → Prop) → AQ := fun (n : Nat) (Post : AV → List AObj → Prop) => blockQ 2 (q264_5 n Post)
noncomputable def c264_7 : Go.Code := codeFst (codeSnd (codeSnd (codeFst (codeFst (codeSnd (codeFst c264_3))))))
theorem v264_3 : ∀ (l : List T.Need) (s : ByteArray) (i : Int) (n : Nat) (Post : AV → List AObj → Prop),
  condP (decide (i < (↑(List.length l) : Int)))
      (needP ((0 : Int) ≤ i ∧ i < (↑(List.length l) : Int))
        (needP ((0 : Int) ≤ i ∧ i < (↑(List.length l) : Int))
        (ASpec Try.prog 151 [AV.str { data := List.toArray (Prod.fst (List.getD l (Int.toNat i) ([], []))) }] [] fun (r : AV) (H' : List AObj) =>
        ∃ (x : ByteArray),
        r = AV.str x ∧
        H' = [] ∧
        (AV.int IntKind.i64 (↑(List.length (Prod.snd (List.getD l (Int.toNat i) ([], [])))) : Int) =
        AV.int IntKind.i64 (↑(List.length (Prod.snd (List.getD l (Int.toNat i) ([], [])))) : Int) ∧
        ([] : List AObj) = []) ∧
        (AV.sl 2 (Seq.map T.encS ((0 : Int), (0 : Int)) (Prod.snd (List.getD l (Int.toNat i) ([], [])))) Tip.none =
        AV.sl 2 (Seq.map T.encS ((0 : Int), (0 : Int)) (Prod.snd (List.getD l (Int.toNat i) ([], [])))) Tip.none ∧
        ([] : List AObj) = []) ∧
        needP ((↑(ByteArray.size s + ByteArray.size x) : Int) ≤ (9223372036854775807 : Int))
        (ASpec Try.prog 150 [AV.int IntKind.i64 (↑(List.length (Prod.snd (List.getD l (Int.toNat i) ([], [])))) : Int)] [] fun (r : AV) (H' : List AObj) =>
        ∃ (x_1 : ByteArray),
        r = AV.str x_1 ∧
        H' = [] ∧
        needP ((↑(ByteArray.size (s ++ x) + ByteArray.size x_1) : Int) ≤ (9223372036854775807 : Int))
        (AWP Try.prog 63 n c264_7
        [(0, AV.sl 2 (Seq.map T.encN ([], []) l) Tip.none), (3, AV.str (s ++ x ++ x_1)), (4, AV.int IntKind.i64 i),
        (5, AV.int IntKind.i64 (0 : Int))]
        [] (q264_6 n Post))))))
      (Post (AV.str s) []) →
    AWP Try.prog 63 n c264_3 [(0, AV.sl 2 (Seq.map T.encN ([], []) l) Tip.none), (3, AV.str s), (4, AV.int IntKind.i64 i)] [] (q264_2 n Post) := fun l s i n Post h => Go.Ab.AWP.loop' g264 (Cfg.live g264) c264_3 (by kernel_rfl) (by kernel_rfl) (Go.Ab.kc (by kernel_rfl) h)
theorem v264_7 : ∀ (l : List T.Need) (s : ByteArray) (i k : Int) (n : Nat) (Post : AV → List AObj → Prop),
  needP ((0 : Int) ≤ i ∧ i < (↑(List.length l) : Int))
      (condP (decide (k < (↑(List.length (Prod.snd (List.getD l (Int.toNat i) ([], [])))) : Int)))
        (needP ((0 : Int) ≤ i ∧ i < (↑(List.length l) : Int))
        (needP ((0 : Int) ≤ k ∧ k < (↑(List.length (Prod.snd (List.getD l (Int.toNat i) ([], [])))) : Int))
        (ASpec Try.prog 150 [AV.int IntKind.i64 (Prod.fst (List.getD (Prod.snd (List.getD l (Int.toNat i) ([], []))) (Int.toNat k) ((0 : Int), (0 : Int))))]
        [AObj.cells
        [AV.int IntKind.i64 (Prod.fst (List.getD (Prod.snd (List.getD l (Int.toNat i) ([], []))) (Int.toNat k) ((0 : Int), (0 : Int)))),
        AV.int IntKind.i64 (Prod.snd (List.getD (Prod.snd (List.getD l (Int.toNat i) ([], []))) (Int.toNat k) ((0 : Int), (0 : Int))))]]
        fun (r : AV) (H' : List AObj) =>
        ∃ (x : ByteArray),
        r = AV.str x ∧
        H' =
        [AObj.cells
        [AV.int IntKind.i64 (Prod.fst (List.getD (Prod.snd (List.getD l (Int.toNat i) ([], []))) (Int.toNat k) ((0 : Int), (0 : Int)))),
        AV.int IntKind.i64 (Prod.snd (List.getD (Prod.snd (List.getD l (Int.toNat i) ([], []))) (Int.toNat k) ((0 : Int), (0 : Int))))]] ∧
        (AV.int IntKind.i64 (Prod.fst (List.getD (Prod.snd (List.getD l (Int.toNat i) ([], []))) (Int.toNat k) ((0 : Int), (0 : Int)))) =
        AV.int IntKind.i64 (Prod.fst (List.getD (Prod.snd (List.getD l (Int.toNat i) ([], []))) (Int.toNat k) ((0 : Int), (0 : Int)))) ∧
        [AObj.cells
        [AV.int IntKind.i64 (Prod.fst (List.getD (Prod.snd (List.getD l (Int.toNat i) ([], []))) (Int.toNat k) ((0 : Int), (0 : Int)))),
        AV.int IntKind.i64 (Prod.snd (List.getD (Prod.snd (List.getD l (Int.toNat i) ([], []))) (Int.toNat k) ((0 : Int), (0 : Int))))]] =
        [AObj.cells
        [AV.int IntKind.i64 (Prod.fst (List.getD (Prod.snd (List.getD l (Int.toNat i) ([], []))) (Int.toNat k) ((0 : Int), (0 : Int)))),
        AV.int IntKind.i64 (Prod.snd (List.getD (Prod.snd (List.getD l (Int.toNat i) ([], []))) (Int.toNat k) ((0 : Int), (0 : Int))))]]) ∧
        (AV.int IntKind.i64 (Prod.snd (List.getD (Prod.snd (List.getD l (Int.toNat i) ([], []))) (Int.toNat k) ((0 : Int), (0 : Int)))) =
        AV.int IntKind.i64 (Prod.snd (List.getD (Prod.snd (List.getD l (Int.toNat i) ([], []))) (Int.toNat k) ((0 : Int), (0 : Int)))) ∧
        [AObj.cells
        [AV.int IntKind.i64 (Prod.fst (List.getD (Prod.snd (List.getD l (Int.toNat i) ([], []))) (Int.toNat k) ((0 : Int), (0 : Int)))),
        AV.int IntKind.i64 (Prod.snd (List.getD (Prod.snd (List.getD l (Int.toNat i) ([], []))) (Int.toNat k) ((0 : Int), (0 : Int))))]] =
        [AObj.cells
        [AV.int IntKind.i64 (Prod.fst (List.getD (Prod.snd (List.getD l (Int.toNat i) ([], []))) (Int.toNat k) ((0 : Int), (0 : Int)))),
        AV.int IntKind.i64 (Prod.snd (List.getD (Prod.snd (List.getD l (Int.toNat i) ([], []))) (Int.toNat k) ((0 : Int), (0 : Int))))]]) ∧
        needP ((↑(ByteArray.size s + ByteArray.size x) : Int) ≤ (9223372036854775807 : Int))
        (ASpec Try.prog 150
        [AV.int IntKind.i64
        (IntKind.wrap IntKind.i64
        (Prod.snd (List.getD (Prod.snd (List.getD l (Int.toNat i) ([], []))) (Int.toNat k) ((0 : Int), (0 : Int))) -
        Prod.fst (List.getD (Prod.snd (List.getD l (Int.toNat i) ([], []))) (Int.toNat k) ((0 : Int), (0 : Int)))))]
        [AObj.cells
        [AV.int IntKind.i64 (Prod.fst (List.getD (Prod.snd (List.getD l (Int.toNat i) ([], []))) (Int.toNat k) ((0 : Int), (0 : Int)))),
        AV.int IntKind.i64 (Prod.snd (List.getD (Prod.snd (List.getD l (Int.toNat i) ([], []))) (Int.toNat k) ((0 : Int), (0 : Int))))]]
        fun (r : AV) (H' : List AObj) =>
        ∃ (x_1 : ByteArray),
        r = AV.str x_1 ∧
        H' =
        [AObj.cells
        [AV.int IntKind.i64 (Prod.fst (List.getD (Prod.snd (List.getD l (Int.toNat i) ([], []))) (Int.toNat k) ((0 : Int), (0 : Int)))),
        AV.int IntKind.i64 (Prod.snd (List.getD (Prod.snd (List.getD l (Int.toNat i) ([], []))) (Int.toNat k) ((0 : Int), (0 : Int))))]] ∧
        needP ((↑(ByteArray.size (s ++ x) + ByteArray.size x_1) : Int) ≤ (9223372036854775807 : Int))
        (AWP Try.prog 63 n c264_7
        [(0, AV.sl 2 (Seq.map T.encN ([], []) l) Tip.none), (3, AV.str (s ++ x ++ x_1)), (4, AV.int IntKind.i64 i),
        (5, AV.int IntKind.i64 (IntKind.wrap IntKind.i64 (k + (1 : Int))))]
        [AObj.cells
        [AV.int IntKind.i64 (Prod.fst (List.getD (Prod.snd (List.getD l (Int.toNat i) ([], []))) (Int.toNat k) ((0 : Int), (0 : Int)))),
        AV.int IntKind.i64 (Prod.snd (List.getD (Prod.snd (List.getD l (Int.toNat i) ([], []))) (Int.toNat k) ((0 : Int), (0 : Int))))]]
        (q264_6 n Post))))))
        (AWP Try.prog 63 n c264_3
        [(0, AV.sl 2 (Seq.map T.encN ([], []) l) Tip.none), (3, AV.str s), (4, AV.int IntKind.i64 (IntKind.wrap IntKind.i64 (i + (1 : Int))))] [] (q264_2 n Post))) →
    AWP Try.prog 63 n c264_7 [(0, AV.sl 2 (Seq.map T.encN ([], []) l) Tip.none), (3, AV.str s), (4, AV.int IntKind.i64 i), (5, AV.int IntKind.i64 k)] []
      (q264_6 n Post) := fun l s i k n Post h => Go.Ab.AWP.loop' g264 (Cfg.live g264) c264_7 (by kernel_rfl) (by kernel_rfl) (Go.Ab.kc (by kernel_rfl) h)

-- 172
noncomputable def l172 : Nat → List Nat
  | 5 => [1, 3, 4]
  | _ => []
noncomputable def u172 : Nat → Bool
  | _ => false
noncomputable def m172 : Nat → Bool
  | _ => false
noncomputable def g172 : Cfg := { N := 41, live := l172, cut := u172, mu := m172, ret := rets }
noncomputable def c172 : Go.Code := Go.Ab.bodyOf Go.Proofs.Try.f172
noncomputable def q172_0 : Nat → (AV → List AObj → Prop) → AQ := fun (n : Nat) (Post : AV → List AObj → Prop) => endQ Try.prog (resultsOf Try.f172) Post
noncomputable def q172_1 : Nat → (AV → List AObj → Prop) → AQ := fun (n : Nat) (Post : AV → List AObj → Prop) => seqQ (fun (s' : Slots) (H' : List AObj) => awp Try.prog g172 n (codeSnd (codeSnd (codeSnd (codeSnd c172)))) s' H' (q172_0 n Post)) (q172_0 n Post)
noncomputable def q172_2 : Nat → (AV → List AObj → Prop) → AQ := fun (n : Nat) (Post : AV → List AObj → Prop) => blockQ 0 (q172_1 n Post)
noncomputable def c172_5 : Go.Code := codeFst (codeSnd (codeFst (codeSnd (codeSnd (codeSnd c172)))))
theorem s172 : ∀ (m : T.Mani) (Post : AV → List AObj → Prop),
  (ASpec Try.prog 186 [AV.agg [AV.str { data := List.toArray (Prod.fst m) }, AV.sl 2 (Seq.map T.encR ((0 : Int), []) (Prod.snd m)) Tip.none]]
      [AObj.cells [AV.str { data := List.toArray (Prod.fst m) }, AV.sl 2 (Seq.map T.encR ((0 : Int), []) (Prod.snd m)) Tip.none]] fun (r : AV) (H' : List AObj) =>
      ∃ (x : Bool),
        r = AV.bool x ∧
        H' = [AObj.cells [AV.str { data := List.toArray (Prod.fst m) }, AV.sl 2 (Seq.map T.encR ((0 : Int), []) (Prod.snd m)) Tip.none]] ∧
        condP (!x) (Post (AV.str { data := #[] }) [AObj.cells [AV.str { data := List.toArray (Prod.fst m) }, AV.sl 2 (Seq.map T.encR ((0 : Int), []) (Prod.snd m)) Tip.none]])
        (ASpec Try.prog 151 [AV.str { data := List.toArray (Prod.fst m) }]
        [AObj.cells [AV.str { data := List.toArray (Prod.fst m) }, AV.sl 2 (Seq.map T.encR ((0 : Int), []) (Prod.snd m)) Tip.none]] fun (r : AV) (H' : List AObj) =>
        ∃ (x : ByteArray),
        r = AV.str x ∧
        H' = [AObj.cells [AV.str { data := List.toArray (Prod.fst m) }, AV.sl 2 (Seq.map T.encR ((0 : Int), []) (Prod.snd m)) Tip.none]] ∧
        (AV.int IntKind.i64 (↑(List.length (Prod.snd m)) : Int) = AV.int IntKind.i64 (↑(List.length (Prod.snd m)) : Int) ∧
        [AObj.cells [AV.str { data := List.toArray (Prod.fst m) }, AV.sl 2 (Seq.map T.encR ((0 : Int), []) (Prod.snd m)) Tip.none]] =
        [AObj.cells [AV.str { data := List.toArray (Prod.fst m) }, AV.sl 2 (Seq.map T.encR ((0 : Int), []) (Prod.snd m)) Tip.none]]) ∧
        (AV.sl 2 (Seq.map T.encR ((0 : Int), []) (Prod.snd m)) Tip.none = AV.sl 2 (Seq.map T.encR ((0 : Int), []) (Prod.snd m)) Tip.none ∧
        [AObj.cells [AV.str { data := List.toArray (Prod.fst m) }, AV.sl 2 (Seq.map T.encR ((0 : Int), []) (Prod.snd m)) Tip.none]] =
        [AObj.cells [AV.str { data := List.toArray (Prod.fst m) }, AV.sl 2 (Seq.map T.encR ((0 : Int), []) (Prod.snd m)) Tip.none]]) ∧
        ASpec Try.prog 150 [AV.int IntKind.i64 (↑(List.length (Prod.snd m)) : Int)]
        [AObj.cells [AV.str { data := List.toArray (Prod.fst m) }, AV.sl 2 (Seq.map T.encR ((0 : Int), []) (Prod.snd m)) Tip.none]] fun (r : AV) (H' : List AObj) =>
        ∃ (x_1 : ByteArray),
        r = AV.str x_1 ∧
        H' = [AObj.cells [AV.str { data := List.toArray (Prod.fst m) }, AV.sl 2 (Seq.map T.encR ((0 : Int), []) (Prod.snd m)) Tip.none]] ∧
        needP ((↑(ByteArray.size x + ByteArray.size x_1) : Int) ≤ (9223372036854775807 : Int))
        (AWP Try.prog 41 0 c172_5 [(1, AV.ptr 0 0), (3, AV.str (x ++ x_1)), (4, AV.int IntKind.i64 (0 : Int))]
        [AObj.cells [AV.str { data := List.toArray (Prod.fst m) }, AV.sl 2 (Seq.map T.encR ((0 : Int), []) (Prod.snd m)) Tip.none]] (q172_2 0 Post)))) →
    ASpec Try.prog 172 [AV.agg (T.encM m)] [] Post := fun m Post h => Go.Ab.ASpec.of_vc g172 Go.Proofs.Try.func172 (by kernel_rfl) (by kernel_rfl) (by kernel_rfl) (Go.Ab.kc (by kernel_rfl) h)
theorem v172_5 : ∀ (m : T.Mani) (s : ByteArray) (i : Int) (n : Nat) (Post : AV → List AObj → Prop),
  condP (decide (i < (↑(List.length (Prod.snd m)) : Int)))
      (needP ((0 : Int) ≤ i ∧ i < (↑(List.length (Prod.snd m)) : Int))
        (needP ((0 : Int) ≤ i ∧ i < (↑(List.length (Prod.snd m)) : Int))
        (ASpec Try.prog 150 [AV.int IntKind.i64 (Prod.fst (List.getD (Prod.snd m) (Int.toNat i) ((0 : Int), [])))]
        [AObj.cells [AV.str { data := List.toArray (Prod.fst m) }, AV.sl 2 (Seq.map T.encR ((0 : Int), []) (Prod.snd m)) Tip.none]] fun (r : AV) (H' : List AObj) =>
        ∃ (x : ByteArray),
        r = AV.str x ∧
        H' = [AObj.cells [AV.str { data := List.toArray (Prod.fst m) }, AV.sl 2 (Seq.map T.encR ((0 : Int), []) (Prod.snd m)) Tip.none]] ∧
        (AV.sl 2 (Seq.map T.encN ([], []) (Prod.snd (List.getD (Prod.snd m) (Int.toNat i) ((0 : Int), [])))) Tip.none =
        AV.sl 2 (Seq.map T.encN ([], []) (Prod.snd (List.getD (Prod.snd m) (Int.toNat i) ((0 : Int), [])))) Tip.none ∧
        [AObj.cells [AV.str { data := List.toArray (Prod.fst m) }, AV.sl 2 (Seq.map T.encR ((0 : Int), []) (Prod.snd m)) Tip.none]] =
        [AObj.cells [AV.str { data := List.toArray (Prod.fst m) }, AV.sl 2 (Seq.map T.encR ((0 : Int), []) (Prod.snd m)) Tip.none]]) ∧
        (AV.sl 2 (Seq.map T.encR ((0 : Int), []) (Prod.snd m)) Tip.none = AV.sl 2 (Seq.map T.encR ((0 : Int), []) (Prod.snd m)) Tip.none ∧
        [AObj.cells [AV.str { data := List.toArray (Prod.fst m) }, AV.sl 2 (Seq.map T.encR ((0 : Int), []) (Prod.snd m)) Tip.none]] =
        [AObj.cells [AV.str { data := List.toArray (Prod.fst m) }, AV.sl 2 (Seq.map T.encR ((0 : Int), []) (Prod.snd m)) Tip.none]]) ∧
        needP ((↑(ByteArray.size s + ByteArray.size x) : Int) ≤ (9223372036854775807 : Int))
        (ASpec Try.prog 264 [AV.sl 2 (Seq.map T.encN ([], []) (Prod.snd (List.getD (Prod.snd m) (Int.toNat i) ((0 : Int), [])))) Tip.none]
        [AObj.cells [AV.str { data := List.toArray (Prod.fst m) }, AV.sl 2 (Seq.map T.encR ((0 : Int), []) (Prod.snd m)) Tip.none]] fun (r : AV) (H' : List AObj) =>
        ∃ (x_1 : ByteArray),
        r = AV.str x_1 ∧
        H' = [AObj.cells [AV.str { data := List.toArray (Prod.fst m) }, AV.sl 2 (Seq.map T.encR ((0 : Int), []) (Prod.snd m)) Tip.none]] ∧
        needP ((↑(ByteArray.size (s ++ x) + ByteArray.size x_1) : Int) ≤ (9223372036854775807 : Int))
        (AWP Try.prog 41 n c172_5
        [(1, AV.ptr 0 0), (3, AV.str (s ++ x ++ x_1)), (4, AV.int IntKind.i64 (IntKind.wrap IntKind.i64 (i + (1 : Int))))]
        [AObj.cells [AV.str { data := List.toArray (Prod.fst m) }, AV.sl 2 (Seq.map T.encR ((0 : Int), []) (Prod.snd m)) Tip.none]] (q172_2 n Post))))))
      (Post (AV.str s) [AObj.cells [AV.str { data := List.toArray (Prod.fst m) }, AV.sl 2 (Seq.map T.encR ((0 : Int), []) (Prod.snd m)) Tip.none]]) →
    AWP Try.prog 41 n c172_5 [(1, AV.ptr 0 0), (3, AV.str s), (4, AV.int IntKind.i64 i)] [AObj.cells (T.encM m)] (q172_2 n Post) := fun m s i n Post h => Go.Ab.AWP.loop' g172 (Cfg.live g172) c172_5 (by kernel_rfl) (by kernel_rfl) (Go.Ab.kc (by kernel_rfl) h)

-- 270
noncomputable def l270 : Nat → List Nat
  | _ => []
noncomputable def u270 : Nat → Bool
  | _ => false
noncomputable def m270 : Nat → Bool
  | _ => false
noncomputable def g270 : Cfg := { N := 4, live := l270, cut := u270, mu := m270, ret := rets }
noncomputable def c270 : Go.Code := Go.Ab.bodyOf Go.Proofs.Try.f270
theorem s270 : ∀ (bs : List UInt8) (p e : Int) (Post : AV → List AObj → Prop),
  (ASpec Try.prog 145 [AV.ptr 0 0, AV.int IntKind.i64 (24 : Int)]
      [AObj.cells [AV.sl 1 (Seq.map encB (0 : UInt8) bs) Tip.none, AV.int IntKind.i64 p, AV.int IntKind.i64 e], AObj.cells [AV.ptr 0 0],
        AObj.cells [AV.fn (270 : FuncId) [AV.ptr 1 0]], AObj.cells [AV.fn (271 : FuncId) [AV.ptr 1 0]],
        AObj.cells [AV.fn (272 : FuncId) [AV.ptr 2 0, AV.ptr 1 0, AV.ptr 3 0]]]
      fun (r : AV) (H' : List AObj) =>
      ∃ (x : ByteArray × Int × Int),
        r = AV.str (Prod.fst x) ∧
        H' =
        [AObj.cells [AV.sl 1 (Seq.map encB (0 : UInt8) bs) Tip.none, AV.int IntKind.i64 (Prod.fst (Prod.snd x)), AV.int IntKind.i64 (Prod.snd (Prod.snd x))],
        AObj.cells [AV.ptr 0 0], AObj.cells [AV.fn (270 : FuncId) [AV.ptr 1 0]], AObj.cells [AV.fn (271 : FuncId) [AV.ptr 1 0]],
        AObj.cells [AV.fn (272 : FuncId) [AV.ptr 2 0, AV.ptr 1 0, AV.ptr 3 0]]] ∧
        Post (AV.str (Prod.fst x))
        [AObj.cells [AV.sl 1 (Seq.map encB (0 : UInt8) bs) Tip.none, AV.int IntKind.i64 (Prod.fst (Prod.snd x)), AV.int IntKind.i64 (Prod.snd (Prod.snd x))],
        AObj.cells [AV.ptr 0 0], AObj.cells [AV.fn (270 : FuncId) [AV.ptr 1 0]], AObj.cells [AV.fn (271 : FuncId) [AV.ptr 1 0]],
        AObj.cells [AV.fn (272 : FuncId) [AV.ptr 2 0, AV.ptr 1 0, AV.ptr 3 0]]]) →
    ASpec Try.prog 270 [AV.ptr 1 0] (HR bs p e) Post := fun bs p e Post h => Go.Ab.ASpec.of_vc g270 Go.Proofs.Try.func270 (by kernel_rfl) (by kernel_rfl) (by kernel_rfl) (Go.Ab.kc (by kernel_rfl) h)

-- 271
noncomputable def l271 : Nat → List Nat
  | _ => []
noncomputable def u271 : Nat → Bool
  | _ => false
noncomputable def m271 : Nat → Bool
  | _ => false
noncomputable def g271 : Cfg := { N := 11, live := l271, cut := u271, mu := m271, ret := rets }
noncomputable def c271 : Go.Code := Go.Ab.bodyOf Go.Proofs.Try.f271
theorem s271 : ∀ (bs : List UInt8) (p e : Int) (Post : AV → List AObj → Prop),
  (ASpec Try.prog 143 [AV.ptr 0 0, AV.int IntKind.i64 (1000000000 : Int)]
      [AObj.cells [AV.sl 1 (Seq.map encB (0 : UInt8) bs) Tip.none, AV.int IntKind.i64 p, AV.int IntKind.i64 e], AObj.cells [AV.ptr 0 0],
        AObj.cells [AV.fn (270 : FuncId) [AV.ptr 1 0]], AObj.cells [AV.fn (271 : FuncId) [AV.ptr 1 0]],
        AObj.cells [AV.fn (272 : FuncId) [AV.ptr 2 0, AV.ptr 1 0, AV.ptr 3 0]], AObj.cells [AV.int IntKind.i64 (0 : Int), AV.int IntKind.i64 (0 : Int)]]
      fun (r : AV) (H' : List AObj) =>
      ∃ (x : Int × Int × Int),
        r = AV.int IntKind.i64 (Prod.fst x) ∧
        H' =
        [AObj.cells [AV.sl 1 (Seq.map encB (0 : UInt8) bs) Tip.none, AV.int IntKind.i64 (Prod.fst (Prod.snd x)), AV.int IntKind.i64 (Prod.snd (Prod.snd x))],
        AObj.cells [AV.ptr 0 0], AObj.cells [AV.fn (270 : FuncId) [AV.ptr 1 0]], AObj.cells [AV.fn (271 : FuncId) [AV.ptr 1 0]],
        AObj.cells [AV.fn (272 : FuncId) [AV.ptr 2 0, AV.ptr 1 0, AV.ptr 3 0]],
        AObj.cells [AV.int IntKind.i64 (0 : Int), AV.int IntKind.i64 (0 : Int)]] ∧
        ASpec Try.prog 143 [AV.ptr 0 0, AV.int IntKind.i64 (1000000000 : Int)]
        [AObj.cells [AV.sl 1 (Seq.map encB (0 : UInt8) bs) Tip.none, AV.int IntKind.i64 (Prod.fst (Prod.snd x)), AV.int IntKind.i64 (Prod.snd (Prod.snd x))],
        AObj.cells [AV.ptr 0 0], AObj.cells [AV.fn (270 : FuncId) [AV.ptr 1 0]], AObj.cells [AV.fn (271 : FuncId) [AV.ptr 1 0]],
        AObj.cells [AV.fn (272 : FuncId) [AV.ptr 2 0, AV.ptr 1 0, AV.ptr 3 0]],
        AObj.cells [AV.int IntKind.i64 (0 : Int), AV.int IntKind.i64 (0 : Int)]]
        fun (r : AV) (H' : List AObj) =>
        ∃ (x_1 : Int × Int × Int),
        r = AV.int IntKind.i64 (Prod.fst x_1) ∧
        H' =
        [AObj.cells [AV.sl 1 (Seq.map encB (0 : UInt8) bs) Tip.none, AV.int IntKind.i64 (Prod.fst (Prod.snd x_1)), AV.int IntKind.i64 (Prod.snd (Prod.snd x_1))],
        AObj.cells [AV.ptr 0 0], AObj.cells [AV.fn (270 : FuncId) [AV.ptr 1 0]], AObj.cells [AV.fn (271 : FuncId) [AV.ptr 1 0]],
        AObj.cells [AV.fn (272 : FuncId) [AV.ptr 2 0, AV.ptr 1 0, AV.ptr 3 0]],
        AObj.cells [AV.int IntKind.i64 (0 : Int), AV.int IntKind.i64 (0 : Int)]] ∧
        Post (AV.agg [AV.int IntKind.i64 (Prod.fst x), AV.int IntKind.i64 (IntKind.wrap IntKind.i64 (Prod.fst x + Prod.fst x_1))])
        [AObj.cells [AV.sl 1 (Seq.map encB (0 : UInt8) bs) Tip.none, AV.int IntKind.i64 (Prod.fst (Prod.snd x_1)), AV.int IntKind.i64 (Prod.snd (Prod.snd x_1))],
        AObj.cells [AV.ptr 0 0], AObj.cells [AV.fn (270 : FuncId) [AV.ptr 1 0]], AObj.cells [AV.fn (271 : FuncId) [AV.ptr 1 0]],
        AObj.cells [AV.fn (272 : FuncId) [AV.ptr 2 0, AV.ptr 1 0, AV.ptr 3 0]],
        AObj.cells [AV.int IntKind.i64 (Prod.fst x), AV.int IntKind.i64 (IntKind.wrap IntKind.i64 (Prod.fst x + Prod.fst x_1))]]) →
    ASpec Try.prog 271 [AV.ptr 1 0] (HR bs p e) Post := fun bs p e Post h => Go.Ab.ASpec.of_vc g271 Go.Proofs.Try.func271 (by kernel_rfl) (by kernel_rfl) (by kernel_rfl) (Go.Ab.kc (by kernel_rfl) h)

-- 273
noncomputable def l273 : Nat → List Nat
  | 3 => [0, 2, 7, 8]
  | _ => []
noncomputable def u273 : Nat → Bool
  | _ => false
noncomputable def m273 : Nat → Bool
  | _ => false
noncomputable def g273 : Cfg := { N := 27, live := l273, cut := u273, mu := m273, ret := rets }
noncomputable def c273 : Go.Code := Go.Ab.bodyOf Go.Proofs.Try.f273
noncomputable def q273_0 : Nat → (AV → List AObj → Prop) → AQ := fun (n : Nat) (Post : AV → List AObj → Prop) => endQ Try.prog (resultsOf Try.f273) Post
noncomputable def q273_1 : Nat → (AV → List AObj → Prop) → AQ := fun (n : Nat) (Post : AV → List AObj → Prop) => seqQ (fun (s' : Slots) (H' : List AObj) => awp Try.prog g273 n (codeSnd (codeSnd (codeSnd c273))) s' H' (q273_0 n Post)) (q273_0 n Post)
noncomputable def q273_2 : Nat → (AV → List AObj → Prop) → AQ := fun (n : Nat) (Post : AV → List AObj → Prop) => blockQ 0 (q273_1 n Post)
noncomputable def c273_3 : Go.Code := codeFst (codeSnd (codeFst (codeSnd (codeSnd c273))))
theorem s273 : ∀ (bs : List UInt8) (p e most : Int) (Post : AV → List AObj → Prop),
  (ASpec Try.prog 143 [AV.ptr 0 0, AV.int IntKind.i64 most]
      [AObj.cells [AV.sl 1 (Seq.map encB (0 : UInt8) bs) Tip.none, AV.int IntKind.i64 p, AV.int IntKind.i64 e], AObj.cells [AV.ptr 0 0],
        AObj.cells [AV.fn (270 : FuncId) [AV.ptr 1 0]], AObj.cells [AV.fn (271 : FuncId) [AV.ptr 1 0]],
        AObj.cells [AV.fn (272 : FuncId) [AV.ptr 2 0, AV.ptr 1 0, AV.ptr 3 0]]]
      fun (r : AV) (H' : List AObj) =>
      ∃ (x : Int × Int × Int),
        r = AV.int IntKind.i64 (Prod.fst x) ∧
        H' =
        [AObj.cells [AV.sl 1 (Seq.map encB (0 : UInt8) bs) Tip.none, AV.int IntKind.i64 (Prod.fst (Prod.snd x)), AV.int IntKind.i64 (Prod.snd (Prod.snd x))],
        AObj.cells [AV.ptr 0 0], AObj.cells [AV.fn (270 : FuncId) [AV.ptr 1 0]], AObj.cells [AV.fn (271 : FuncId) [AV.ptr 1 0]],
        AObj.cells [AV.fn (272 : FuncId) [AV.ptr 2 0, AV.ptr 1 0, AV.ptr 3 0]]] ∧
        AWP Try.prog 27 5 c273_3
        [(0, AV.ptr 0 0), (2, AV.fn (271 : FuncId) [AV.ptr 1 0]), (7, AV.sl 0 (Seq.raw []) Tip.nil),
        (8, AV.int IntKind.i64 (Prod.fst x))]
        [AObj.cells [AV.sl 1 (Seq.map encB (0 : UInt8) bs) Tip.none, AV.int IntKind.i64 (Prod.fst (Prod.snd x)), AV.int IntKind.i64 (Prod.snd (Prod.snd x))],
        AObj.cells [AV.ptr 0 0], AObj.cells [AV.fn (270 : FuncId) [AV.ptr 1 0]], AObj.cells [AV.fn (271 : FuncId) [AV.ptr 1 0]],
        AObj.cells [AV.fn (272 : FuncId) [AV.ptr 2 0, AV.ptr 1 0, AV.ptr 3 0]]]
        (q273_2 5 Post)) →
    ASpec Try.prog 273 [AV.ptr 0 0, AV.int IntKind.i64 most, AV.fn (271 : FuncId) [AV.ptr 1 0]] (HR bs p e) Post := fun bs p e most Post h => Go.Ab.ASpec.of_vc g273 Go.Proofs.Try.func273 (by kernel_rfl) (by kernel_rfl) (by kernel_rfl) (Go.Ab.kc (by kernel_rfl) h)
theorem v273_3 : ∀ (bs : List UInt8) (p e : Int) (acc : List T.Span) (n : Int) (n_1 : Nat) (Post : AV → List AObj → Prop),
  condP (decide (n > (0 : Int)))
      (ASpec Try.prog 144 [AV.ptr 0 0]
        [AObj.cells [AV.sl 1 (Seq.map encB (0 : UInt8) bs) Tip.none, AV.int IntKind.i64 p, AV.int IntKind.i64 e], AObj.cells [AV.ptr 0 0],
        AObj.cells [AV.fn (270 : FuncId) [AV.ptr 1 0]], AObj.cells [AV.fn (271 : FuncId) [AV.ptr 1 0]],
        AObj.cells [AV.fn (272 : FuncId) [AV.ptr 2 0, AV.ptr 1 0, AV.ptr 3 0]], AObj.tok]
        fun (r : AV) (H' : List AObj) =>
        ∃ (x : Int),
        r = AV.int IntKind.i64 x ∧
        H' =
        [AObj.cells [AV.sl 1 (Seq.map encB (0 : UInt8) bs) Tip.none, AV.int IntKind.i64 p, AV.int IntKind.i64 e], AObj.cells [AV.ptr 0 0],
        AObj.cells [AV.fn (270 : FuncId) [AV.ptr 1 0]], AObj.cells [AV.fn (271 : FuncId) [AV.ptr 1 0]],
        AObj.cells [AV.fn (272 : FuncId) [AV.ptr 2 0, AV.ptr 1 0, AV.ptr 3 0]], AObj.tok] ∧
        condP (x == (0 : Int))
        (ASpec Try.prog 271 [AV.ptr 1 0]
        [AObj.cells [AV.sl 1 (Seq.map encB (0 : UInt8) bs) Tip.none, AV.int IntKind.i64 p, AV.int IntKind.i64 e], AObj.cells [AV.ptr 0 0],
        AObj.cells [AV.fn (270 : FuncId) [AV.ptr 1 0]], AObj.cells [AV.fn (271 : FuncId) [AV.ptr 1 0]],
        AObj.cells [AV.fn (272 : FuncId) [AV.ptr 2 0, AV.ptr 1 0, AV.ptr 3 0]], AObj.tok]
        fun (r : AV) (H' : List AObj) =>
        ∃ (x : T.Span × Int × Int),
        r = AV.agg [AV.int IntKind.i64 (Prod.fst (Prod.fst x)), AV.int IntKind.i64 (Prod.snd (Prod.fst x))] ∧
        H' =
        [AObj.cells [AV.sl 1 (Seq.map encB (0 : UInt8) bs) Tip.none, AV.int IntKind.i64 (Prod.fst (Prod.snd x)), AV.int IntKind.i64 (Prod.snd (Prod.snd x))],
        AObj.cells [AV.ptr 0 0], AObj.cells [AV.fn (270 : FuncId) [AV.ptr 1 0]], AObj.cells [AV.fn (271 : FuncId) [AV.ptr 1 0]],
        AObj.cells [AV.fn (272 : FuncId) [AV.ptr 2 0, AV.ptr 1 0, AV.ptr 3 0]], AObj.tok] ∧
        needP ((List.length acc + 1) * 16 ≤ 140737488351232)
        (AWP Try.prog 27 n_1 c273_3
        [(0, AV.ptr 0 0), (2, AV.fn (271 : FuncId) [AV.ptr 1 0]),
        (7,
        AV.sl 2
        (Seq.app (Seq.map T.encS ((0 : Int), (0 : Int)) acc) (Seq.raw [[AV.int IntKind.i64 (Prod.fst (Prod.fst x)), AV.int IntKind.i64 (Prod.snd (Prod.fst x))]]))
        (Tip.tok 6)),
        (8, AV.int IntKind.i64 (IntKind.wrap IntKind.i64 (n - (1 : Int))))]
        [AObj.cells [AV.sl 1 (Seq.map encB (0 : UInt8) bs) Tip.none, AV.int IntKind.i64 (Prod.fst (Prod.snd x)), AV.int IntKind.i64 (Prod.snd (Prod.snd x))],
        AObj.cells [AV.ptr 0 0], AObj.cells [AV.fn (270 : FuncId) [AV.ptr 1 0]], AObj.cells [AV.fn (271 : FuncId) [AV.ptr 1 0]],
        AObj.cells [AV.fn (272 : FuncId) [AV.ptr 2 0, AV.ptr 1 0, AV.ptr 3 0]], AObj.gone, AObj.tok]
        (q273_2 n_1 Post)))
        (Post (AV.sl 2 (Seq.map T.encS ((0 : Int), (0 : Int)) acc) (Tip.tok 5))
        [AObj.cells [AV.sl 1 (Seq.map encB (0 : UInt8) bs) Tip.none, AV.int IntKind.i64 p, AV.int IntKind.i64 e], AObj.cells [AV.ptr 0 0],
        AObj.cells [AV.fn (270 : FuncId) [AV.ptr 1 0]], AObj.cells [AV.fn (271 : FuncId) [AV.ptr 1 0]],
        AObj.cells [AV.fn (272 : FuncId) [AV.ptr 2 0, AV.ptr 1 0, AV.ptr 3 0]], AObj.tok]))
      (Post (AV.sl 2 (Seq.map T.encS ((0 : Int), (0 : Int)) acc) (Tip.tok 5))
        [AObj.cells [AV.sl 1 (Seq.map encB (0 : UInt8) bs) Tip.none, AV.int IntKind.i64 p, AV.int IntKind.i64 e], AObj.cells [AV.ptr 0 0],
        AObj.cells [AV.fn (270 : FuncId) [AV.ptr 1 0]], AObj.cells [AV.fn (271 : FuncId) [AV.ptr 1 0]],
        AObj.cells [AV.fn (272 : FuncId) [AV.ptr 2 0, AV.ptr 1 0, AV.ptr 3 0]], AObj.tok]) →
    AWP Try.prog 27 n_1 c273_3
      [(0, AV.ptr 0 0), (2, AV.fn (271 : FuncId) [AV.ptr 1 0]),
        (7, AV.sl 2 (Seq.map T.encS ((0 : Int), (0 : Int)) acc) (Tip.tok 5)), (8, AV.int IntKind.i64 n)]
      (HR bs p e ++ [AObj.tok]) (q273_2 n_1 Post) := fun bs p e acc n n Post h => Go.Ab.AWP.loop' g273 (Cfg.live g273) c273_3 (by kernel_rfl) (by kernel_rfl) (Go.Ab.kc (by kernel_rfl) h)

-- 272
noncomputable def l272 : Nat → List Nat
  | _ => []
noncomputable def u272 : Nat → Bool
  | _ => false
noncomputable def m272 : Nat → Bool
  | _ => false
noncomputable def g272 : Cfg := { N := 13, live := l272, cut := u272, mu := m272, ret := rets }
noncomputable def c272 : Go.Code := Go.Ab.bodyOf Go.Proofs.Try.f272
theorem s272 : ∀ (bs : List UInt8) (p e : Int) (Post : AV → List AObj → Prop),
  (ASpec Try.prog 270 [AV.ptr 1 0]
      [AObj.cells [AV.sl 1 (Seq.map encB (0 : UInt8) bs) Tip.none, AV.int IntKind.i64 p, AV.int IntKind.i64 e], AObj.cells [AV.ptr 0 0],
        AObj.cells [AV.fn (270 : FuncId) [AV.ptr 1 0]], AObj.cells [AV.fn (271 : FuncId) [AV.ptr 1 0]],
        AObj.cells [AV.fn (272 : FuncId) [AV.ptr 2 0, AV.ptr 1 0, AV.ptr 3 0]],
        AObj.cells [AV.str { data := #[] }, AV.sl 0 (Seq.raw []) Tip.nil]]
      fun (r : AV) (H' : List AObj) =>
      ∃ (x : ByteArray × Int × Int),
        r = AV.str (Prod.fst x) ∧
        H' =
        [AObj.cells [AV.sl 1 (Seq.map encB (0 : UInt8) bs) Tip.none, AV.int IntKind.i64 (Prod.fst (Prod.snd x)), AV.int IntKind.i64 (Prod.snd (Prod.snd x))],
        AObj.cells [AV.ptr 0 0], AObj.cells [AV.fn (270 : FuncId) [AV.ptr 1 0]], AObj.cells [AV.fn (271 : FuncId) [AV.ptr 1 0]],
        AObj.cells [AV.fn (272 : FuncId) [AV.ptr 2 0, AV.ptr 1 0, AV.ptr 3 0]],
        AObj.cells [AV.str { data := #[] }, AV.sl 0 (Seq.raw []) Tip.nil]] ∧
        ASpec Try.prog 273 [AV.ptr 0 0, AV.int IntKind.i64 (6 : Int), AV.fn (271 : FuncId) [AV.ptr 1 0]]
        [AObj.cells [AV.sl 1 (Seq.map encB (0 : UInt8) bs) Tip.none, AV.int IntKind.i64 (Prod.fst (Prod.snd x)), AV.int IntKind.i64 (Prod.snd (Prod.snd x))],
        AObj.cells [AV.ptr 0 0], AObj.cells [AV.fn (270 : FuncId) [AV.ptr 1 0]], AObj.cells [AV.fn (271 : FuncId) [AV.ptr 1 0]],
        AObj.cells [AV.fn (272 : FuncId) [AV.ptr 2 0, AV.ptr 1 0, AV.ptr 3 0]],
        AObj.cells [AV.str { data := #[] }, AV.sl 0 (Seq.raw []) Tip.nil], AObj.cells [AV.str (Prod.fst x), AV.sl 0 (Seq.raw []) Tip.nil]]
        fun (r : AV) (H' : List AObj) =>
        ∃ (x_1 : List T.Span × Int × Int),
        r = AV.sl 2 (Seq.map T.encS ((0 : Int), (0 : Int)) (Prod.fst x_1)) Tip.none ∧
        H' =
        [AObj.cells [AV.sl 1 (Seq.map encB (0 : UInt8) bs) Tip.none, AV.int IntKind.i64 (Prod.fst (Prod.snd x_1)), AV.int IntKind.i64 (Prod.snd (Prod.snd x_1))],
        AObj.cells [AV.ptr 0 0], AObj.cells [AV.fn (270 : FuncId) [AV.ptr 1 0]], AObj.cells [AV.fn (271 : FuncId) [AV.ptr 1 0]],
        AObj.cells [AV.fn (272 : FuncId) [AV.ptr 2 0, AV.ptr 1 0, AV.ptr 3 0]],
        AObj.cells [AV.str { data := #[] }, AV.sl 0 (Seq.raw []) Tip.nil], AObj.cells [AV.str (Prod.fst x), AV.sl 0 (Seq.raw []) Tip.nil]] ∧
        Post (AV.agg [AV.str (Prod.fst x), AV.sl 2 (Seq.map T.encS ((0 : Int), (0 : Int)) (Prod.fst x_1)) Tip.none])
        [AObj.cells [AV.sl 1 (Seq.map encB (0 : UInt8) bs) Tip.none, AV.int IntKind.i64 (Prod.fst (Prod.snd x_1)), AV.int IntKind.i64 (Prod.snd (Prod.snd x_1))],
        AObj.cells [AV.ptr 0 0], AObj.cells [AV.fn (270 : FuncId) [AV.ptr 1 0]], AObj.cells [AV.fn (271 : FuncId) [AV.ptr 1 0]],
        AObj.cells [AV.fn (272 : FuncId) [AV.ptr 2 0, AV.ptr 1 0, AV.ptr 3 0]],
        AObj.cells [AV.str (Prod.fst x), AV.sl 2 (Seq.map T.encS ((0 : Int), (0 : Int)) (Prod.fst x_1)) Tip.none],
        AObj.cells [AV.str (Prod.fst x), AV.sl 2 (Seq.map T.encS ((0 : Int), (0 : Int)) (Prod.fst x_1)) Tip.none]]) →
    ASpec Try.prog 272 [AV.ptr 2 0, AV.ptr 1 0, AV.ptr 3 0] (HR bs p e) Post := fun bs p e Post h => Go.Ab.ASpec.of_vc g272 Go.Proofs.Try.func272 (by kernel_rfl) (by kernel_rfl) (by kernel_rfl) (Go.Ab.kc (by kernel_rfl) h)

-- 276
noncomputable def l276 : Nat → List Nat
  | 3 => [0, 2, 7, 8]
  | _ => []
noncomputable def u276 : Nat → Bool
  | _ => false
noncomputable def m276 : Nat → Bool
  | _ => false
noncomputable def g276 : Cfg := { N := 27, live := l276, cut := u276, mu := m276, ret := rets }
noncomputable def c276 : Go.Code := Go.Ab.bodyOf Go.Proofs.Try.f276
noncomputable def q276_0 : Nat → (AV → List AObj → Prop) → AQ := fun (n : Nat) (Post : AV → List AObj → Prop) => endQ Try.prog (resultsOf Try.f276) Post
noncomputable def q276_1 : Nat → (AV → List AObj → Prop) → AQ := fun (n : Nat) (Post : AV → List AObj → Prop) => seqQ (fun (s' : Slots) (H' : List AObj) => awp Try.prog g276 n (codeSnd (codeSnd (codeSnd c276))) s' H' (q276_0 n Post)) (q276_0 n Post)
noncomputable def q276_2 : Nat → (AV → List AObj → Prop) → AQ := fun (n : Nat) (Post : AV → List AObj → Prop) => blockQ 0 (q276_1 n Post)
noncomputable def c276_3 : Go.Code := codeFst (codeSnd (codeFst (codeSnd (codeSnd c276))))
theorem s276 : ∀ (bs : List UInt8) (p e most : Int) (Post : AV → List AObj → Prop),
  (ASpec Try.prog 143 [AV.ptr 0 0, AV.int IntKind.i64 most]
      [AObj.cells [AV.sl 1 (Seq.map encB (0 : UInt8) bs) Tip.none, AV.int IntKind.i64 p, AV.int IntKind.i64 e], AObj.cells [AV.ptr 0 0],
        AObj.cells [AV.fn (270 : FuncId) [AV.ptr 1 0]], AObj.cells [AV.fn (271 : FuncId) [AV.ptr 1 0]],
        AObj.cells [AV.fn (272 : FuncId) [AV.ptr 2 0, AV.ptr 1 0, AV.ptr 3 0]]]
      fun (r : AV) (H' : List AObj) =>
      ∃ (x : Int × Int × Int),
        r = AV.int IntKind.i64 (Prod.fst x) ∧
        H' =
        [AObj.cells [AV.sl 1 (Seq.map encB (0 : UInt8) bs) Tip.none, AV.int IntKind.i64 (Prod.fst (Prod.snd x)), AV.int IntKind.i64 (Prod.snd (Prod.snd x))],
        AObj.cells [AV.ptr 0 0], AObj.cells [AV.fn (270 : FuncId) [AV.ptr 1 0]], AObj.cells [AV.fn (271 : FuncId) [AV.ptr 1 0]],
        AObj.cells [AV.fn (272 : FuncId) [AV.ptr 2 0, AV.ptr 1 0, AV.ptr 3 0]]] ∧
        AWP Try.prog 27 5 c276_3
        [(0, AV.ptr 0 0), (2, AV.fn (272 : FuncId) [AV.ptr 2 0, AV.ptr 1 0, AV.ptr 3 0]),
        (7, AV.sl 0 (Seq.raw []) Tip.nil), (8, AV.int IntKind.i64 (Prod.fst x))]
        [AObj.cells [AV.sl 1 (Seq.map encB (0 : UInt8) bs) Tip.none, AV.int IntKind.i64 (Prod.fst (Prod.snd x)), AV.int IntKind.i64 (Prod.snd (Prod.snd x))],
        AObj.cells [AV.ptr 0 0], AObj.cells [AV.fn (270 : FuncId) [AV.ptr 1 0]], AObj.cells [AV.fn (271 : FuncId) [AV.ptr 1 0]],
        AObj.cells [AV.fn (272 : FuncId) [AV.ptr 2 0, AV.ptr 1 0, AV.ptr 3 0]]]
        (q276_2 5 Post)) →
    ASpec Try.prog 276 [AV.ptr 0 0, AV.int IntKind.i64 most, AV.fn (272 : FuncId) [AV.ptr 2 0, AV.ptr 1 0, AV.ptr 3 0]]
      (HR bs p e) Post := fun bs p e most Post h => Go.Ab.ASpec.of_vc g276 Go.Proofs.Try.func276 (by kernel_rfl) (by kernel_rfl) (by kernel_rfl) (Go.Ab.kc (by kernel_rfl) h)
theorem v276_3 : ∀ (bs : List UInt8) (p e : Int) (acc : List T.Need) (n : Int) (n_1 : Nat) (Post : AV → List AObj → Prop),
  condP (decide (n > (0 : Int)))
      (ASpec Try.prog 144 [AV.ptr 0 0]
        [AObj.cells [AV.sl 1 (Seq.map encB (0 : UInt8) bs) Tip.none, AV.int IntKind.i64 p, AV.int IntKind.i64 e], AObj.cells [AV.ptr 0 0],
        AObj.cells [AV.fn (270 : FuncId) [AV.ptr 1 0]], AObj.cells [AV.fn (271 : FuncId) [AV.ptr 1 0]],
        AObj.cells [AV.fn (272 : FuncId) [AV.ptr 2 0, AV.ptr 1 0, AV.ptr 3 0]], AObj.tok]
        fun (r : AV) (H' : List AObj) =>
        ∃ (x : Int),
        r = AV.int IntKind.i64 x ∧
        H' =
        [AObj.cells [AV.sl 1 (Seq.map encB (0 : UInt8) bs) Tip.none, AV.int IntKind.i64 p, AV.int IntKind.i64 e], AObj.cells [AV.ptr 0 0],
        AObj.cells [AV.fn (270 : FuncId) [AV.ptr 1 0]], AObj.cells [AV.fn (271 : FuncId) [AV.ptr 1 0]],
        AObj.cells [AV.fn (272 : FuncId) [AV.ptr 2 0, AV.ptr 1 0, AV.ptr 3 0]], AObj.tok] ∧
        condP (x == (0 : Int))
        (ASpec Try.prog 272 [AV.ptr 2 0, AV.ptr 1 0, AV.ptr 3 0]
        [AObj.cells [AV.sl 1 (Seq.map encB (0 : UInt8) bs) Tip.none, AV.int IntKind.i64 p, AV.int IntKind.i64 e], AObj.cells [AV.ptr 0 0],
        AObj.cells [AV.fn (270 : FuncId) [AV.ptr 1 0]], AObj.cells [AV.fn (271 : FuncId) [AV.ptr 1 0]],
        AObj.cells [AV.fn (272 : FuncId) [AV.ptr 2 0, AV.ptr 1 0, AV.ptr 3 0]], AObj.tok]
        fun (r : AV) (H' : List AObj) =>
        ∃ (x : T.Need × Int × Int),
        r = AV.agg [AV.str { data := List.toArray (Prod.fst (Prod.fst x)) }, AV.sl 2 (Seq.map T.encS ((0 : Int), (0 : Int)) (Prod.snd (Prod.fst x))) Tip.none] ∧
        H' =
        [AObj.cells [AV.sl 1 (Seq.map encB (0 : UInt8) bs) Tip.none, AV.int IntKind.i64 (Prod.fst (Prod.snd x)), AV.int IntKind.i64 (Prod.snd (Prod.snd x))],
        AObj.cells [AV.ptr 0 0], AObj.cells [AV.fn (270 : FuncId) [AV.ptr 1 0]], AObj.cells [AV.fn (271 : FuncId) [AV.ptr 1 0]],
        AObj.cells [AV.fn (272 : FuncId) [AV.ptr 2 0, AV.ptr 1 0, AV.ptr 3 0]], AObj.tok] ∧
        needP ((List.length acc + 1) * 40 ≤ 140737488351232)
        (AWP Try.prog 27 n_1 c276_3
        [(0, AV.ptr 0 0), (2, AV.fn (272 : FuncId) [AV.ptr 2 0, AV.ptr 1 0, AV.ptr 3 0]),
        (7,
        AV.sl 2
        (Seq.app (Seq.map T.encN ([], []) acc)
        (Seq.raw [[AV.str { data := List.toArray (Prod.fst (Prod.fst x)) }, AV.sl 2 (Seq.map T.encS ((0 : Int), (0 : Int)) (Prod.snd (Prod.fst x))) Tip.none]]))
        (Tip.tok 6)),
        (8, AV.int IntKind.i64 (IntKind.wrap IntKind.i64 (n - (1 : Int))))]
        [AObj.cells [AV.sl 1 (Seq.map encB (0 : UInt8) bs) Tip.none, AV.int IntKind.i64 (Prod.fst (Prod.snd x)), AV.int IntKind.i64 (Prod.snd (Prod.snd x))],
        AObj.cells [AV.ptr 0 0], AObj.cells [AV.fn (270 : FuncId) [AV.ptr 1 0]], AObj.cells [AV.fn (271 : FuncId) [AV.ptr 1 0]],
        AObj.cells [AV.fn (272 : FuncId) [AV.ptr 2 0, AV.ptr 1 0, AV.ptr 3 0]], AObj.gone, AObj.tok]
        (q276_2 n_1 Post)))
        (Post (AV.sl 2 (Seq.map T.encN ([], []) acc) (Tip.tok 5))
        [AObj.cells [AV.sl 1 (Seq.map encB (0 : UInt8) bs) Tip.none, AV.int IntKind.i64 p, AV.int IntKind.i64 e], AObj.cells [AV.ptr 0 0],
        AObj.cells [AV.fn (270 : FuncId) [AV.ptr 1 0]], AObj.cells [AV.fn (271 : FuncId) [AV.ptr 1 0]],
        AObj.cells [AV.fn (272 : FuncId) [AV.ptr 2 0, AV.ptr 1 0, AV.ptr 3 0]], AObj.tok]))
      (Post (AV.sl 2 (Seq.map T.encN ([], []) acc) (Tip.tok 5))
        [AObj.cells [AV.sl 1 (Seq.map encB (0 : UInt8) bs) Tip.none, AV.int IntKind.i64 p, AV.int IntKind.i64 e], AObj.cells [AV.ptr 0 0],
        AObj.cells [AV.fn (270 : FuncId) [AV.ptr 1 0]], AObj.cells [AV.fn (271 : FuncId) [AV.ptr 1 0]],
        AObj.cells [AV.fn (272 : FuncId) [AV.ptr 2 0, AV.ptr 1 0, AV.ptr 3 0]], AObj.tok]) →
    AWP Try.prog 27 n_1 c276_3
      [(0, AV.ptr 0 0), (2, AV.fn (272 : FuncId) [AV.ptr 2 0, AV.ptr 1 0, AV.ptr 3 0]),
        (7, AV.sl 2 (Seq.map T.encN ([], []) acc) (Tip.tok 5)), (8, AV.int IntKind.i64 n)]
      (HR bs p e ++ [AObj.tok]) (q276_2 n_1 Post) := fun bs p e acc n n Post h => Go.Ab.AWP.loop' g276 (Cfg.live g276) c276_3 (by kernel_rfl) (by kernel_rfl) (Go.Ab.kc (by kernel_rfl) h)

-- 275
noncomputable def l275 : Nat → List Nat
  | _ => []
noncomputable def u275 : Nat → Bool
  | _ => false
noncomputable def m275 : Nat → Bool
  | _ => false
noncomputable def g275 : Cfg := { N := 12, live := l275, cut := u275, mu := m275, ret := rets }
noncomputable def c275 : Go.Code := Go.Ab.bodyOf Go.Proofs.Try.f275
theorem s275 : ∀ (bs : List UInt8) (p e : Int) (Post : AV → List AObj → Prop),
  (ASpec Try.prog 143 [AV.ptr 0 0, AV.int IntKind.i64 (1000000000 : Int)]
      [AObj.cells [AV.sl 1 (Seq.map encB (0 : UInt8) bs) Tip.none, AV.int IntKind.i64 p, AV.int IntKind.i64 e], AObj.cells [AV.ptr 0 0],
        AObj.cells [AV.fn (270 : FuncId) [AV.ptr 1 0]], AObj.cells [AV.fn (271 : FuncId) [AV.ptr 1 0]],
        AObj.cells [AV.fn (272 : FuncId) [AV.ptr 2 0, AV.ptr 1 0, AV.ptr 3 0]],
        AObj.cells [AV.int IntKind.i64 (0 : Int), AV.sl 0 (Seq.raw []) Tip.nil]]
      fun (r : AV) (H' : List AObj) =>
      ∃ (x : Int × Int × Int),
        r = AV.int IntKind.i64 (Prod.fst x) ∧
        H' =
        [AObj.cells [AV.sl 1 (Seq.map encB (0 : UInt8) bs) Tip.none, AV.int IntKind.i64 (Prod.fst (Prod.snd x)), AV.int IntKind.i64 (Prod.snd (Prod.snd x))],
        AObj.cells [AV.ptr 0 0], AObj.cells [AV.fn (270 : FuncId) [AV.ptr 1 0]], AObj.cells [AV.fn (271 : FuncId) [AV.ptr 1 0]],
        AObj.cells [AV.fn (272 : FuncId) [AV.ptr 2 0, AV.ptr 1 0, AV.ptr 3 0]],
        AObj.cells [AV.int IntKind.i64 (0 : Int), AV.sl 0 (Seq.raw []) Tip.nil]] ∧
        ASpec Try.prog 276
        [AV.ptr 0 0, AV.int IntKind.i64 (6 : Int), AV.fn (272 : FuncId) [AV.ptr 2 0, AV.ptr 1 0, AV.ptr 3 0]]
        [AObj.cells [AV.sl 1 (Seq.map encB (0 : UInt8) bs) Tip.none, AV.int IntKind.i64 (Prod.fst (Prod.snd x)), AV.int IntKind.i64 (Prod.snd (Prod.snd x))],
        AObj.cells [AV.ptr 0 0], AObj.cells [AV.fn (270 : FuncId) [AV.ptr 1 0]], AObj.cells [AV.fn (271 : FuncId) [AV.ptr 1 0]],
        AObj.cells [AV.fn (272 : FuncId) [AV.ptr 2 0, AV.ptr 1 0, AV.ptr 3 0]],
        AObj.cells [AV.int IntKind.i64 (0 : Int), AV.sl 0 (Seq.raw []) Tip.nil], AObj.cells [AV.int IntKind.i64 (Prod.fst x), AV.sl 0 (Seq.raw []) Tip.nil]]
        fun (r : AV) (H' : List AObj) =>
        ∃ (x_1 : List T.Need × Int × Int),
        r = AV.sl 2 (Seq.map T.encN ([], []) (Prod.fst x_1)) Tip.none ∧
        H' =
        [AObj.cells [AV.sl 1 (Seq.map encB (0 : UInt8) bs) Tip.none, AV.int IntKind.i64 (Prod.fst (Prod.snd x_1)), AV.int IntKind.i64 (Prod.snd (Prod.snd x_1))],
        AObj.cells [AV.ptr 0 0], AObj.cells [AV.fn (270 : FuncId) [AV.ptr 1 0]], AObj.cells [AV.fn (271 : FuncId) [AV.ptr 1 0]],
        AObj.cells [AV.fn (272 : FuncId) [AV.ptr 2 0, AV.ptr 1 0, AV.ptr 3 0]],
        AObj.cells [AV.int IntKind.i64 (0 : Int), AV.sl 0 (Seq.raw []) Tip.nil], AObj.cells [AV.int IntKind.i64 (Prod.fst x), AV.sl 0 (Seq.raw []) Tip.nil]] ∧
        Post (AV.agg [AV.int IntKind.i64 (Prod.fst x), AV.sl 2 (Seq.map T.encN ([], []) (Prod.fst x_1)) Tip.none])
        [AObj.cells [AV.sl 1 (Seq.map encB (0 : UInt8) bs) Tip.none, AV.int IntKind.i64 (Prod.fst (Prod.snd x_1)), AV.int IntKind.i64 (Prod.snd (Prod.snd x_1))],
        AObj.cells [AV.ptr 0 0], AObj.cells [AV.fn (270 : FuncId) [AV.ptr 1 0]], AObj.cells [AV.fn (271 : FuncId) [AV.ptr 1 0]],
        AObj.cells [AV.fn (272 : FuncId) [AV.ptr 2 0, AV.ptr 1 0, AV.ptr 3 0]],
        AObj.cells [AV.int IntKind.i64 (Prod.fst x), AV.sl 2 (Seq.map T.encN ([], []) (Prod.fst x_1)) Tip.none],
        AObj.cells [AV.int IntKind.i64 (Prod.fst x), AV.sl 2 (Seq.map T.encN ([], []) (Prod.fst x_1)) Tip.none]]) →
    ASpec Try.prog 275 [AV.ptr 1 0, AV.ptr 4 0] (HR bs p e) Post := fun bs p e Post h => Go.Ab.ASpec.of_vc g275 Go.Proofs.Try.func275 (by kernel_rfl) (by kernel_rfl) (by kernel_rfl) (Go.Ab.kc (by kernel_rfl) h)

-- 274
noncomputable def l274 : Nat → List Nat
  | 3 => [0, 2, 7, 8]
  | _ => []
noncomputable def u274 : Nat → Bool
  | _ => false
noncomputable def m274 : Nat → Bool
  | _ => false
noncomputable def g274 : Cfg := { N := 27, live := l274, cut := u274, mu := m274, ret := rets }
noncomputable def c274 : Go.Code := Go.Ab.bodyOf Go.Proofs.Try.f274
noncomputable def q274_0 : Nat → (AV → List AObj → Prop) → AQ := fun (n : Nat) (Post : AV → List AObj → Prop) => endQ Try.prog (resultsOf Try.f274) Post
noncomputable def q274_1 : Nat → (AV → List AObj → Prop) → AQ := fun (n : Nat) (Post : AV → List AObj → Prop) => seqQ (fun (s' : Slots) (H' : List AObj) => awp Try.prog g274 n (codeSnd (codeSnd (codeSnd c274))) s' H' (q274_0 n Post)) (q274_0 n Post)
noncomputable def q274_2 : Nat → (AV → List AObj → Prop) → AQ := fun (n : Nat) (Post : AV → List AObj → Prop) => blockQ 0 (q274_1 n Post)
noncomputable def c274_3 : Go.Code := codeFst (codeSnd (codeFst (codeSnd (codeSnd c274))))
theorem s274 : ∀ (bs : List UInt8) (p e most : Int) (Post : AV → List AObj → Prop),
  (ASpec Try.prog 143 [AV.ptr 0 0, AV.int IntKind.i64 most]
      [AObj.cells [AV.sl 1 (Seq.map encB (0 : UInt8) bs) Tip.none, AV.int IntKind.i64 p, AV.int IntKind.i64 e], AObj.cells [AV.ptr 0 0],
        AObj.cells [AV.fn (270 : FuncId) [AV.ptr 1 0]], AObj.cells [AV.fn (271 : FuncId) [AV.ptr 1 0]],
        AObj.cells [AV.fn (272 : FuncId) [AV.ptr 2 0, AV.ptr 1 0, AV.ptr 3 0]]]
      fun (r : AV) (H' : List AObj) =>
      ∃ (x : Int × Int × Int),
        r = AV.int IntKind.i64 (Prod.fst x) ∧
        H' =
        [AObj.cells [AV.sl 1 (Seq.map encB (0 : UInt8) bs) Tip.none, AV.int IntKind.i64 (Prod.fst (Prod.snd x)), AV.int IntKind.i64 (Prod.snd (Prod.snd x))],
        AObj.cells [AV.ptr 0 0], AObj.cells [AV.fn (270 : FuncId) [AV.ptr 1 0]], AObj.cells [AV.fn (271 : FuncId) [AV.ptr 1 0]],
        AObj.cells [AV.fn (272 : FuncId) [AV.ptr 2 0, AV.ptr 1 0, AV.ptr 3 0]]] ∧
        AWP Try.prog 27 5 c274_3
        [(0, AV.ptr 0 0), (2, AV.fn (275 : FuncId) [AV.ptr 1 0, AV.ptr 4 0]), (7, AV.sl 0 (Seq.raw []) Tip.nil),
        (8, AV.int IntKind.i64 (Prod.fst x))]
        [AObj.cells [AV.sl 1 (Seq.map encB (0 : UInt8) bs) Tip.none, AV.int IntKind.i64 (Prod.fst (Prod.snd x)), AV.int IntKind.i64 (Prod.snd (Prod.snd x))],
        AObj.cells [AV.ptr 0 0], AObj.cells [AV.fn (270 : FuncId) [AV.ptr 1 0]], AObj.cells [AV.fn (271 : FuncId) [AV.ptr 1 0]],
        AObj.cells [AV.fn (272 : FuncId) [AV.ptr 2 0, AV.ptr 1 0, AV.ptr 3 0]]]
        (q274_2 5 Post)) →
    ASpec Try.prog 274 [AV.ptr 0 0, AV.int IntKind.i64 most, AV.fn (275 : FuncId) [AV.ptr 1 0, AV.ptr 4 0]] (HR bs p e) Post := fun bs p e most Post h => Go.Ab.ASpec.of_vc g274 Go.Proofs.Try.func274 (by kernel_rfl) (by kernel_rfl) (by kernel_rfl) (Go.Ab.kc (by kernel_rfl) h)
theorem v274_3 : ∀ (bs : List UInt8) (p e : Int) (acc : List T.Rel) (n : Int) (n_1 : Nat) (Post : AV → List AObj → Prop),
  condP (decide (n > (0 : Int)))
      (ASpec Try.prog 144 [AV.ptr 0 0]
        [AObj.cells [AV.sl 1 (Seq.map encB (0 : UInt8) bs) Tip.none, AV.int IntKind.i64 p, AV.int IntKind.i64 e], AObj.cells [AV.ptr 0 0],
        AObj.cells [AV.fn (270 : FuncId) [AV.ptr 1 0]], AObj.cells [AV.fn (271 : FuncId) [AV.ptr 1 0]],
        AObj.cells [AV.fn (272 : FuncId) [AV.ptr 2 0, AV.ptr 1 0, AV.ptr 3 0]], AObj.tok]
        fun (r : AV) (H' : List AObj) =>
        ∃ (x : Int),
        r = AV.int IntKind.i64 x ∧
        H' =
        [AObj.cells [AV.sl 1 (Seq.map encB (0 : UInt8) bs) Tip.none, AV.int IntKind.i64 p, AV.int IntKind.i64 e], AObj.cells [AV.ptr 0 0],
        AObj.cells [AV.fn (270 : FuncId) [AV.ptr 1 0]], AObj.cells [AV.fn (271 : FuncId) [AV.ptr 1 0]],
        AObj.cells [AV.fn (272 : FuncId) [AV.ptr 2 0, AV.ptr 1 0, AV.ptr 3 0]], AObj.tok] ∧
        condP (x == (0 : Int))
        (ASpec Try.prog 275 [AV.ptr 1 0, AV.ptr 4 0]
        [AObj.cells [AV.sl 1 (Seq.map encB (0 : UInt8) bs) Tip.none, AV.int IntKind.i64 p, AV.int IntKind.i64 e], AObj.cells [AV.ptr 0 0],
        AObj.cells [AV.fn (270 : FuncId) [AV.ptr 1 0]], AObj.cells [AV.fn (271 : FuncId) [AV.ptr 1 0]],
        AObj.cells [AV.fn (272 : FuncId) [AV.ptr 2 0, AV.ptr 1 0, AV.ptr 3 0]], AObj.tok]
        fun (r : AV) (H' : List AObj) =>
        ∃ (x : T.Rel × Int × Int),
        r = AV.agg [AV.int IntKind.i64 (Prod.fst (Prod.fst x)), AV.sl 2 (Seq.map T.encN ([], []) (Prod.snd (Prod.fst x))) Tip.none] ∧
        H' =
        [AObj.cells [AV.sl 1 (Seq.map encB (0 : UInt8) bs) Tip.none, AV.int IntKind.i64 (Prod.fst (Prod.snd x)), AV.int IntKind.i64 (Prod.snd (Prod.snd x))],
        AObj.cells [AV.ptr 0 0], AObj.cells [AV.fn (270 : FuncId) [AV.ptr 1 0]], AObj.cells [AV.fn (271 : FuncId) [AV.ptr 1 0]],
        AObj.cells [AV.fn (272 : FuncId) [AV.ptr 2 0, AV.ptr 1 0, AV.ptr 3 0]], AObj.tok] ∧
        needP ((List.length acc + 1) * 32 ≤ 140737488351232)
        (AWP Try.prog 27 n_1 c274_3
        [(0, AV.ptr 0 0), (2, AV.fn (275 : FuncId) [AV.ptr 1 0, AV.ptr 4 0]),
        (7,
        AV.sl 2
        (Seq.app (Seq.map T.encR ((0 : Int), []) acc)
        (Seq.raw [[AV.int IntKind.i64 (Prod.fst (Prod.fst x)), AV.sl 2 (Seq.map T.encN ([], []) (Prod.snd (Prod.fst x))) Tip.none]]))
        (Tip.tok 6)),
        (8, AV.int IntKind.i64 (IntKind.wrap IntKind.i64 (n - (1 : Int))))]
        [AObj.cells [AV.sl 1 (Seq.map encB (0 : UInt8) bs) Tip.none, AV.int IntKind.i64 (Prod.fst (Prod.snd x)), AV.int IntKind.i64 (Prod.snd (Prod.snd x))],
        AObj.cells [AV.ptr 0 0], AObj.cells [AV.fn (270 : FuncId) [AV.ptr 1 0]], AObj.cells [AV.fn (271 : FuncId) [AV.ptr 1 0]],
        AObj.cells [AV.fn (272 : FuncId) [AV.ptr 2 0, AV.ptr 1 0, AV.ptr 3 0]], AObj.gone, AObj.tok]
        (q274_2 n_1 Post)))
        (Post (AV.sl 2 (Seq.map T.encR ((0 : Int), []) acc) (Tip.tok 5))
        [AObj.cells [AV.sl 1 (Seq.map encB (0 : UInt8) bs) Tip.none, AV.int IntKind.i64 p, AV.int IntKind.i64 e], AObj.cells [AV.ptr 0 0],
        AObj.cells [AV.fn (270 : FuncId) [AV.ptr 1 0]], AObj.cells [AV.fn (271 : FuncId) [AV.ptr 1 0]],
        AObj.cells [AV.fn (272 : FuncId) [AV.ptr 2 0, AV.ptr 1 0, AV.ptr 3 0]], AObj.tok]))
      (Post (AV.sl 2 (Seq.map T.encR ((0 : Int), []) acc) (Tip.tok 5))
        [AObj.cells [AV.sl 1 (Seq.map encB (0 : UInt8) bs) Tip.none, AV.int IntKind.i64 p, AV.int IntKind.i64 e], AObj.cells [AV.ptr 0 0],
        AObj.cells [AV.fn (270 : FuncId) [AV.ptr 1 0]], AObj.cells [AV.fn (271 : FuncId) [AV.ptr 1 0]],
        AObj.cells [AV.fn (272 : FuncId) [AV.ptr 2 0, AV.ptr 1 0, AV.ptr 3 0]], AObj.tok]) →
    AWP Try.prog 27 n_1 c274_3
      [(0, AV.ptr 0 0), (2, AV.fn (275 : FuncId) [AV.ptr 1 0, AV.ptr 4 0]),
        (7, AV.sl 2 (Seq.map T.encR ((0 : Int), []) acc) (Tip.tok 5)), (8, AV.int IntKind.i64 n)]
      (HR bs p e ++ [AObj.tok]) (q274_2 n_1 Post) := fun bs p e acc n n Post h => Go.Ab.AWP.loop' g274 (Cfg.live g274) c274_3 (by kernel_rfl) (by kernel_rfl) (Go.Ab.kc (by kernel_rfl) h)

-- 181
noncomputable def l181 : Nat → List Nat
  | _ => []
noncomputable def u181 : Nat → Bool
  | _ => false
noncomputable def m181 : Nat → Bool
  | _ => false
noncomputable def g181 : Cfg := { N := 40, live := l181, cut := u181, mu := m181, ret := rets }
noncomputable def c181 : Go.Code := Go.Ab.bodyOf Go.Proofs.Try.f181
theorem s181 : ∀ (bs : List UInt8) (Post : AV → List AObj → Prop),
  condP (decide ((↑(List.length bs) : Int) > (8192 : Int)))
      (Post (AV.tup [AV.agg [AV.str { data := #[] }, AV.sl 0 (Seq.raw []) Tip.nil], AV.int IntKind.i64 (4 : Int)]) [AObj.cells [AV.str { data := #[] }, AV.sl 0 (Seq.raw []) Tip.nil]])
      (ASpec Try.prog 142 [AV.sl 1 (Seq.map encB (0 : UInt8) bs) Tip.none] [AObj.cells [AV.str { data := #[] }, AV.sl 0 (Seq.raw []) Tip.nil]] fun (r : AV) (H' : List AObj) =>
        ∃ (x : List UInt8),
        r = AV.ptr 1 0 ∧
        H' =
        [AObj.cells [AV.str { data := #[] }, AV.sl 0 (Seq.raw []) Tip.nil],
        AObj.cells [AV.sl 1 (Seq.map encB (0 : UInt8) x) Tip.none, AV.int IntKind.i64 (0 : Int), AV.int IntKind.i64 (0 : Int)]] ∧
        ASpec Try.prog 270 [AV.ptr 2 0]
        [AObj.cells [AV.str { data := #[] }, AV.sl 0 (Seq.raw []) Tip.nil],
        AObj.cells [AV.sl 1 (Seq.map encB (0 : UInt8) x) Tip.none, AV.int IntKind.i64 (0 : Int), AV.int IntKind.i64 (0 : Int)], AObj.cells [AV.ptr 1 0],
        AObj.cells [AV.fn 270 [AV.ptr 2 0]], AObj.cells [AV.fn 271 [AV.ptr 2 0]],
        AObj.cells [AV.fn 272 [AV.ptr 3 0, AV.ptr 2 0, AV.ptr 4 0]]]
        fun (r : AV) (H' : List AObj) =>
        ∃ (x_1 : ByteArray × Int × Int),
        r = AV.str (Prod.fst x_1) ∧
        H' =
        [AObj.cells [AV.str { data := #[] }, AV.sl 0 (Seq.raw []) Tip.nil],
        AObj.cells [AV.sl 1 (Seq.map encB (0 : UInt8) x) Tip.none, AV.int IntKind.i64 (Prod.fst (Prod.snd x_1)), AV.int IntKind.i64 (Prod.snd (Prod.snd x_1))],
        AObj.cells [AV.ptr 1 0], AObj.cells [AV.fn 270 [AV.ptr 2 0]], AObj.cells [AV.fn 271 [AV.ptr 2 0]],
        AObj.cells [AV.fn 272 [AV.ptr 3 0, AV.ptr 2 0, AV.ptr 4 0]]] ∧
        ASpec Try.prog 274 [AV.ptr 1 0, AV.int IntKind.i64 (8 : Int), AV.fn 275 [AV.ptr 2 0, AV.ptr 5 0]]
        [AObj.cells [AV.str { data := #[] }, AV.sl 0 (Seq.raw []) Tip.nil],
        AObj.cells [AV.sl 1 (Seq.map encB (0 : UInt8) x) Tip.none, AV.int IntKind.i64 (Prod.fst (Prod.snd x_1)), AV.int IntKind.i64 (Prod.snd (Prod.snd x_1))],
        AObj.cells [AV.ptr 1 0], AObj.cells [AV.fn 270 [AV.ptr 2 0]], AObj.cells [AV.fn 271 [AV.ptr 2 0]],
        AObj.cells [AV.fn 272 [AV.ptr 3 0, AV.ptr 2 0, AV.ptr 4 0]],
        AObj.cells [AV.str (Prod.fst x_1), AV.sl 0 (Seq.raw []) Tip.nil]]
        fun (r : AV) (H' : List AObj) =>
        ∃ (x_2 : List T.Rel × Int × Int),
        r = AV.sl 2 (Seq.map T.encR ((0 : Int), []) (Prod.fst x_2)) Tip.none ∧
        H' =
        [AObj.cells [AV.str { data := #[] }, AV.sl 0 (Seq.raw []) Tip.nil],
        AObj.cells [AV.sl 1 (Seq.map encB (0 : UInt8) x) Tip.none, AV.int IntKind.i64 (Prod.fst (Prod.snd x_2)), AV.int IntKind.i64 (Prod.snd (Prod.snd x_2))],
        AObj.cells [AV.ptr 1 0], AObj.cells [AV.fn 270 [AV.ptr 2 0]], AObj.cells [AV.fn 271 [AV.ptr 2 0]],
        AObj.cells [AV.fn 272 [AV.ptr 3 0, AV.ptr 2 0, AV.ptr 4 0]],
        AObj.cells [AV.str (Prod.fst x_1), AV.sl 0 (Seq.raw []) Tip.nil]] ∧
        ASpec Try.prog 146 [AV.ptr 1 0]
        [AObj.cells [AV.str { data := #[] }, AV.sl 0 (Seq.raw []) Tip.nil],
        AObj.cells [AV.sl 1 (Seq.map encB (0 : UInt8) x) Tip.none, AV.int IntKind.i64 (Prod.fst (Prod.snd x_2)), AV.int IntKind.i64 (Prod.snd (Prod.snd x_2))],
        AObj.cells [AV.ptr 1 0], AObj.cells [AV.fn 270 [AV.ptr 2 0]], AObj.cells [AV.fn 271 [AV.ptr 2 0]],
        AObj.cells [AV.fn 272 [AV.ptr 3 0, AV.ptr 2 0, AV.ptr 4 0]],
        AObj.cells [AV.str (Prod.fst x_1), AV.sl 2 (Seq.map T.encR ((0 : Int), []) (Prod.fst x_2)) Tip.none]]
        fun (r : AV) (H' : List AObj) =>
        ∃ (x_3 : Int),
        r = AV.int IntKind.i64 x_3 ∧
        H' =
        [AObj.cells [AV.str { data := #[] }, AV.sl 0 (Seq.raw []) Tip.nil],
        AObj.cells
        [AV.sl 1 (Seq.map encB (0 : UInt8) x) Tip.none, AV.int IntKind.i64 (Prod.fst (Prod.snd x_2)), AV.int IntKind.i64 (Prod.snd (Prod.snd x_2))],
        AObj.cells [AV.ptr 1 0], AObj.cells [AV.fn 270 [AV.ptr 2 0]],
        AObj.cells [AV.fn 271 [AV.ptr 2 0]],
        AObj.cells [AV.fn 272 [AV.ptr 3 0, AV.ptr 2 0, AV.ptr 4 0]],
        AObj.cells [AV.str (Prod.fst x_1), AV.sl 2 (Seq.map T.encR ((0 : Int), []) (Prod.fst x_2)) Tip.none]] ∧
        condP (x_3 == (0 : Int))
        (ASpec Try.prog 185 [AV.agg [AV.str (Prod.fst x_1), AV.sl 2 (Seq.map T.encR ((0 : Int), []) (Prod.fst x_2)) Tip.none]]
        [AObj.cells [AV.str { data := #[] }, AV.sl 0 (Seq.raw []) Tip.nil],
        AObj.cells
        [AV.sl 1 (Seq.map encB (0 : UInt8) x) Tip.none, AV.int IntKind.i64 (Prod.fst (Prod.snd x_2)), AV.int IntKind.i64 (Prod.snd (Prod.snd x_2))],
        AObj.cells [AV.ptr 1 0], AObj.cells [AV.fn 270 [AV.ptr 2 0]],
        AObj.cells [AV.fn 271 [AV.ptr 2 0]],
        AObj.cells [AV.fn 272 [AV.ptr 3 0, AV.ptr 2 0, AV.ptr 4 0]],
        AObj.cells [AV.str (Prod.fst x_1), AV.sl 2 (Seq.map T.encR ((0 : Int), []) (Prod.fst x_2)) Tip.none]]
        fun (r : AV) (H' : List AObj) =>
        ∃ (x_4 : Bool),
        r = AV.bool x_4 ∧
        H' =
        [AObj.cells [AV.str { data := #[] }, AV.sl 0 (Seq.raw []) Tip.nil],
        AObj.cells
        [AV.sl 1 (Seq.map encB (0 : UInt8) x) Tip.none, AV.int IntKind.i64 (Prod.fst (Prod.snd x_2)),
        AV.int IntKind.i64 (Prod.snd (Prod.snd x_2))],
        AObj.cells [AV.ptr 1 0], AObj.cells [AV.fn 270 [AV.ptr 2 0]],
        AObj.cells [AV.fn 271 [AV.ptr 2 0]],
        AObj.cells [AV.fn 272 [AV.ptr 3 0, AV.ptr 2 0, AV.ptr 4 0]],
        AObj.cells [AV.str (Prod.fst x_1), AV.sl 2 (Seq.map T.encR ((0 : Int), []) (Prod.fst x_2)) Tip.none]] ∧
        condP (!x_4)
        (Post (AV.tup [AV.agg [AV.str { data := #[] }, AV.sl 0 (Seq.raw []) Tip.nil], AV.int IntKind.i64 (3 : Int)])
        [AObj.cells [AV.str { data := #[] }, AV.sl 0 (Seq.raw []) Tip.nil],
        AObj.cells
        [AV.sl 1 (Seq.map encB (0 : UInt8) x) Tip.none, AV.int IntKind.i64 (Prod.fst (Prod.snd x_2)),
        AV.int IntKind.i64 (Prod.snd (Prod.snd x_2))],
        AObj.cells [AV.ptr 1 0], AObj.cells [AV.fn 270 [AV.ptr 2 0]],
        AObj.cells [AV.fn 271 [AV.ptr 2 0]],
        AObj.cells [AV.fn 272 [AV.ptr 3 0, AV.ptr 2 0, AV.ptr 4 0]],
        AObj.cells [AV.str (Prod.fst x_1), AV.sl 2 (Seq.map T.encR ((0 : Int), []) (Prod.fst x_2)) Tip.none]])
        (condP (x_3 != (0 : Int))
        (Post (AV.tup [AV.agg [AV.str { data := #[] }, AV.sl 0 (Seq.raw []) Tip.nil], AV.int IntKind.i64 x_3])
        [AObj.cells [AV.str { data := #[] }, AV.sl 0 (Seq.raw []) Tip.nil],
        AObj.cells
        [AV.sl 1 (Seq.map encB (0 : UInt8) x) Tip.none, AV.int IntKind.i64 (Prod.fst (Prod.snd x_2)),
        AV.int IntKind.i64 (Prod.snd (Prod.snd x_2))],
        AObj.cells [AV.ptr 1 0], AObj.cells [AV.fn 270 [AV.ptr 2 0]],
        AObj.cells [AV.fn 271 [AV.ptr 2 0]],
        AObj.cells [AV.fn 272 [AV.ptr 3 0, AV.ptr 2 0, AV.ptr 4 0]],
        AObj.cells [AV.str (Prod.fst x_1), AV.sl 2 (Seq.map T.encR ((0 : Int), []) (Prod.fst x_2)) Tip.none]])
        (Post
        (AV.tup [AV.agg [AV.str (Prod.fst x_1), AV.sl 2 (Seq.map T.encR ((0 : Int), []) (Prod.fst x_2)) Tip.none], AV.int IntKind.i64 (0 : Int)])
        [AObj.cells [AV.str (Prod.fst x_1), AV.sl 2 (Seq.map T.encR ((0 : Int), []) (Prod.fst x_2)) Tip.none],
        AObj.cells
        [AV.sl 1 (Seq.map encB (0 : UInt8) x) Tip.none, AV.int IntKind.i64 (Prod.fst (Prod.snd x_2)),
        AV.int IntKind.i64 (Prod.snd (Prod.snd x_2))],
        AObj.cells [AV.ptr 1 0], AObj.cells [AV.fn 270 [AV.ptr 2 0]],
        AObj.cells [AV.fn 271 [AV.ptr 2 0]],
        AObj.cells [AV.fn 272 [AV.ptr 3 0, AV.ptr 2 0, AV.ptr 4 0]],
        AObj.cells [AV.str (Prod.fst x_1), AV.sl 2 (Seq.map T.encR ((0 : Int), []) (Prod.fst x_2)) Tip.none]])))
        (condP (x_3 != (0 : Int))
        (Post (AV.tup [AV.agg [AV.str { data := #[] }, AV.sl 0 (Seq.raw []) Tip.nil], AV.int IntKind.i64 x_3])
        [AObj.cells [AV.str { data := #[] }, AV.sl 0 (Seq.raw []) Tip.nil],
        AObj.cells
        [AV.sl 1 (Seq.map encB (0 : UInt8) x) Tip.none, AV.int IntKind.i64 (Prod.fst (Prod.snd x_2)), AV.int IntKind.i64 (Prod.snd (Prod.snd x_2))],
        AObj.cells [AV.ptr 1 0], AObj.cells [AV.fn 270 [AV.ptr 2 0]],
        AObj.cells [AV.fn 271 [AV.ptr 2 0]],
        AObj.cells [AV.fn 272 [AV.ptr 3 0, AV.ptr 2 0, AV.ptr 4 0]],
        AObj.cells [AV.str (Prod.fst x_1), AV.sl 2 (Seq.map T.encR ((0 : Int), []) (Prod.fst x_2)) Tip.none]])
        (Post (AV.tup [AV.agg [AV.str (Prod.fst x_1), AV.sl 2 (Seq.map T.encR ((0 : Int), []) (Prod.fst x_2)) Tip.none], AV.int IntKind.i64 (0 : Int)])
        [AObj.cells [AV.str (Prod.fst x_1), AV.sl 2 (Seq.map T.encR ((0 : Int), []) (Prod.fst x_2)) Tip.none],
        AObj.cells
        [AV.sl 1 (Seq.map encB (0 : UInt8) x) Tip.none, AV.int IntKind.i64 (Prod.fst (Prod.snd x_2)), AV.int IntKind.i64 (Prod.snd (Prod.snd x_2))],
        AObj.cells [AV.ptr 1 0], AObj.cells [AV.fn 270 [AV.ptr 2 0]],
        AObj.cells [AV.fn 271 [AV.ptr 2 0]],
        AObj.cells [AV.fn 272 [AV.ptr 3 0, AV.ptr 2 0, AV.ptr 4 0]],
        AObj.cells [AV.str (Prod.fst x_1), AV.sl 2 (Seq.map T.encR ((0 : Int), []) (Prod.fst x_2)) Tip.none]]))) →
    ASpec Try.prog 181 [AV.sl 1 (Seq.map encB (0 : UInt8) bs) Tip.none] [] Post := fun bs Post h => Go.Ab.ASpec.of_vc g181 Go.Proofs.Try.func181 (by kernel_rfl) (by kernel_rfl) (by kernel_rfl) (Go.Ab.kc (by kernel_rfl) h)

-- 326
noncomputable def l326 : Nat → List Nat
  | 4 => [0, 3, 4, 5]
  | 9 => [0, 3, 4, 5, 6, 7, 8]
  | _ => []
noncomputable def u326 : Nat → Bool
  | _ => false
noncomputable def m326 : Nat → Bool
  | _ => false
noncomputable def g326 : Cfg := { N := 47, live := l326, cut := u326, mu := m326, ret := rets }
noncomputable def c326 : Go.Code := Go.Ab.bodyOf Go.Proofs.Try.f326
noncomputable def q326_0 : Nat → (AV → List AObj → Prop) → AQ := fun (n : Nat) (Post : AV → List AObj → Prop) => endQ Try.prog (resultsOf Try.f326) Post
noncomputable def q326_1 : Nat → (AV → List AObj → Prop) → AQ := fun (n : Nat) (Post : AV → List AObj → Prop) => seqQ (fun (s' : Slots) (H' : List AObj) => awp Try.prog g326 n (codeSnd (codeSnd (codeSnd (codeSnd c326)))) s' H' (q326_0 n Post)) (q326_0 n Post)
noncomputable def q326_2 : Nat → (AV → List AObj → Prop) → AQ := fun (n : Nat) (Post : AV → List AObj → Prop) => blockQ 0 (q326_1 n Post)
noncomputable def c326_4 : Go.Code := codeFst (codeSnd (codeFst (codeSnd (codeSnd (codeSnd c326)))))
theorem s326 : ∀ (s : ByteArray) (e : Int) (Post : AV → List AObj → Prop),
  (ASpec Try.prog 147 [AV.ptr 0 0, AV.int IntKind.i64 (6 : Int)] [AObj.cells [AV.str s, AV.int IntKind.i64 e]] fun (r : AV) (H' : List AObj) =>
      ∃ (x : Int × ByteArray × Int),
        r = AV.int IntKind.i64 (Prod.fst x) ∧
        H' = [AObj.cells [AV.str (Prod.fst (Prod.snd x)), AV.int IntKind.i64 (Prod.snd (Prod.snd x))]] ∧
        AWP Try.prog 47 1 c326_4
        [(0, AV.ptr 0 0), (3, AV.sl 0 (Seq.raw []) Tip.nil), (4, AV.int IntKind.i64 (Prod.fst x)), (5, AV.int IntKind.i64 (0 : Int))]
        [AObj.cells [AV.str (Prod.fst (Prod.snd x)), AV.int IntKind.i64 (Prod.snd (Prod.snd x))]] (q326_2 1 Post)) →
    ASpec Try.prog 326 [AV.ptr 0 0] [AObj.cells [AV.str s, AV.int IntKind.i64 e]] Post := fun s e Post h => Go.Ab.ASpec.of_vc g326 Go.Proofs.Try.func326 (by kernel_rfl) (by kernel_rfl) (by kernel_rfl) (Go.Ab.kc (by kernel_rfl) h)
noncomputable def q326_3 : Nat → (AV → List AObj → Prop) → AQ := fun (n : Nat) (Post : AV → List AObj → Prop) => loopQ Try.prog 47 n c326_4 (q326_2 n Post) (Cfg.live g326)
noncomputable def q326_4 : Nat → (AV → List AObj → Prop) → AQ := fun (n : Nat) (Post : AV → List AObj → Prop) => seqQ (fun (s' : Slots) (H' : List AObj) => awp Try.prog g326 n (codeSnd (codeSnd (codeFst c326_4))) s' H' (q326_3 n Post)) (q326_3 n Post)
noncomputable def q326_5 : Nat → (AV → List AObj → Prop) → AQ := fun (n : Nat) (Post : AV → List AObj → Prop) => blockQ 1 (q326_4 n Post)
noncomputable def q326_6 : Nat → (AV → List AObj → Prop) → AQ := fun (n : Nat) (Post : AV → List AObj → Prop) => seqQ (fun (s' : Slots) (H' : List AObj) => awp Try.prog g326 n (codeSnd (codeSnd (codeSnd (codeFst (codeFst (codeSnd (codeFst c326_4))))))) s' H' (q326_5 n Post)) (q326_5 n Post)
noncomputable def q326_7 : Nat → (AV → List AObj → Prop) → AQ := fun (n : Nat) (Post : AV → List AObj → Prop) => blockQ 2 (q326_6 n Post)
noncomputable def c326_9 : Go.Code := codeFst (codeSnd (codeFst (codeSnd (codeSnd (codeFst (codeFst (codeSnd (codeFst c326_4))))))))
theorem v326_4 : ∀ (s : ByteArray) (e : Int) (acc : List T.Need) (n i : Int) (n_1 : Nat) (Post : AV → List AObj → Prop),
  condP (decide (i < n))
      (ASpec Try.prog 148 [AV.ptr 0 0, AV.int IntKind.i64 (24 : Int)] [AObj.cells [AV.str s, AV.int IntKind.i64 e], AObj.tok] fun (r : AV) (H' : List AObj) =>
        ∃ (x : ByteArray × ByteArray × Int),
        r = AV.str (Prod.fst x) ∧
        H' = [AObj.cells [AV.str (Prod.fst (Prod.snd x)), AV.int IntKind.i64 (Prod.snd (Prod.snd x))], AObj.tok] ∧
        ASpec Try.prog 147 [AV.ptr 0 0, AV.int IntKind.i64 (6 : Int)]
        [AObj.cells [AV.str (Prod.fst (Prod.snd x)), AV.int IntKind.i64 (Prod.snd (Prod.snd x))], AObj.tok, AObj.cells [AV.str (Prod.fst x), AV.sl 0 (Seq.raw []) Tip.nil]]
        fun (r : AV) (H' : List AObj) =>
        ∃ (x_1 : Int × ByteArray × Int),
        r = AV.int IntKind.i64 (Prod.fst x_1) ∧
        H' =
        [AObj.cells [AV.str (Prod.fst (Prod.snd x_1)), AV.int IntKind.i64 (Prod.snd (Prod.snd x_1))], AObj.tok,
        AObj.cells [AV.str (Prod.fst x), AV.sl 0 (Seq.raw []) Tip.nil]] ∧
        AWP Try.prog 47 n_1 c326_9
        [(0, AV.ptr 0 0), (3, AV.sl 2 (Seq.map T.encN ([], []) acc) (Tip.tok 1)), (4, AV.int IntKind.i64 n),
        (5, AV.int IntKind.i64 i), (6, AV.ptr 2 0), (7, AV.int IntKind.i64 (Prod.fst x_1)), (8, AV.int IntKind.i64 (0 : Int))]
        [AObj.cells [AV.str (Prod.fst (Prod.snd x_1)), AV.int IntKind.i64 (Prod.snd (Prod.snd x_1))], AObj.tok, AObj.cells [AV.str (Prod.fst x), AV.sl 0 (Seq.raw []) Tip.nil]]
        (q326_7 n_1 Post))
      (Post (AV.sl 2 (Seq.map T.encN ([], []) acc) (Tip.tok 1)) [AObj.cells [AV.str s, AV.int IntKind.i64 e], AObj.tok]) →
    AWP Try.prog 47 n_1 c326_4
      [(0, AV.ptr 0 0), (3, AV.sl 2 (Seq.map T.encN ([], []) acc) (Tip.tok 1)), (4, AV.int IntKind.i64 n), (5, AV.int IntKind.i64 i)]
      [AObj.cells [AV.str s, AV.int IntKind.i64 e], AObj.tok] (q326_2 n_1 Post) := fun s e acc n i n Post h => Go.Ab.AWP.loop' g326 (Cfg.live g326) c326_4 (by kernel_rfl) (by kernel_rfl) (Go.Ab.kc (by kernel_rfl) h)
theorem v326_9 : ∀ (s : ByteArray) (e : Int) (acc : List T.Need) (n i : Int) (nm : ByteArray) (sp : List T.Span) (k j : Int) (n_1 : Nat) (Post : AV → List AObj → Prop),
  condP (decide (j < k))
      (ASpec Try.prog 147 [AV.ptr 0 0, AV.int IntKind.i64 (1000000000 : Int)]
        [AObj.cells [AV.str s, AV.int IntKind.i64 e], AObj.tok, AObj.cells [AV.str nm, AV.sl 2 (Seq.map T.encS ((0 : Int), (0 : Int)) sp) (Tip.tok 3)], AObj.tok]
        fun (r : AV) (H' : List AObj) =>
        ∃ (x : Int × ByteArray × Int),
        r = AV.int IntKind.i64 (Prod.fst x) ∧
        H' =
        [AObj.cells [AV.str (Prod.fst (Prod.snd x)), AV.int IntKind.i64 (Prod.snd (Prod.snd x))], AObj.tok,
        AObj.cells [AV.str nm, AV.sl 2 (Seq.map T.encS ((0 : Int), (0 : Int)) sp) (Tip.tok 3)], AObj.tok] ∧
        ASpec Try.prog 147 [AV.ptr 0 0, AV.int IntKind.i64 (1000000000 : Int)]
        [AObj.cells [AV.str (Prod.fst (Prod.snd x)), AV.int IntKind.i64 (Prod.snd (Prod.snd x))], AObj.tok,
        AObj.cells [AV.str nm, AV.sl 2 (Seq.map T.encS ((0 : Int), (0 : Int)) sp) (Tip.tok 3)], AObj.tok]
        fun (r : AV) (H' : List AObj) =>
        ∃ (x_1 : Int × ByteArray × Int),
        r = AV.int IntKind.i64 (Prod.fst x_1) ∧
        H' =
        [AObj.cells [AV.str (Prod.fst (Prod.snd x_1)), AV.int IntKind.i64 (Prod.snd (Prod.snd x_1))], AObj.tok,
        AObj.cells [AV.str nm, AV.sl 2 (Seq.map T.encS ((0 : Int), (0 : Int)) sp) (Tip.tok 3)], AObj.tok] ∧
        needP ((List.length sp + 1) * 16 ≤ 140737488351232)
        (AWP Try.prog 47 n_1 c326_9
        [(0, AV.ptr 0 0), (3, AV.sl 2 (Seq.map T.encN ([], []) acc) (Tip.tok 1)), (4, AV.int IntKind.i64 n),
        (5, AV.int IntKind.i64 i), (6, AV.ptr 2 0), (7, AV.int IntKind.i64 k),
        (8, AV.int IntKind.i64 (IntKind.wrap IntKind.i64 (j + (1 : Int))))]
        [AObj.cells [AV.str (Prod.fst (Prod.snd x_1)), AV.int IntKind.i64 (Prod.snd (Prod.snd x_1))], AObj.tok,
        AObj.cells
        [AV.str nm,
        AV.sl 2
        (Seq.app (Seq.map T.encS ((0 : Int), (0 : Int)) sp)
        (Seq.raw [[AV.int IntKind.i64 (Prod.fst x), AV.int IntKind.i64 (IntKind.wrap IntKind.i64 (Prod.fst x + Prod.fst x_1))]]))
        (Tip.tok 4)],
        AObj.gone, AObj.tok]
        (q326_7 n_1 Post)))
      (needP ((List.length acc + 1) * 40 ≤ 140737488351232)
        (AWP Try.prog 47 n_1 c326_4
        [(0, AV.ptr 0 0),
        (3,
        AV.sl 2 (Seq.app (Seq.map T.encN ([], []) acc) (Seq.raw [[AV.str nm, AV.sl 2 (Seq.map T.encS ((0 : Int), (0 : Int)) sp) (Tip.tok 3)]])) (Tip.tok 4)),
        (4, AV.int IntKind.i64 n), (5, AV.int IntKind.i64 (IntKind.wrap IntKind.i64 (i + (1 : Int))))]
        [AObj.cells [AV.str s, AV.int IntKind.i64 e], AObj.gone, AObj.cells [AV.str nm, AV.sl 2 (Seq.map T.encS ((0 : Int), (0 : Int)) sp) (Tip.tok 3)], AObj.tok, AObj.tok]
        (q326_2 n_1 Post))) →
    AWP Try.prog 47 n_1 c326_9
      [(0, AV.ptr 0 0), (3, AV.sl 2 (Seq.map T.encN ([], []) acc) (Tip.tok 1)), (4, AV.int IntKind.i64 n), (5, AV.int IntKind.i64 i),
        (6, AV.ptr 2 0), (7, AV.int IntKind.i64 k), (8, AV.int IntKind.i64 j)]
      [AObj.cells [AV.str s, AV.int IntKind.i64 e], AObj.tok, AObj.cells [AV.str nm, AV.sl 2 (Seq.map T.encS ((0 : Int), (0 : Int)) sp) (Tip.tok 3)], AObj.tok] (q326_7 n_1 Post) := fun s e acc n i nm sp k j n Post h => Go.Ab.AWP.loop' g326 (Cfg.live g326) c326_9 (by kernel_rfl) (by kernel_rfl) (Go.Ab.kc (by kernel_rfl) h)

-- 277
noncomputable def l277 : Nat → List Nat
  | 7 => [2, 4, 5, 6, 7]
  | _ => []
noncomputable def u277 : Nat → Bool
  | _ => false
noncomputable def m277 : Nat → Bool
  | _ => false
noncomputable def g277 : Cfg := { N := 53, live := l277, cut := u277, mu := m277, ret := rets }
noncomputable def c277 : Go.Code := Go.Ab.bodyOf Go.Proofs.Try.f277
noncomputable def q277_0 : Nat → (AV → List AObj → Prop) → AQ := fun (n : Nat) (Post : AV → List AObj → Prop) => endQ Try.prog (resultsOf Try.f277) Post
noncomputable def q277_1 : Nat → (AV → List AObj → Prop) → AQ := fun (n : Nat) (Post : AV → List AObj → Prop) => seqQ (fun (s' : Slots) (H' : List AObj) => awp Try.prog g277 n (codeSnd (codeSnd (codeSnd (codeSnd (codeSnd (codeSnd c277)))))) s' H' (q277_0 n Post)) (q277_0 n Post)
noncomputable def q277_2 : Nat → (AV → List AObj → Prop) → AQ := fun (n : Nat) (Post : AV → List AObj → Prop) => blockQ 0 (q277_1 n Post)
noncomputable def c277_7 : Go.Code := codeFst (codeSnd (codeFst (codeSnd (codeSnd (codeSnd (codeSnd (codeSnd c277)))))))
theorem s277 : ∀ (s : ByteArray) (Post : AV → List AObj → Prop),
  condP (decide ((↑(ByteArray.size s) : Int) > (8192 : Int)))
      (Post (AV.tup [AV.agg [AV.str { data := #[] }, AV.sl 0 (Seq.raw []) Tip.nil], AV.int IntKind.i64 (4 : Int)]) [AObj.cells [AV.str { data := #[] }, AV.sl 0 (Seq.raw []) Tip.nil]])
      (ASpec Try.prog 148 [AV.ptr 1 0, AV.int IntKind.i64 (24 : Int)]
        [AObj.cells [AV.str { data := #[] }, AV.sl 0 (Seq.raw []) Tip.nil], AObj.cells [AV.str s, AV.int IntKind.i64 (0 : Int)]] fun (r : AV) (H' : List AObj) =>
        ∃ (x : ByteArray × ByteArray × Int),
        r = AV.str (Prod.fst x) ∧
        H' = [AObj.cells [AV.str { data := #[] }, AV.sl 0 (Seq.raw []) Tip.nil], AObj.cells [AV.str (Prod.fst (Prod.snd x)), AV.int IntKind.i64 (Prod.snd (Prod.snd x))]] ∧
        ASpec Try.prog 147 [AV.ptr 1 0, AV.int IntKind.i64 (8 : Int)]
        [AObj.cells [AV.str { data := #[] }, AV.sl 0 (Seq.raw []) Tip.nil], AObj.cells [AV.str (Prod.fst (Prod.snd x)), AV.int IntKind.i64 (Prod.snd (Prod.snd x))],
        AObj.cells [AV.str (Prod.fst x), AV.sl 0 (Seq.raw []) Tip.nil]]
        fun (r : AV) (H' : List AObj) =>
        ∃ (x_1 : Int × ByteArray × Int),
        r = AV.int IntKind.i64 (Prod.fst x_1) ∧
        H' =
        [AObj.cells [AV.str { data := #[] }, AV.sl 0 (Seq.raw []) Tip.nil], AObj.cells [AV.str (Prod.fst (Prod.snd x_1)), AV.int IntKind.i64 (Prod.snd (Prod.snd x_1))],
        AObj.cells [AV.str (Prod.fst x), AV.sl 0 (Seq.raw []) Tip.nil]] ∧
        AWP Try.prog 53 0 c277_7
        [(2, AV.ptr 0 0), (4, AV.ptr 1 0), (5, AV.ptr 2 0), (6, AV.int IntKind.i64 (Prod.fst x_1)),
        (7, AV.int IntKind.i64 (0 : Int))]
        [AObj.cells [AV.str { data := #[] }, AV.sl 0 (Seq.raw []) Tip.nil], AObj.cells [AV.str (Prod.fst (Prod.snd x_1)), AV.int IntKind.i64 (Prod.snd (Prod.snd x_1))],
        AObj.cells [AV.str (Prod.fst x), AV.sl 0 (Seq.raw []) Tip.nil]]
        (q277_2 0 Post)) →
    ASpec Try.prog 277 [AV.str s] [] Post := fun s Post h => Go.Ab.ASpec.of_vc g277 Go.Proofs.Try.func277 (by kernel_rfl) (by kernel_rfl) (by kernel_rfl) (Go.Ab.kc (by kernel_rfl) h)
theorem v277_7 : ∀ (s : ByteArray) (e : Int) (nm : ByteArray) (acc : List T.Rel) (n i : Int) (n_1 : Nat) (Post : AV → List AObj → Prop),
  condP (decide (i < n))
      (ASpec Try.prog 147 [AV.ptr 1 0, AV.int IntKind.i64 (1000000000 : Int)]
        [AObj.cells [AV.str { data := #[] }, AV.sl 0 (Seq.raw []) Tip.nil], AObj.cells [AV.str s, AV.int IntKind.i64 e],
        AObj.cells [AV.str nm, AV.sl 2 (Seq.map T.encR ((0 : Int), []) acc) (Tip.tok 3)], AObj.tok]
        fun (r : AV) (H' : List AObj) =>
        ∃ (x : Int × ByteArray × Int),
        r = AV.int IntKind.i64 (Prod.fst x) ∧
        H' =
        [AObj.cells [AV.str { data := #[] }, AV.sl 0 (Seq.raw []) Tip.nil], AObj.cells [AV.str (Prod.fst (Prod.snd x)), AV.int IntKind.i64 (Prod.snd (Prod.snd x))],
        AObj.cells [AV.str nm, AV.sl 2 (Seq.map T.encR ((0 : Int), []) acc) (Tip.tok 3)], AObj.tok] ∧
        ASpec Try.prog 326 [AV.ptr 1 0]
        [AObj.cells [AV.str { data := #[] }, AV.sl 0 (Seq.raw []) Tip.nil], AObj.cells [AV.str (Prod.fst (Prod.snd x)), AV.int IntKind.i64 (Prod.snd (Prod.snd x))],
        AObj.cells [AV.str nm, AV.sl 2 (Seq.map T.encR ((0 : Int), []) acc) (Tip.tok 3)], AObj.tok,
        AObj.cells [AV.int IntKind.i64 (Prod.fst x), AV.sl 0 (Seq.raw []) Tip.nil]]
        fun (r : AV) (H' : List AObj) =>
        ∃ (x_1 : List T.Need × ByteArray × Int),
        r = AV.sl 2 (Seq.map T.encN ([], []) (Prod.fst x_1)) Tip.none ∧
        H' =
        [AObj.cells [AV.str { data := #[] }, AV.sl 0 (Seq.raw []) Tip.nil], AObj.cells [AV.str (Prod.fst (Prod.snd x_1)), AV.int IntKind.i64 (Prod.snd (Prod.snd x_1))],
        AObj.cells [AV.str nm, AV.sl 2 (Seq.map T.encR ((0 : Int), []) acc) (Tip.tok 3)], AObj.tok,
        AObj.cells [AV.int IntKind.i64 (Prod.fst x), AV.sl 0 (Seq.raw []) Tip.nil]] ∧
        needP ((List.length acc + 1) * 32 ≤ 140737488351232)
        (AWP Try.prog 53 n_1 c277_7
        [(2, AV.ptr 0 0), (4, AV.ptr 1 0), (5, AV.ptr 2 0), (6, AV.int IntKind.i64 n),
        (7, AV.int IntKind.i64 (IntKind.wrap IntKind.i64 (i + (1 : Int))))]
        [AObj.cells [AV.str { data := #[] }, AV.sl 0 (Seq.raw []) Tip.nil], AObj.cells [AV.str (Prod.fst (Prod.snd x_1)), AV.int IntKind.i64 (Prod.snd (Prod.snd x_1))],
        AObj.cells
        [AV.str nm,
        AV.sl 2
        (Seq.app (Seq.map T.encR ((0 : Int), []) acc) (Seq.raw [[AV.int IntKind.i64 (Prod.fst x), AV.sl 2 (Seq.map T.encN ([], []) (Prod.fst x_1)) Tip.none]]))
        (Tip.tok 5)],
        AObj.gone, AObj.cells [AV.int IntKind.i64 (Prod.fst x), AV.sl 2 (Seq.map T.encN ([], []) (Prod.fst x_1)) Tip.none], AObj.tok]
        (q277_2 n_1 Post)))
      (ASpec Try.prog 149 [AV.ptr 1 0]
        [AObj.cells [AV.str { data := #[] }, AV.sl 0 (Seq.raw []) Tip.nil], AObj.cells [AV.str s, AV.int IntKind.i64 e],
        AObj.cells [AV.str nm, AV.sl 2 (Seq.map T.encR ((0 : Int), []) acc) (Tip.tok 3)], AObj.tok]
        fun (r : AV) (H' : List AObj) =>
        ∃ (x : Int),
        r = AV.int IntKind.i64 x ∧
        H' =
        [AObj.cells [AV.str { data := #[] }, AV.sl 0 (Seq.raw []) Tip.nil], AObj.cells [AV.str s, AV.int IntKind.i64 e],
        AObj.cells [AV.str nm, AV.sl 2 (Seq.map T.encR ((0 : Int), []) acc) (Tip.tok 3)], AObj.tok] ∧
        condP (x == (0 : Int))
        (ASpec Try.prog 186 [AV.agg [AV.str nm, AV.sl 2 (Seq.map T.encR ((0 : Int), []) acc) (Tip.tok 3)]]
        [AObj.cells [AV.str { data := #[] }, AV.sl 0 (Seq.raw []) Tip.nil], AObj.cells [AV.str s, AV.int IntKind.i64 e],
        AObj.cells [AV.str nm, AV.sl 2 (Seq.map T.encR ((0 : Int), []) acc) (Tip.tok 3)], AObj.tok]
        fun (r : AV) (H' : List AObj) =>
        ∃ (x_1 : Bool),
        r = AV.bool x_1 ∧
        H' =
        [AObj.cells [AV.str { data := #[] }, AV.sl 0 (Seq.raw []) Tip.nil], AObj.cells [AV.str s, AV.int IntKind.i64 e],
        AObj.cells [AV.str nm, AV.sl 2 (Seq.map T.encR ((0 : Int), []) acc) (Tip.tok 3)], AObj.tok] ∧
        condP (!x_1)
        (Post (AV.tup [AV.agg [AV.str { data := #[] }, AV.sl 0 (Seq.raw []) Tip.nil], AV.int IntKind.i64 (3 : Int)])
        [AObj.cells [AV.str { data := #[] }, AV.sl 0 (Seq.raw []) Tip.nil], AObj.cells [AV.str s, AV.int IntKind.i64 e],
        AObj.cells [AV.str nm, AV.sl 2 (Seq.map T.encR ((0 : Int), []) acc) (Tip.tok 3)], AObj.tok])
        (condP (x != (0 : Int))
        (Post (AV.tup [AV.agg [AV.str { data := #[] }, AV.sl 0 (Seq.raw []) Tip.nil], AV.int IntKind.i64 x])
        [AObj.cells [AV.str { data := #[] }, AV.sl 0 (Seq.raw []) Tip.nil], AObj.cells [AV.str s, AV.int IntKind.i64 e],
        AObj.cells [AV.str nm, AV.sl 2 (Seq.map T.encR ((0 : Int), []) acc) (Tip.tok 3)], AObj.tok])
        (Post (AV.tup [AV.agg [AV.str nm, AV.sl 2 (Seq.map T.encR ((0 : Int), []) acc) (Tip.tok 3)], AV.int IntKind.i64 (0 : Int)])
        [AObj.cells [AV.str nm, AV.sl 2 (Seq.map T.encR ((0 : Int), []) acc) (Tip.tok 3)], AObj.cells [AV.str s, AV.int IntKind.i64 e],
        AObj.cells [AV.str nm, AV.sl 2 (Seq.map T.encR ((0 : Int), []) acc) (Tip.tok 3)], AObj.tok])))
        (condP (x != (0 : Int))
        (Post (AV.tup [AV.agg [AV.str { data := #[] }, AV.sl 0 (Seq.raw []) Tip.nil], AV.int IntKind.i64 x])
        [AObj.cells [AV.str { data := #[] }, AV.sl 0 (Seq.raw []) Tip.nil], AObj.cells [AV.str s, AV.int IntKind.i64 e],
        AObj.cells [AV.str nm, AV.sl 2 (Seq.map T.encR ((0 : Int), []) acc) (Tip.tok 3)], AObj.tok])
        (Post (AV.tup [AV.agg [AV.str nm, AV.sl 2 (Seq.map T.encR ((0 : Int), []) acc) (Tip.tok 3)], AV.int IntKind.i64 (0 : Int)])
        [AObj.cells [AV.str nm, AV.sl 2 (Seq.map T.encR ((0 : Int), []) acc) (Tip.tok 3)], AObj.cells [AV.str s, AV.int IntKind.i64 e],
        AObj.cells [AV.str nm, AV.sl 2 (Seq.map T.encR ((0 : Int), []) acc) (Tip.tok 3)], AObj.tok]))) →
    AWP Try.prog 53 n_1 c277_7
      [(2, AV.ptr 0 0), (4, AV.ptr 1 0), (5, AV.ptr 2 0), (6, AV.int IntKind.i64 n), (7, AV.int IntKind.i64 i)]
      [AObj.cells [AV.str { data := #[] }, AV.sl 0 (Seq.raw []) Tip.nil], AObj.cells [AV.str s, AV.int IntKind.i64 e],
        AObj.cells [AV.str nm, AV.sl 2 (Seq.map T.encR ((0 : Int), []) acc) (Tip.tok 3)], AObj.tok]
      (q277_2 n_1 Post) := fun s e nm acc n i n Post h => Go.Ab.AWP.loop' g277 (Cfg.live g277) c277_7 (by kernel_rfl) (by kernel_rfl) (Go.Ab.kc (by kernel_rfl) h)

end
end W
end

section
/- Printed: what the code of functions 373, 324, 393, 372, 323, 263, 170, 253, 165, 154, 322, 261, 164, 39, 262, 325, 45 asks for, by the framework's own reading of it; each line is checked against the code. -/

set_option linter.unusedVariables false
set_option maxRecDepth 100000
set_option maxHeartbeats 4000000
open Go Go.Ab Go.Proofs
namespace S
noncomputable section

noncomputable def retS : List (Nat × Ret) := [
  (9032, ⟨Unit, fun _ _ _ => .bool true, fun _ H _ => H⟩),
  (9033, ⟨ByteArray × List UInt8 × Int, fun _ _ x => .tup [.str x.1, .sl 1 (.map encB 0 x.2.1) .none, .int .i64 x.2.2], fun _ H _ => H⟩),
  (45, ⟨ByteArray × ByteArray × Int, fun _ _ x => .tup [.str x.1, .str x.2.1, .int .i64 x.2.2], fun _ H _ => H⟩),
  (262, ⟨List UInt8, fun _ _ x => .sl 1 (.map encB 0 x) .none, fun _ H _ => H⟩),
  (325, ⟨ByteArray, fun _ _ x => .str x, fun _ H _ => H⟩),
  (39, ⟨Bool, fun _ _ x => .bool x, fun _ H _ => H⟩),
  (9090, ⟨List UInt8 × Bool, fun _ _ x => .tup [.sl 1 (.map encB 0 x.1) .none, .bool x.2], fun _ H _ => H⟩),
  (154, ⟨Bool, fun _ _ x => .bool x, fun _ H _ => H⟩),
  (170, ⟨ByteArray × Bool, fun _ _ x => .tup [.str x.1, .bool x.2], fun _ H _ => H⟩),
  (323, ⟨List UInt8, fun _ _ x => .sl 1 (.map encB 0 x) .none, fun _ H _ => H⟩),
  (263, ⟨ByteArray, fun _ _ x => .str x, fun _ H _ => H⟩),
  (164, ⟨List Int, fun _ _ x => .sl 1 (.map encI 0 x) .none, fun _ H _ => H⟩),
  (165, ⟨Int, fun _ _ x => .int .i64 x, fun _ H _ => H⟩),
  (372, ⟨Int, fun _ _ x => .int .u32 x, fun _ H _ => H⟩),
  (253, ⟨Int, fun _ _ x => .int .i64 x, fun _ H _ => H⟩),
  (324, ⟨Int, fun _ _ x => .int .i64 x, fun _ H _ => H⟩),
  (261, ⟨Int × Int, fun _ _ x => .tup [.int .i64 x.1, .int .i64 x.2], fun _ H _ => H⟩),
  (393, ⟨Int, fun _ _ x => .int .u32 x, fun _ H _ => H⟩),
  (373, ⟨Int, fun _ _ x => .int .i64 x, fun _ H _ => H⟩),
  (322, ⟨Int, fun _ _ x => .int .i64 x, fun _ H _ => H⟩)]
noncomputable def rets : FuncId → List Ret := lookupR (retS ++ V.retL)

-- 373
noncomputable def l373 : Nat → List Nat
  | 3 => [0, 1, 5, 6]
  | 6 => [0, 1, 5, 6]
  | _ => []
noncomputable def u373 : Nat → Bool
  | 6 => true
  | _ => false
noncomputable def m373 : Nat → Bool
  | _ => false
noncomputable def g373 : Cfg := { N := 24, live := l373, cut := u373, mu := m373, ret := rets }
noncomputable def c373 : Go.Code := Go.Ab.bodyOf Go.Proofs.Try.f373
noncomputable def q373_0 : Nat → (AV → List AObj → Prop) → AQ := fun (n : Nat) (Post : AV → List AObj → Prop) => endQ Try.prog (resultsOf Try.f373) Post
noncomputable def q373_1 : Nat → (AV → List AObj → Prop) → AQ := fun (n : Nat) (Post : AV → List AObj → Prop) => seqQ (fun (s' : Slots) (H' : List AObj) => awp Try.prog g373 n (codeSnd (codeSnd (codeSnd (codeSnd c373)))) s' H' (q373_0 n Post)) (q373_0 n Post)
noncomputable def q373_2 : Nat → (AV → List AObj → Prop) → AQ := fun (n : Nat) (Post : AV → List AObj → Prop) => blockQ 0 (q373_1 n Post)
noncomputable def c373_3 : Go.Code := codeFst (codeFst (codeSnd (codeSnd (codeSnd c373))))
theorem s373 : ∀ (a b : Int) (Post : AV → List AObj → Prop),
  AWP Try.prog 24 0 c373_3 [(0, AV.int IntKind.i64 a), (1, AV.int IntKind.i64 b), (5, AV.int IntKind.i64 (0 : Int)), (6, AV.int IntKind.i64 (1 : Int))]
      [] (q373_2 0 Post) →
    ASpec Try.prog 373 [AV.int IntKind.i64 a, AV.int IntKind.i64 b] [] Post := fun a b Post h => Go.Ab.ASpec.of_vc g373 Go.Proofs.Try.func373 (by kernel_rfl) (by kernel_rfl) (by kernel_rfl) (Go.Ab.kc (by kernel_rfl) h)
noncomputable def q373_3 : Nat → (AV → List AObj → Prop) → AQ := fun (n : Nat) (Post : AV → List AObj → Prop) => loopQ Try.prog 24 n c373_3 (q373_2 n Post) (Cfg.live g373)
noncomputable def q373_4 : Nat → (AV → List AObj → Prop) → AQ := fun (n : Nat) (Post : AV → List AObj → Prop) => blockQ 1 (q373_3 n Post)
noncomputable def c373_6 : Go.Code := codeSnd (codeFst (codeSnd (codeFst c373_3)))
theorem v373_3 : ∀ (a b n w : Int) (n_1 : Nat) (Post : AV → List AObj → Prop),
  condP (decide (w < (256 : Int)))
      (needP ((2 : Int) ≠ (0 : Int))
        (needP ((2 : Int) ≠ (0 : Int))
        (condP (Int.tmod a (2 : Int) != Int.tmod b (2 : Int))
        (AWP Try.prog 24 n_1 c373_6
        [(0, AV.int IntKind.i64 a), (1, AV.int IntKind.i64 b), (5, AV.int IntKind.i64 (IntKind.wrap IntKind.i64 (n + w))), (6, AV.int IntKind.i64 w)] []
        (q373_4 n_1 Post))
        (AWP Try.prog 24 n_1 c373_6 [(0, AV.int IntKind.i64 a), (1, AV.int IntKind.i64 b), (5, AV.int IntKind.i64 n), (6, AV.int IntKind.i64 w)] []
        (q373_4 n_1 Post)))))
      (Post (AV.int IntKind.i64 n) []) →
    AWP Try.prog 24 n_1 c373_3 [(0, AV.int IntKind.i64 a), (1, AV.int IntKind.i64 b), (5, AV.int IntKind.i64 n), (6, AV.int IntKind.i64 w)] [] (q373_2 n_1 Post) := fun a b n w n Post h => Go.Ab.AWP.loop' g373 (Cfg.live g373) c373_3 (by kernel_rfl) (by kernel_rfl) (Go.Ab.kc (by kernel_rfl) h)
theorem v373_6 : ∀ (a b n w : Int) (n_1 : Nat) (Post : AV → List AObj → Prop),
  needP ((2 : Int) ≠ (0 : Int))
      (needP ((2 : Int) ≠ (0 : Int))
        (AWP Try.prog 24 n_1 c373_3
        [(0, AV.int IntKind.i64 (IntKind.wrap IntKind.i64 (Int.tdiv a (2 : Int)))), (1, AV.int IntKind.i64 (IntKind.wrap IntKind.i64 (Int.tdiv b (2 : Int)))),
        (5, AV.int IntKind.i64 n), (6, AV.int IntKind.i64 (IntKind.wrap IntKind.i64 (w * (2 : Int))))]
        [] (q373_2 n_1 Post))) →
    AWP Try.prog 24 n_1 c373_6 [(0, AV.int IntKind.i64 a), (1, AV.int IntKind.i64 b), (5, AV.int IntKind.i64 n), (6, AV.int IntKind.i64 w)] [] (q373_4 n_1 Post) := fun a b n w n Post h => Go.Ab.awp_sound g373 n _ _ _ _ (Go.Ab.kc (by kernel_rfl) h)

-- 324
noncomputable def l324 : Nat → List Nat
  | 3 => [0, 3, 4]
  | _ => []
noncomputable def u324 : Nat → Bool
  | _ => false
noncomputable def m324 : Nat → Bool
  | _ => false
noncomputable def g324 : Cfg := { N := 28, live := l324, cut := u324, mu := m324, ret := rets }
noncomputable def c324 : Go.Code := Go.Ab.bodyOf Go.Proofs.Try.f324
noncomputable def q324_0 : Nat → (AV → List AObj → Prop) → AQ := fun (n : Nat) (Post : AV → List AObj → Prop) => endQ Try.prog (resultsOf Try.f324) Post
noncomputable def q324_1 : Nat → (AV → List AObj → Prop) → AQ := fun (n : Nat) (Post : AV → List AObj → Prop) => seqQ (fun (s' : Slots) (H' : List AObj) => awp Try.prog g324 n (codeSnd (codeSnd (codeSnd c324))) s' H' (q324_0 n Post)) (q324_0 n Post)
noncomputable def q324_2 : Nat → (AV → List AObj → Prop) → AQ := fun (n : Nat) (Post : AV → List AObj → Prop) => blockQ 0 (q324_1 n Post)
noncomputable def c324_3 : Go.Code := codeFst (codeSnd (codeFst (codeSnd (codeSnd c324))))
theorem s324 : ∀ (s : ByteArray) (Post : AV → List AObj → Prop),
  AWP Try.prog 28 0 c324_3 [(0, AV.str s), (3, AV.int IntKind.i64 (2166136261 : Int)), (4, AV.int IntKind.i64 (0 : Int))] [] (q324_2 0 Post) →
    ASpec Try.prog 324 [AV.str s] [] Post := fun s Post h => Go.Ab.ASpec.of_vc g324 Go.Proofs.Try.func324 (by kernel_rfl) (by kernel_rfl) (by kernel_rfl) (Go.Ab.kc (by kernel_rfl) h)
theorem v324_3 : ∀ (s : ByteArray) (n i : Int) (n_1 : Nat) (Post : AV → List AObj → Prop),
  condP (decide (i < (↑(ByteArray.size s) : Int)))
      (needP ((256 : Int) ≠ (0 : Int))
        (needP ((0 : Int) ≤ i ∧ i < (↑(ByteArray.size s) : Int))
        (ASpec Try.prog 373
        [AV.int IntKind.i64 (Int.tmod n (256 : Int)), AV.int IntKind.i64 (IntKind.wrap IntKind.i64 (↑(UInt8.toNat (List.getD (Array.toList (ByteArray.data s)) (Int.toNat i) (0 : UInt8))) : Int))]
        [] fun (r : AV) (H' : List AObj) =>
        ∃ (x : Int),
        r = AV.int IntKind.i64 x ∧
        H' = [] ∧
        needP ((4294967296 : Int) ≠ (0 : Int))
        (AWP Try.prog 28 n_1 c324_3
        [(0, AV.str s),
        (3,
        AV.int IntKind.i64
        (Int.tmod (IntKind.wrap IntKind.i64 (IntKind.wrap IntKind.i64 (IntKind.wrap IntKind.i64 (n - Int.tmod n (256 : Int)) + x) * (16777619 : Int))) (4294967296 : Int))),
        (4, AV.int IntKind.i64 (IntKind.wrap IntKind.i64 (i + (1 : Int))))]
        [] (q324_2 n_1 Post)))))
      (Post (AV.int IntKind.i64 n) []) →
    AWP Try.prog 28 n_1 c324_3 [(0, AV.str s), (3, AV.int IntKind.i64 n), (4, AV.int IntKind.i64 i)] [] (q324_2 n_1 Post) := fun s n i n Post h => Go.Ab.AWP.loop' g324 (Cfg.live g324) c324_3 (by kernel_rfl) (by kernel_rfl) (Go.Ab.kc (by kernel_rfl) h)

-- 393
noncomputable def l393 : Nat → List Nat
  | 2 => [0, 7, 8, 9]
  | _ => []
noncomputable def u393 : Nat → Bool
  | _ => false
noncomputable def m393 : Nat → Bool
  | _ => false
noncomputable def g393 : Cfg := { N := 20, live := l393, cut := u393, mu := m393, ret := rets }
noncomputable def c393 : Go.Code := Go.Ab.bodyOf Go.Proofs.Try.f393
noncomputable def q393_0 : Nat → (AV → List AObj → Prop) → AQ := fun (n : Nat) (Post : AV → List AObj → Prop) => endQ Try.prog (resultsOf Try.f393) Post
noncomputable def q393_1 : Nat → (AV → List AObj → Prop) → AQ := fun (n : Nat) (Post : AV → List AObj → Prop) => seqQ (fun (s' : Slots) (H' : List AObj) => awp Try.prog g393 n (codeSnd (codeSnd c393)) s' H' (q393_0 n Post)) (q393_0 n Post)
noncomputable def q393_2 : Nat → (AV → List AObj → Prop) → AQ := fun (n : Nat) (Post : AV → List AObj → Prop) => blockQ 0 (q393_1 n Post)
noncomputable def c393_2 : Go.Code := codeFst (codeSnd (codeFst (codeSnd c393)))
theorem s393 : ∀ (x : Int) (bs : List UInt8) (Post : AV → List AObj → Prop),
  AWP Try.prog 20 0 c393_2
      [(0, AV.int IntKind.u32 x), (7, AV.sl 1 (Seq.map encB (0 : UInt8) bs) Tip.none), (8, AV.int IntKind.i64 (↑(List.length bs) : Int)),
        (9, AV.int IntKind.i64 (0 : Int))]
      [] (q393_2 0 Post) →
    ASpec Try.prog 393 [AV.int IntKind.u32 x, AV.sl 1 (Seq.map encB (0 : UInt8) bs) Tip.none] [] Post := fun x bs Post h => Go.Ab.ASpec.of_vc g393 Go.Proofs.Try.func393 (by kernel_rfl) (by kernel_rfl) (by kernel_rfl) (Go.Ab.kc (by kernel_rfl) h)
theorem v393_2 : ∀ (x : Int) (bs : List UInt8) (n i : Int) (n_1 : Nat) (Post : AV → List AObj → Prop),
  condP (decide (i < n))
      (needP ((0 : Int) ≤ i ∧ i < (↑(List.length bs) : Int))
        (AWP Try.prog 20 n_1 c393_2
        [(0,
        AV.int IntKind.u32
        (IntKind.wrap IntKind.u32
        (IntKind.wrap IntKind.u32
        (↑(BitVec.toNat (BitVec.ofInt 32 x ^^^ BitVec.ofInt 32 (IntKind.wrap IntKind.u32 (↑(UInt8.toNat (List.getD bs (Int.toNat i) (0 : UInt8))) : Int)))) : Int) *
        (16777619 : Int)))),
        (7, AV.sl 1 (Seq.map encB (0 : UInt8) bs) Tip.none), (8, AV.int IntKind.i64 n), (9, AV.int IntKind.i64 (IntKind.wrap IntKind.i64 (i + (1 : Int))))]
        [] (q393_2 n_1 Post)))
      (Post (AV.int IntKind.u32 x) []) →
    AWP Try.prog 20 n_1 c393_2
      [(0, AV.int IntKind.u32 x), (7, AV.sl 1 (Seq.map encB (0 : UInt8) bs) Tip.none), (8, AV.int IntKind.i64 n), (9, AV.int IntKind.i64 i)] []
      (q393_2 n_1 Post) := fun x bs n i n Post h => Go.Ab.AWP.loop' g393 (Cfg.live g393) c393_2 (by kernel_rfl) (by kernel_rfl) (Go.Ab.kc (by kernel_rfl) h)

-- 372
noncomputable def l372 : Nat → List Nat
  | _ => []
noncomputable def u372 : Nat → Bool
  | _ => false
noncomputable def m372 : Nat → Bool
  | _ => false
noncomputable def g372 : Cfg := { N := 5, live := l372, cut := u372, mu := m372, ret := rets }
noncomputable def c372 : Go.Code := Go.Ab.bodyOf Go.Proofs.Try.f372
theorem s372 : ∀ (bs : List UInt8) (Post : AV → List AObj → Prop),
  (ASpec Try.prog 393 [AV.int IntKind.u32 (2166136261 : Int), AV.sl 1 (Seq.map encB (0 : UInt8) bs) Tip.none] [] fun (r : AV) (H' : List AObj) =>
      ∃ (x : Int), r = AV.int IntKind.u32 x ∧ H' = [] ∧ Post (AV.int IntKind.u32 x) []) →
    ASpec Try.prog 372 [AV.sl 1 (Seq.map encB (0 : UInt8) bs) Tip.none] [] Post := fun bs Post h => Go.Ab.ASpec.of_vc g372 Go.Proofs.Try.func372 (by kernel_rfl) (by kernel_rfl) (by kernel_rfl) (Go.Ab.kc (by kernel_rfl) h)

-- 323
noncomputable def l323 : Nat → List Nat
  | _ => []
noncomputable def u323 : Nat → Bool
  | _ => false
noncomputable def m323 : Nat → Bool
  | _ => false
noncomputable def g323 : Cfg := { N := 28, live := l323, cut := u323, mu := m323, ret := rets }
noncomputable def c323 : Go.Code := Go.Ab.bodyOf Go.Proofs.Try.f323
theorem s323 : ∀ (bs : List UInt8) (Post : AV → List AObj → Prop),
  (ASpec Try.prog 372 [AV.sl 1 (Seq.map encB (0 : UInt8) bs) Tip.none] [] fun (r : AV) (H' : List AObj) =>
      ∃ (x : Int),
        r = AV.int IntKind.u32 x ∧
        H' = [] ∧
        needP
        ((0 : Int) ≤ (0 : Int) ∧
        (0 : Int) ≤ IntKind.wrap IntKind.i64 ((↑(List.length bs) : Int) + (4 : Int)) ∧
        IntKind.wrap IntKind.i64 ((↑(List.length bs) : Int) + (4 : Int)) ≤ (9223372036854775807 : Int) ∧
        (1 : Int) * IntKind.wrap IntKind.i64 ((↑(List.length bs) : Int) + (4 : Int)) ≤ (281474976710656 : Int))
        (needP (∀ (x : UInt8), List.all (encB x) oneAV = true)
        (needP ((0 + List.length bs) * 1 ≤ 140737488351232)
        (needP ((0 : Int) ≤ (24 : Int))
        (needP ((0 : Int) ≤ (16 : Int))
        (needP ((0 : Int) ≤ (8 : Int))
        (needP ((0 + List.length bs + 4) * 1 ≤ 140737488351232)
        (Post
        (AV.sl 1
        (Seq.app (Seq.app (Seq.raw []) (Seq.map encB (0 : UInt8) bs))
        (Seq.raw
        [[AV.int IntKind.u8 (IntKind.wrap IntKind.u8 (Int.fdiv x (16777216 : Int)))], [AV.int IntKind.u8 (IntKind.wrap IntKind.u8 (Int.fdiv x (65536 : Int)))],
        [AV.int IntKind.u8 (IntKind.wrap IntKind.u8 (Int.fdiv x (256 : Int)))], [AV.int IntKind.u8 (IntKind.wrap IntKind.u8 x)]]))
        (Tip.tok 2))
        [AObj.gone, AObj.gone, AObj.tok])))))))) →
    ASpec Try.prog 323 [AV.sl 1 (Seq.map encB (0 : UInt8) bs) Tip.none] [] Post := fun bs Post h => Go.Ab.ASpec.of_vc g323 Go.Proofs.Try.func323 (by kernel_rfl) (by kernel_rfl) (by kernel_rfl) (Go.Ab.kc (by kernel_rfl) h)

-- 263
noncomputable def l263 : Nat → List Nat
  | _ => []
noncomputable def u263 : Nat → Bool
  | _ => false
noncomputable def m263 : Nat → Bool
  | _ => false
noncomputable def g263 : Cfg := { N := 24, live := l263, cut := u263, mu := m263, ret := rets }
noncomputable def c263 : Go.Code := Go.Ab.bodyOf Go.Proofs.Try.f263
theorem s263 : ∀ (s : ByteArray) (Post : AV → List AObj → Prop),
  (ASpec Try.prog 324 [AV.str s] [] fun (r : AV) (H' : List AObj) =>
      ∃ (x : Int),
        r = AV.int IntKind.i64 x ∧
        H' = [] ∧
        needP ((16777216 : Int) ≠ (0 : Int))
        (needP ((65536 : Int) ≠ (0 : Int))
        (needP ((256 : Int) ≠ (0 : Int))
        (needP ((256 : Int) ≠ (0 : Int))
        (needP ((256 : Int) ≠ (0 : Int))
        (needP ((256 : Int) ≠ (0 : Int))
        (needP
        (allBytes
        (Seq.raw
        [[AV.int IntKind.u8 (IntKind.wrap IntKind.u8 (IntKind.wrap IntKind.i64 (Int.tdiv x (16777216 : Int))))],
        [AV.int IntKind.u8 (IntKind.wrap IntKind.u8 (Int.tmod (IntKind.wrap IntKind.i64 (Int.tdiv x (65536 : Int))) (256 : Int)))],
        [AV.int IntKind.u8 (IntKind.wrap IntKind.u8 (Int.tmod (IntKind.wrap IntKind.i64 (Int.tdiv x (256 : Int))) (256 : Int)))],
        [AV.int IntKind.u8 (IntKind.wrap IntKind.u8 (Int.tmod x (256 : Int)))]]))
        (needP
        ((↑(ByteArray.size s +
        ByteArray.size
        (bytesOf
        (Seq.raw
        [[AV.int IntKind.u8 (IntKind.wrap IntKind.u8 (IntKind.wrap IntKind.i64 (Int.tdiv x (16777216 : Int))))],
        [AV.int IntKind.u8 (IntKind.wrap IntKind.u8 (Int.tmod (IntKind.wrap IntKind.i64 (Int.tdiv x (65536 : Int))) (256 : Int)))],
        [AV.int IntKind.u8 (IntKind.wrap IntKind.u8 (Int.tmod (IntKind.wrap IntKind.i64 (Int.tdiv x (256 : Int))) (256 : Int)))],
        [AV.int IntKind.u8 (IntKind.wrap IntKind.u8 (Int.tmod x (256 : Int)))]]))) :
        Int) ≤
        (9223372036854775807 : Int))
        (Post
        (AV.str
        (s ++
        bytesOf
        (Seq.raw
        [[AV.int IntKind.u8 (IntKind.wrap IntKind.u8 (IntKind.wrap IntKind.i64 (Int.tdiv x (16777216 : Int))))],
        [AV.int IntKind.u8 (IntKind.wrap IntKind.u8 (Int.tmod (IntKind.wrap IntKind.i64 (Int.tdiv x (65536 : Int))) (256 : Int)))],
        [AV.int IntKind.u8 (IntKind.wrap IntKind.u8 (Int.tmod (IntKind.wrap IntKind.i64 (Int.tdiv x (256 : Int))) (256 : Int)))],
        [AV.int IntKind.u8 (IntKind.wrap IntKind.u8 (Int.tmod x (256 : Int)))]])))
        []))))))))) →
    ASpec Try.prog 263 [AV.str s] [] Post := fun s Post h => Go.Ab.ASpec.of_vc g263 Go.Proofs.Try.func263 (by kernel_rfl) (by kernel_rfl) (by kernel_rfl) (Go.Ab.kc (by kernel_rfl) h)

-- 170
noncomputable def l170 : Nat → List Nat
  | _ => []
noncomputable def u170 : Nat → Bool
  | _ => false
noncomputable def m170 : Nat → Bool
  | _ => false
noncomputable def g170 : Cfg := { N := 21, live := l170, cut := u170, mu := m170, ret := rets }
noncomputable def c170 : Go.Code := Go.Ab.bodyOf Go.Proofs.Try.f170
theorem s170 : ∀ (s : ByteArray) (Post : AV → List AObj → Prop),
  condP (decide (IntKind.wrap IntKind.i64 ((↑(ByteArray.size s) : Int) - (4 : Int)) < (0 : Int))) (Post (AV.tup [AV.str { data := #[] }, AV.bool false]) [])
      (needP ((0 : Int) ≤ IntKind.wrap IntKind.i64 ((↑(ByteArray.size s) : Int) - (4 : Int)) ∧ IntKind.wrap IntKind.i64 ((↑(ByteArray.size s) : Int) - (4 : Int)) ≤ (↑(ByteArray.size s) : Int))
        (ASpec Try.prog 263 [AV.str (ByteArray.extract s 0 (Int.toNat (IntKind.wrap IntKind.i64 ((↑(ByteArray.size s) : Int) - (4 : Int)))))] [] fun (r : AV) (H' : List AObj) =>
        ∃ (x : ByteArray),
        r = AV.str x ∧
        H' = [] ∧
        condP (!ByteArray.toList x == ByteArray.toList s) (Post (AV.tup [AV.str { data := #[] }, AV.bool false]) [])
        (needP
        ((0 : Int) ≤ IntKind.wrap IntKind.i64 ((↑(ByteArray.size s) : Int) - (4 : Int)) ∧ IntKind.wrap IntKind.i64 ((↑(ByteArray.size s) : Int) - (4 : Int)) ≤ (↑(ByteArray.size s) : Int))
        (Post (AV.tup [AV.str (ByteArray.extract s 0 (Int.toNat (IntKind.wrap IntKind.i64 ((↑(ByteArray.size s) : Int) - (4 : Int))))), AV.bool true]) [])))) →
    ASpec Try.prog 170 [AV.str s] [] Post := fun s Post h => Go.Ab.ASpec.of_vc g170 Go.Proofs.Try.func170 (by kernel_rfl) (by kernel_rfl) (by kernel_rfl) (Go.Ab.kc (by kernel_rfl) h)

-- 253
noncomputable def l253 : Nat → List Nat
  | _ => []
noncomputable def u253 : Nat → Bool
  | _ => false
noncomputable def m253 : Nat → Bool
  | _ => false
noncomputable def g253 : Cfg := { N := 27, live := l253, cut := u253, mu := m253, ret := rets }
noncomputable def c253 : Go.Code := Go.Ab.bodyOf Go.Proofs.Try.f253
theorem s253 : ∀ (c : Int) (Post : AV → List AObj → Prop),
  condP (decide (c ≥ (97 : Int)))
      (condP (decide (c ≤ (122 : Int))) (Post (AV.int IntKind.i64 (0 : Int)) [])
        (condP (decide (c ≥ (945 : Int)))
        (condP (decide (c ≤ (969 : Int))) (Post (AV.int IntKind.i64 (1 : Int)) [])
        (condP (decide (c ≥ (48 : Int)))
        (condP (decide (c ≤ (57 : Int))) (Post (AV.int IntKind.i64 (2 : Int)) []) (condP (c == (45 : Int)) (Post (AV.int IntKind.i64 (3 : Int)) []) (Post (AV.int IntKind.i64 (4 : Int)) [])))
        (condP (c == (45 : Int)) (Post (AV.int IntKind.i64 (3 : Int)) []) (Post (AV.int IntKind.i64 (4 : Int)) []))))
        (condP (decide (c ≥ (48 : Int)))
        (condP (decide (c ≤ (57 : Int))) (Post (AV.int IntKind.i64 (2 : Int)) []) (condP (c == (45 : Int)) (Post (AV.int IntKind.i64 (3 : Int)) []) (Post (AV.int IntKind.i64 (4 : Int)) [])))
        (condP (c == (45 : Int)) (Post (AV.int IntKind.i64 (3 : Int)) []) (Post (AV.int IntKind.i64 (4 : Int)) [])))))
      (condP (decide (c ≥ (945 : Int)))
        (condP (decide (c ≤ (969 : Int))) (Post (AV.int IntKind.i64 (1 : Int)) [])
        (condP (decide (c ≥ (48 : Int)))
        (condP (decide (c ≤ (57 : Int))) (Post (AV.int IntKind.i64 (2 : Int)) []) (condP (c == (45 : Int)) (Post (AV.int IntKind.i64 (3 : Int)) []) (Post (AV.int IntKind.i64 (4 : Int)) [])))
        (condP (c == (45 : Int)) (Post (AV.int IntKind.i64 (3 : Int)) []) (Post (AV.int IntKind.i64 (4 : Int)) []))))
        (condP (decide (c ≥ (48 : Int)))
        (condP (decide (c ≤ (57 : Int))) (Post (AV.int IntKind.i64 (2 : Int)) []) (condP (c == (45 : Int)) (Post (AV.int IntKind.i64 (3 : Int)) []) (Post (AV.int IntKind.i64 (4 : Int)) [])))
        (condP (c == (45 : Int)) (Post (AV.int IntKind.i64 (3 : Int)) []) (Post (AV.int IntKind.i64 (4 : Int)) [])))) →
    ASpec Try.prog 253 [AV.int IntKind.i32 c] [] Post := fun c Post h => Go.Ab.ASpec.of_vc g253 Go.Proofs.Try.func253 (by kernel_rfl) (by kernel_rfl) (by kernel_rfl) (Go.Ab.kc (by kernel_rfl) h)

-- 165
noncomputable def l165 : Nat → List Nat
  | _ => []
noncomputable def u165 : Nat → Bool
  | _ => false
noncomputable def m165 : Nat → Bool
  | _ => false
noncomputable def g165 : Cfg := { N := 23, live := l165, cut := u165, mu := m165, ret := rets }
noncomputable def c165 : Go.Code := Go.Ab.bodyOf Go.Proofs.Try.f165
theorem s165 : ∀ (c : Int) (Post : AV → List AObj → Prop),
  condP (decide (c ≥ (97 : Int)))
      (condP (decide (c ≤ (122 : Int))) (Post (AV.int IntKind.i64 (0 : Int)) [])
        (condP (decide (c ≥ (945 : Int)))
        (condP (decide (c ≤ (969 : Int))) (Post (AV.int IntKind.i64 (1 : Int)) [])
        (condP (decide (c ≥ (48 : Int)))
        (condP (decide (c ≤ (57 : Int))) (Post (AV.int IntKind.i64 (2 : Int)) []) (condP (c == (45 : Int)) (Post (AV.int IntKind.i64 (3 : Int)) []) (Post (AV.int IntKind.i64 (4 : Int)) [])))
        (condP (c == (45 : Int)) (Post (AV.int IntKind.i64 (3 : Int)) []) (Post (AV.int IntKind.i64 (4 : Int)) []))))
        (condP (decide (c ≥ (48 : Int)))
        (condP (decide (c ≤ (57 : Int))) (Post (AV.int IntKind.i64 (2 : Int)) []) (condP (c == (45 : Int)) (Post (AV.int IntKind.i64 (3 : Int)) []) (Post (AV.int IntKind.i64 (4 : Int)) [])))
        (condP (c == (45 : Int)) (Post (AV.int IntKind.i64 (3 : Int)) []) (Post (AV.int IntKind.i64 (4 : Int)) [])))))
      (condP (decide (c ≥ (945 : Int)))
        (condP (decide (c ≤ (969 : Int))) (Post (AV.int IntKind.i64 (1 : Int)) [])
        (condP (decide (c ≥ (48 : Int)))
        (condP (decide (c ≤ (57 : Int))) (Post (AV.int IntKind.i64 (2 : Int)) []) (condP (c == (45 : Int)) (Post (AV.int IntKind.i64 (3 : Int)) []) (Post (AV.int IntKind.i64 (4 : Int)) [])))
        (condP (c == (45 : Int)) (Post (AV.int IntKind.i64 (3 : Int)) []) (Post (AV.int IntKind.i64 (4 : Int)) []))))
        (condP (decide (c ≥ (48 : Int)))
        (condP (decide (c ≤ (57 : Int))) (Post (AV.int IntKind.i64 (2 : Int)) []) (condP (c == (45 : Int)) (Post (AV.int IntKind.i64 (3 : Int)) []) (Post (AV.int IntKind.i64 (4 : Int)) [])))
        (condP (c == (45 : Int)) (Post (AV.int IntKind.i64 (3 : Int)) []) (Post (AV.int IntKind.i64 (4 : Int)) [])))) →
    ASpec Try.prog 165 [AV.int IntKind.i64 c] [] Post := fun c Post h => Go.Ab.ASpec.of_vc g165 Go.Proofs.Try.func165 (by kernel_rfl) (by kernel_rfl) (by kernel_rfl) (Go.Ab.kc (by kernel_rfl) h)

-- 154
noncomputable def l154 : Nat → List Nat
  | 3 => [3, 8]
  | _ => []
noncomputable def u154 : Nat → Bool
  | _ => false
noncomputable def m154 : Nat → Bool
  | _ => false
noncomputable def g154 : Cfg := { N := 32, live := l154, cut := u154, mu := m154, ret := rets }
noncomputable def c154 : Go.Code := Go.Ab.bodyOf Go.Proofs.Try.f154
noncomputable def q154_0 : Nat → (AV → List AObj → Prop) → AQ := fun (n : Nat) (Post : AV → List AObj → Prop) => endQ Try.prog (resultsOf Try.f154) Post
noncomputable def q154_1 : Nat → (AV → List AObj → Prop) → AQ := fun (n : Nat) (Post : AV → List AObj → Prop) => seqQ (fun (s' : Slots) (H' : List AObj) => awp Try.prog g154 n (codeSnd (codeSnd (codeSnd c154))) s' H' (q154_0 n Post)) (q154_0 n Post)
noncomputable def q154_2 : Nat → (AV → List AObj → Prop) → AQ := fun (n : Nat) (Post : AV → List AObj → Prop) => blockQ 0 (q154_1 n Post)
noncomputable def c154_3 : Go.Code := codeFst (codeSnd (codeFst (codeSnd (codeSnd c154))))
theorem s154 : ∀ (s : ByteArray) (Post : AV → List AObj → Prop),
  AWP Try.prog 32 0 c154_3 [(3, AV.int IntKind.i64 (0 : Int)), (8, AV.ptr 0 0)] [AObj.siter s 0] (q154_2 0 Post) →
    ASpec Try.prog 154 [AV.str s] [] Post := fun s Post h => Go.Ab.ASpec.of_vc g154 Go.Proofs.Try.func154 (by kernel_rfl) (by kernel_rfl) (by kernel_rfl) (Go.Ab.kc (by kernel_rfl) h)
theorem v154_3 : ∀ (s : ByteArray) (pos : Nat) (n : Int) (n_1 : Nat) (Post : AV → List AObj → Prop),
  condP (decide (pos < ByteArray.size s))
      (ASpec Try.prog 253 [AV.int IntKind.i32 (↑(Prod.fst (Utf8.decode s pos)) : Int)] [AObj.siter s (pos + Prod.snd (Utf8.decode s pos))] fun (r : AV) (H' : List AObj) =>
        ∃ (x : Int),
        r = AV.int IntKind.i64 x ∧
        H' = [AObj.siter s (pos + Prod.snd (Utf8.decode s pos))] ∧
        condP (decide (x > (3 : Int))) (Post (AV.bool false) [AObj.siter s (pos + Prod.snd (Utf8.decode s pos))])
        (condP (n == (0 : Int))
        (condP (decide (x > (1 : Int))) (Post (AV.bool false) [AObj.siter s (pos + Prod.snd (Utf8.decode s pos))])
        (condP (n == (12 : Int)) (Post (AV.bool false) [AObj.siter s (pos + Prod.snd (Utf8.decode s pos))])
        (AWP Try.prog 32 n_1 c154_3 [(3, AV.int IntKind.i64 (IntKind.wrap IntKind.i64 (n + (1 : Int)))), (8, AV.ptr 0 0)]
        [AObj.siter s (pos + Prod.snd (Utf8.decode s pos))] (q154_2 n_1 Post))))
        (condP (n == (12 : Int)) (Post (AV.bool false) [AObj.siter s (pos + Prod.snd (Utf8.decode s pos))])
        (AWP Try.prog 32 n_1 c154_3 [(3, AV.int IntKind.i64 (IntKind.wrap IntKind.i64 (n + (1 : Int)))), (8, AV.ptr 0 0)]
        [AObj.siter s (pos + Prod.snd (Utf8.decode s pos))] (q154_2 n_1 Post)))))
      (Post (AV.bool (decide (n > (0 : Int)))) [AObj.siter s pos]) →
    AWP Try.prog 32 n_1 c154_3 [(3, AV.int IntKind.i64 n), (8, AV.ptr 0 0)] [AObj.siter s pos] (q154_2 n_1 Post) := fun s pos n n Post h => Go.Ab.AWP.loop' g154 (Cfg.live g154) c154_3 (by kernel_rfl) (by kernel_rfl) (Go.Ab.kc (by kernel_rfl) h)

-- 322
noncomputable def l322 : Nat → List Nat
  | 5 => [0, 1, 5, 6]
  | 7 => [0, 1, 5, 6]
  | 9 => [0, 1, 5, 6]
  | 11 => [0, 1, 5, 6]
  | 12 => [0, 1, 5, 6, 7]
  | 16 => [0, 1, 5, 6]
  | _ => []
noncomputable def u322 : Nat → Bool
  | 5 => true
  | 7 => true
  | 9 => true
  | 11 => true
  | 16 => true
  | _ => false
noncomputable def m322 : Nat → Bool
  | _ => false
noncomputable def g322 : Cfg := { N := 96, live := l322, cut := u322, mu := m322, ret := rets }
noncomputable def c322 : Go.Code := Go.Ab.bodyOf Go.Proofs.Try.f322
noncomputable def q322_0 : Nat → (AV → List AObj → Prop) → AQ := fun (n : Nat) (Post : AV → List AObj → Prop) => endQ Try.prog (resultsOf Try.f322) Post
noncomputable def c322_5 : Go.Code := codeSnd (codeSnd (codeSnd (codeSnd c322)))
theorem s322 : ∀ (s : ByteArray) (p : Int) (Post : AV → List AObj → Prop),
  needP ((0 : Int) ≤ p ∧ p < (↑(ByteArray.size s) : Int))
      (condP (decide (IntKind.wrap IntKind.i64 (↑(UInt8.toNat (List.getD (Array.toList (ByteArray.data s)) (Int.toNat p) (0 : UInt8))) : Int) ≥ (194 : Int)))
        (condP (decide (IntKind.wrap IntKind.i64 (↑(UInt8.toNat (List.getD (Array.toList (ByteArray.data s)) (Int.toNat p) (0 : UInt8))) : Int) ≤ (223 : Int)))
        (AWP Try.prog 96 0 c322_5
        [(0, AV.str s), (1, AV.int IntKind.i64 p), (5, AV.int IntKind.i64 (2 : Int)),
        (6, AV.int IntKind.i64 (IntKind.wrap IntKind.i64 (↑(UInt8.toNat (List.getD (Array.toList (ByteArray.data s)) (Int.toNat p) (0 : UInt8))) : Int)))]
        [] (q322_0 0 Post))
        (AWP Try.prog 96 0 c322_5
        [(0, AV.str s), (1, AV.int IntKind.i64 p), (5, AV.int IntKind.i64 (0 : Int)),
        (6, AV.int IntKind.i64 (IntKind.wrap IntKind.i64 (↑(UInt8.toNat (List.getD (Array.toList (ByteArray.data s)) (Int.toNat p) (0 : UInt8))) : Int)))]
        [] (q322_0 0 Post)))
        (AWP Try.prog 96 0 c322_5
        [(0, AV.str s), (1, AV.int IntKind.i64 p), (5, AV.int IntKind.i64 (0 : Int)),
        (6, AV.int IntKind.i64 (IntKind.wrap IntKind.i64 (↑(UInt8.toNat (List.getD (Array.toList (ByteArray.data s)) (Int.toNat p) (0 : UInt8))) : Int)))]
        [] (q322_0 0 Post))) →
    ASpec Try.prog 322 [AV.str s, AV.int IntKind.i64 p] [] Post := fun s p Post h => Go.Ab.ASpec.of_vc g322 Go.Proofs.Try.func322 (by kernel_rfl) (by kernel_rfl) (by kernel_rfl) (Go.Ab.kc (by kernel_rfl) h)
noncomputable def c322_7 : Go.Code := codeSnd c322_5
theorem v322_5 : ∀ (s : ByteArray) (p n c : Int) (n_1 : Nat) (Post : AV → List AObj → Prop),
  condP (decide (c ≥ (224 : Int)))
      (condP (decide (c ≤ (239 : Int)))
        (AWP Try.prog 96 n_1 c322_7 [(0, AV.str s), (1, AV.int IntKind.i64 p), (5, AV.int IntKind.i64 (3 : Int)), (6, AV.int IntKind.i64 c)] []
        (q322_0 n_1 Post))
        (AWP Try.prog 96 n_1 c322_7 [(0, AV.str s), (1, AV.int IntKind.i64 p), (5, AV.int IntKind.i64 n), (6, AV.int IntKind.i64 c)] [] (q322_0 n_1 Post)))
      (AWP Try.prog 96 n_1 c322_7 [(0, AV.str s), (1, AV.int IntKind.i64 p), (5, AV.int IntKind.i64 n), (6, AV.int IntKind.i64 c)] [] (q322_0 n_1 Post)) →
    AWP Try.prog 96 n_1 c322_5 [(0, AV.str s), (1, AV.int IntKind.i64 p), (5, AV.int IntKind.i64 n), (6, AV.int IntKind.i64 c)] [] (q322_0 n_1 Post) := fun s p n c n Post h => Go.Ab.awp_sound g322 n _ _ _ _ (Go.Ab.kc (by kernel_rfl) h)
noncomputable def c322_9 : Go.Code := codeSnd c322_7
theorem v322_7 : ∀ (s : ByteArray) (p n c : Int) (n_1 : Nat) (Post : AV → List AObj → Prop),
  condP (decide (c ≥ (240 : Int)))
      (condP (decide (c ≤ (244 : Int)))
        (AWP Try.prog 96 n_1 c322_9 [(0, AV.str s), (1, AV.int IntKind.i64 p), (5, AV.int IntKind.i64 (4 : Int)), (6, AV.int IntKind.i64 c)] []
        (q322_0 n_1 Post))
        (AWP Try.prog 96 n_1 c322_9 [(0, AV.str s), (1, AV.int IntKind.i64 p), (5, AV.int IntKind.i64 n), (6, AV.int IntKind.i64 c)] [] (q322_0 n_1 Post)))
      (AWP Try.prog 96 n_1 c322_9 [(0, AV.str s), (1, AV.int IntKind.i64 p), (5, AV.int IntKind.i64 n), (6, AV.int IntKind.i64 c)] [] (q322_0 n_1 Post)) →
    AWP Try.prog 96 n_1 c322_7 [(0, AV.str s), (1, AV.int IntKind.i64 p), (5, AV.int IntKind.i64 n), (6, AV.int IntKind.i64 c)] [] (q322_0 n_1 Post) := fun s p n c n Post h => Go.Ab.awp_sound g322 n _ _ _ _ (Go.Ab.kc (by kernel_rfl) h)
noncomputable def c322_11 : Go.Code := codeSnd c322_9
theorem v322_9 : ∀ (s : ByteArray) (p n c : Int) (n_1 : Nat) (Post : AV → List AObj → Prop),
  condP (n == (0 : Int)) (Post (AV.int IntKind.i64 (0 : Int)) [])
      (condP (decide (IntKind.wrap IntKind.i64 ((↑(ByteArray.size s) : Int) - p) < n)) (Post (AV.int IntKind.i64 (0 : Int)) [])
        (AWP Try.prog 96 n_1 c322_11 [(0, AV.str s), (1, AV.int IntKind.i64 p), (5, AV.int IntKind.i64 n), (6, AV.int IntKind.i64 c)] [] (q322_0 n_1 Post))) →
    AWP Try.prog 96 n_1 c322_9 [(0, AV.str s), (1, AV.int IntKind.i64 p), (5, AV.int IntKind.i64 n), (6, AV.int IntKind.i64 c)] [] (q322_0 n_1 Post) := fun s p n c n Post h => Go.Ab.awp_sound g322 n _ _ _ _ (Go.Ab.kc (by kernel_rfl) h)
noncomputable def c322_16 : Go.Code := codeSnd c322_11
noncomputable def q322_1 : Nat → (AV → List AObj → Prop) → AQ := fun (n : Nat) (Post : AV → List AObj → Prop) => seqQ (fun (s' : Slots) (H' : List AObj) => AWP Try.prog (Cfg.N g322) n c322_16 (restrict s' (Cfg.live g322 16)) H' (q322_0 n Post)) (q322_0 n Post)
noncomputable def q322_2 : Nat → (AV → List AObj → Prop) → AQ := fun (n : Nat) (Post : AV → List AObj → Prop) => blockQ 0 (q322_1 n Post)
noncomputable def c322_12 : Go.Code := codeFst (codeSnd (codeFst c322_11))
theorem v322_11 : ∀ (s : ByteArray) (p n c : Int) (n_1 : Nat) (Post : AV → List AObj → Prop),
  AWP Try.prog 96 n_1 c322_12
      [(0, AV.str s), (1, AV.int IntKind.i64 p), (5, AV.int IntKind.i64 n), (6, AV.int IntKind.i64 c), (7, AV.int IntKind.i64 (1 : Int))] [] (q322_2 n_1 Post) →
    AWP Try.prog 96 n_1 c322_11 [(0, AV.str s), (1, AV.int IntKind.i64 p), (5, AV.int IntKind.i64 n), (6, AV.int IntKind.i64 c)] [] (q322_0 n_1 Post) := fun s p n c n Post h => Go.Ab.awp_sound g322 n _ _ _ _ (Go.Ab.kc (by kernel_rfl) h)
theorem v322_16 : ∀ (s : ByteArray) (p n c : Int) (n_1 : Nat) (Post : AV → List AObj → Prop),
  needP ((0 : Int) ≤ IntKind.wrap IntKind.i64 (p + (1 : Int)) ∧ IntKind.wrap IntKind.i64 (p + (1 : Int)) < (↑(ByteArray.size s) : Int))
      (condP (c == (224 : Int))
        (condP (decide (IntKind.wrap IntKind.i64 (↑(UInt8.toNat (List.getD (Array.toList (ByteArray.data s)) (Int.toNat (IntKind.wrap IntKind.i64 (p + (1 : Int)))) (0 : UInt8))) : Int) < (160 : Int)))
        (Post (AV.int IntKind.i64 (0 : Int)) [])
        (condP (c == (237 : Int))
        (condP
        (decide (IntKind.wrap IntKind.i64 (↑(UInt8.toNat (List.getD (Array.toList (ByteArray.data s)) (Int.toNat (IntKind.wrap IntKind.i64 (p + (1 : Int)))) (0 : UInt8))) : Int) > (159 : Int)))
        (Post (AV.int IntKind.i64 (0 : Int)) [])
        (condP (c == (240 : Int))
        (condP
        (decide
        (IntKind.wrap IntKind.i64 (↑(UInt8.toNat (List.getD (Array.toList (ByteArray.data s)) (Int.toNat (IntKind.wrap IntKind.i64 (p + (1 : Int)))) (0 : UInt8))) : Int) < (144 : Int)))
        (Post (AV.int IntKind.i64 (0 : Int)) [])
        (condP (c == (244 : Int))
        (condP
        (decide
        (IntKind.wrap IntKind.i64 (↑(UInt8.toNat (List.getD (Array.toList (ByteArray.data s)) (Int.toNat (IntKind.wrap IntKind.i64 (p + (1 : Int)))) (0 : UInt8))) : Int) >
        (143 : Int)))
        (Post (AV.int IntKind.i64 (0 : Int)) []) (Post (AV.int IntKind.i64 n) []))
        (Post (AV.int IntKind.i64 n) [])))
        (condP (c == (244 : Int))
        (condP
        (decide
        (IntKind.wrap IntKind.i64 (↑(UInt8.toNat (List.getD (Array.toList (ByteArray.data s)) (Int.toNat (IntKind.wrap IntKind.i64 (p + (1 : Int)))) (0 : UInt8))) : Int) > (143 : Int)))
        (Post (AV.int IntKind.i64 (0 : Int)) []) (Post (AV.int IntKind.i64 n) []))
        (Post (AV.int IntKind.i64 n) []))))
        (condP (c == (240 : Int))
        (condP
        (decide
        (IntKind.wrap IntKind.i64 (↑(UInt8.toNat (List.getD (Array.toList (ByteArray.data s)) (Int.toNat (IntKind.wrap IntKind.i64 (p + (1 : Int)))) (0 : UInt8))) : Int) < (144 : Int)))
        (Post (AV.int IntKind.i64 (0 : Int)) [])
        (condP (c == (244 : Int))
        (condP
        (decide
        (IntKind.wrap IntKind.i64 (↑(UInt8.toNat (List.getD (Array.toList (ByteArray.data s)) (Int.toNat (IntKind.wrap IntKind.i64 (p + (1 : Int)))) (0 : UInt8))) : Int) > (143 : Int)))
        (Post (AV.int IntKind.i64 (0 : Int)) []) (Post (AV.int IntKind.i64 n) []))
        (Post (AV.int IntKind.i64 n) [])))
        (condP (c == (244 : Int))
        (condP
        (decide
        (IntKind.wrap IntKind.i64 (↑(UInt8.toNat (List.getD (Array.toList (ByteArray.data s)) (Int.toNat (IntKind.wrap IntKind.i64 (p + (1 : Int)))) (0 : UInt8))) : Int) > (143 : Int)))
        (Post (AV.int IntKind.i64 (0 : Int)) []) (Post (AV.int IntKind.i64 n) []))
        (Post (AV.int IntKind.i64 n) [])))))
        (condP (c == (237 : Int))
        (condP
        (decide (IntKind.wrap IntKind.i64 (↑(UInt8.toNat (List.getD (Array.toList (ByteArray.data s)) (Int.toNat (IntKind.wrap IntKind.i64 (p + (1 : Int)))) (0 : UInt8))) : Int) > (159 : Int)))
        (Post (AV.int IntKind.i64 (0 : Int)) [])
        (condP (c == (240 : Int))
        (condP
        (decide
        (IntKind.wrap IntKind.i64 (↑(UInt8.toNat (List.getD (Array.toList (ByteArray.data s)) (Int.toNat (IntKind.wrap IntKind.i64 (p + (1 : Int)))) (0 : UInt8))) : Int) < (144 : Int)))
        (Post (AV.int IntKind.i64 (0 : Int)) [])
        (condP (c == (244 : Int))
        (condP
        (decide
        (IntKind.wrap IntKind.i64 (↑(UInt8.toNat (List.getD (Array.toList (ByteArray.data s)) (Int.toNat (IntKind.wrap IntKind.i64 (p + (1 : Int)))) (0 : UInt8))) : Int) > (143 : Int)))
        (Post (AV.int IntKind.i64 (0 : Int)) []) (Post (AV.int IntKind.i64 n) []))
        (Post (AV.int IntKind.i64 n) [])))
        (condP (c == (244 : Int))
        (condP
        (decide
        (IntKind.wrap IntKind.i64 (↑(UInt8.toNat (List.getD (Array.toList (ByteArray.data s)) (Int.toNat (IntKind.wrap IntKind.i64 (p + (1 : Int)))) (0 : UInt8))) : Int) > (143 : Int)))
        (Post (AV.int IntKind.i64 (0 : Int)) []) (Post (AV.int IntKind.i64 n) []))
        (Post (AV.int IntKind.i64 n) []))))
        (condP (c == (240 : Int))
        (condP
        (decide (IntKind.wrap IntKind.i64 (↑(UInt8.toNat (List.getD (Array.toList (ByteArray.data s)) (Int.toNat (IntKind.wrap IntKind.i64 (p + (1 : Int)))) (0 : UInt8))) : Int) < (144 : Int)))
        (Post (AV.int IntKind.i64 (0 : Int)) [])
        (condP (c == (244 : Int))
        (condP
        (decide
        (IntKind.wrap IntKind.i64 (↑(UInt8.toNat (List.getD (Array.toList (ByteArray.data s)) (Int.toNat (IntKind.wrap IntKind.i64 (p + (1 : Int)))) (0 : UInt8))) : Int) > (143 : Int)))
        (Post (AV.int IntKind.i64 (0 : Int)) []) (Post (AV.int IntKind.i64 n) []))
        (Post (AV.int IntKind.i64 n) [])))
        (condP (c == (244 : Int))
        (condP
        (decide
        (IntKind.wrap IntKind.i64 (↑(UInt8.toNat (List.getD (Array.toList (ByteArray.data s)) (Int.toNat (IntKind.wrap IntKind.i64 (p + (1 : Int)))) (0 : UInt8))) : Int) > (143 : Int)))
        (Post (AV.int IntKind.i64 (0 : Int)) []) (Post (AV.int IntKind.i64 n) []))
        (Post (AV.int IntKind.i64 n) []))))) →
    AWP Try.prog 96 n_1 c322_16 [(0, AV.str s), (1, AV.int IntKind.i64 p), (5, AV.int IntKind.i64 n), (6, AV.int IntKind.i64 c)] [] (q322_0 n_1 Post) := fun s p n c n Post h => Go.Ab.awp_sound g322 n _ _ _ _ (Go.Ab.kc (by kernel_rfl) h)
theorem v322_12 : ∀ (s : ByteArray) (p n c i : Int) (n_1 : Nat) (Post : AV → List AObj → Prop),
  condP (decide (i < n))
      (needP ((0 : Int) ≤ IntKind.wrap IntKind.i64 (p + i) ∧ IntKind.wrap IntKind.i64 (p + i) < (↑(ByteArray.size s) : Int))
        (condP (decide ((↑(UInt8.toNat (List.getD (Array.toList (ByteArray.data s)) (Int.toNat (IntKind.wrap IntKind.i64 (p + i))) (0 : UInt8))) : Int) < (128 : Int)))
        (Post (AV.int IntKind.i64 (0 : Int)) [])
        (needP ((0 : Int) ≤ IntKind.wrap IntKind.i64 (p + i) ∧ IntKind.wrap IntKind.i64 (p + i) < (↑(ByteArray.size s) : Int))
        (condP (decide ((↑(UInt8.toNat (List.getD (Array.toList (ByteArray.data s)) (Int.toNat (IntKind.wrap IntKind.i64 (p + i))) (0 : UInt8))) : Int) > (191 : Int)))
        (Post (AV.int IntKind.i64 (0 : Int)) [])
        (AWP Try.prog 96 n_1 c322_12
        [(0, AV.str s), (1, AV.int IntKind.i64 p), (5, AV.int IntKind.i64 n), (6, AV.int IntKind.i64 c),
        (7, AV.int IntKind.i64 (IntKind.wrap IntKind.i64 (i + (1 : Int))))]
        [] (q322_2 n_1 Post))))))
      (AWP Try.prog 96 n_1 c322_16 [(0, AV.str s), (1, AV.int IntKind.i64 p), (5, AV.int IntKind.i64 n), (6, AV.int IntKind.i64 c)] [] (q322_0 n_1 Post)) →
    AWP Try.prog 96 n_1 c322_12
      [(0, AV.str s), (1, AV.int IntKind.i64 p), (5, AV.int IntKind.i64 n), (6, AV.int IntKind.i64 c), (7, AV.int IntKind.i64 i)] [] (q322_2 n_1 Post) := fun s p n c i n Post h => Go.Ab.AWP.loop' g322 (Cfg.live g322) c322_12 (by kernel_rfl) (by kernel_rfl) (Go.Ab.kc (by kernel_rfl) h)

-- 261
noncomputable def l261 : Nat → List Nat
  | 9 => [0, 1, 6, 7]
  | 11 => [0, 1, 6, 7]
  | 12 => [0, 1, 6, 7, 8]
  | _ => []
noncomputable def u261 : Nat → Bool
  | 9 => true
  | 11 => true
  | _ => false
noncomputable def m261 : Nat → Bool
  | _ => false
noncomputable def g261 : Cfg := { N := 58, live := l261, cut := u261, mu := m261, ret := rets }
noncomputable def c261 : Go.Code := Go.Ab.bodyOf Go.Proofs.Try.f261
noncomputable def q261_0 : Nat → (AV → List AObj → Prop) → AQ := fun (n : Nat) (Post : AV → List AObj → Prop) => endQ Try.prog (resultsOf Try.f261) Post
noncomputable def c261_9 : Go.Code := codeSnd (codeSnd (codeSnd (codeSnd (codeSnd (codeSnd c261)))))
theorem s261 : ∀ (s : ByteArray) (p : Int) (Post : AV → List AObj → Prop),
  needP ((0 : Int) ≤ p ∧ p < (↑(ByteArray.size s) : Int))
      (condP (decide ((↑(UInt8.toNat (List.getD (Array.toList (ByteArray.data s)) (Int.toNat p) (0 : UInt8))) : Int) < (128 : Int)))
        (needP ((0 : Int) ≤ p ∧ p < (↑(ByteArray.size s) : Int))
        (Post (AV.tup [AV.int IntKind.i64 (IntKind.wrap IntKind.i64 (↑(UInt8.toNat (List.getD (Array.toList (ByteArray.data s)) (Int.toNat p) (0 : UInt8))) : Int)), AV.int IntKind.i64 (1 : Int)])
        []))
        (ASpec Try.prog 322 [AV.str s, AV.int IntKind.i64 p] [] fun (r : AV) (H' : List AObj) =>
        ∃ (x : Int),
        r = AV.int IntKind.i64 x ∧
        H' = [] ∧
        condP (x == (0 : Int)) (Post (AV.tup [AV.int IntKind.i64 (65533 : Int), AV.int IntKind.i64 (1 : Int)]) [])
        (needP ((0 : Int) ≤ p ∧ p < (↑(ByteArray.size s) : Int))
        (needP ((32 : Int) ≠ (0 : Int))
        (condP (x == (3 : Int))
        (needP ((0 : Int) ≤ p ∧ p < (↑(ByteArray.size s) : Int))
        (needP ((16 : Int) ≠ (0 : Int))
        (AWP Try.prog 58 0 c261_9
        [(0, AV.str s), (1, AV.int IntKind.i64 p), (6, AV.int IntKind.i64 x),
        (7,
        AV.int IntKind.i64 (Int.tmod (IntKind.wrap IntKind.i64 (↑(UInt8.toNat (List.getD (Array.toList (ByteArray.data s)) (Int.toNat p) (0 : UInt8))) : Int)) (16 : Int)))]
        [] (q261_0 0 Post))))
        (AWP Try.prog 58 0 c261_9
        [(0, AV.str s), (1, AV.int IntKind.i64 p), (6, AV.int IntKind.i64 x),
        (7,
        AV.int IntKind.i64 (Int.tmod (IntKind.wrap IntKind.i64 (↑(UInt8.toNat (List.getD (Array.toList (ByteArray.data s)) (Int.toNat p) (0 : UInt8))) : Int)) (32 : Int)))]
        [] (q261_0 0 Post))))))) →
    ASpec Try.prog 261 [AV.str s, AV.int IntKind.i64 p] [] Post := fun s p Post h => Go.Ab.ASpec.of_vc g261 Go.Proofs.Try.func261 (by kernel_rfl) (by kernel_rfl) (by kernel_rfl) (Go.Ab.kc (by kernel_rfl) h)
noncomputable def c261_11 : Go.Code := codeSnd c261_9
theorem v261_9 : ∀ (s : ByteArray) (p n x : Int) (n_1 : Nat) (Post : AV → List AObj → Prop),
  condP (n == (4 : Int))
      (needP ((0 : Int) ≤ p ∧ p < (↑(ByteArray.size s) : Int))
        (needP ((8 : Int) ≠ (0 : Int))
        (AWP Try.prog 58 n_1 c261_11
        [(0, AV.str s), (1, AV.int IntKind.i64 p), (6, AV.int IntKind.i64 n),
        (7, AV.int IntKind.i64 (Int.tmod (IntKind.wrap IntKind.i64 (↑(UInt8.toNat (List.getD (Array.toList (ByteArray.data s)) (Int.toNat p) (0 : UInt8))) : Int)) (8 : Int)))]
        [] (q261_0 n_1 Post))))
      (AWP Try.prog 58 n_1 c261_11 [(0, AV.str s), (1, AV.int IntKind.i64 p), (6, AV.int IntKind.i64 n), (7, AV.int IntKind.i64 x)] [] (q261_0 n_1 Post)) →
    AWP Try.prog 58 n_1 c261_9 [(0, AV.str s), (1, AV.int IntKind.i64 p), (6, AV.int IntKind.i64 n), (7, AV.int IntKind.i64 x)] [] (q261_0 n_1 Post) := fun s p n x n Post h => Go.Ab.awp_sound g261 n _ _ _ _ (Go.Ab.kc (by kernel_rfl) h)
noncomputable def q261_1 : Nat → (AV → List AObj → Prop) → AQ := fun (n : Nat) (Post : AV → List AObj → Prop) => seqQ (fun (s' : Slots) (H' : List AObj) => awp Try.prog g261 n (codeSnd c261_11) s' H' (q261_0 n Post)) (q261_0 n Post)
noncomputable def q261_2 : Nat → (AV → List AObj → Prop) → AQ := fun (n : Nat) (Post : AV → List AObj → Prop) => blockQ 0 (q261_1 n Post)
noncomputable def c261_12 : Go.Code := codeFst (codeSnd (codeFst c261_11))
theorem v261_11 : ∀ (s : ByteArray) (p n x : Int) (n_1 : Nat) (Post : AV → List AObj → Prop),
  AWP Try.prog 58 n_1 c261_12
      [(0, AV.str s), (1, AV.int IntKind.i64 p), (6, AV.int IntKind.i64 n), (7, AV.int IntKind.i64 x), (8, AV.int IntKind.i64 (1 : Int))] [] (q261_2 n_1 Post) →
    AWP Try.prog 58 n_1 c261_11 [(0, AV.str s), (1, AV.int IntKind.i64 p), (6, AV.int IntKind.i64 n), (7, AV.int IntKind.i64 x)] [] (q261_0 n_1 Post) := fun s p n x n Post h => Go.Ab.awp_sound g261 n _ _ _ _ (Go.Ab.kc (by kernel_rfl) h)
theorem v261_12 : ∀ (s : ByteArray) (p n x i : Int) (n_1 : Nat) (Post : AV → List AObj → Prop),
  condP (decide (i < n))
      (needP ((0 : Int) ≤ IntKind.wrap IntKind.i64 (p + i) ∧ IntKind.wrap IntKind.i64 (p + i) < (↑(ByteArray.size s) : Int))
        (needP ((64 : Int) ≠ (0 : Int))
        (AWP Try.prog 58 n_1 c261_12
        [(0, AV.str s), (1, AV.int IntKind.i64 p), (6, AV.int IntKind.i64 n),
        (7,
        AV.int IntKind.i64
        (IntKind.wrap IntKind.i64
        (IntKind.wrap IntKind.i64 (x * (64 : Int)) +
        Int.tmod (IntKind.wrap IntKind.i64 (↑(UInt8.toNat (List.getD (Array.toList (ByteArray.data s)) (Int.toNat (IntKind.wrap IntKind.i64 (p + i))) (0 : UInt8))) : Int)) (64 : Int)))),
        (8, AV.int IntKind.i64 (IntKind.wrap IntKind.i64 (i + (1 : Int))))]
        [] (q261_2 n_1 Post))))
      (Post (AV.tup [AV.int IntKind.i64 x, AV.int IntKind.i64 n]) []) →
    AWP Try.prog 58 n_1 c261_12
      [(0, AV.str s), (1, AV.int IntKind.i64 p), (6, AV.int IntKind.i64 n), (7, AV.int IntKind.i64 x), (8, AV.int IntKind.i64 i)] [] (q261_2 n_1 Post) := fun s p n x i n Post h => Go.Ab.AWP.loop' g261 (Cfg.live g261) c261_12 (by kernel_rfl) (by kernel_rfl) (Go.Ab.kc (by kernel_rfl) h)

-- 164
noncomputable def l164 : Nat → List Nat
  | 3 => [0, 3, 4]
  | _ => []
noncomputable def u164 : Nat → Bool
  | _ => false
noncomputable def m164 : Nat → Bool
  | _ => false
noncomputable def g164 : Cfg := { N := 25, live := l164, cut := u164, mu := m164, ret := rets }
noncomputable def c164 : Go.Code := Go.Ab.bodyOf Go.Proofs.Try.f164
noncomputable def q164_0 : Nat → (AV → List AObj → Prop) → AQ := fun (n : Nat) (Post : AV → List AObj → Prop) => endQ Try.prog (resultsOf Try.f164) Post
noncomputable def q164_1 : Nat → (AV → List AObj → Prop) → AQ := fun (n : Nat) (Post : AV → List AObj → Prop) => seqQ (fun (s' : Slots) (H' : List AObj) => awp Try.prog g164 n (codeSnd (codeSnd (codeSnd (codeSnd c164)))) s' H' (q164_0 n Post)) (q164_0 n Post)
noncomputable def q164_2 : Nat → (AV → List AObj → Prop) → AQ := fun (n : Nat) (Post : AV → List AObj → Prop) => blockQ 0 (q164_1 n Post)
noncomputable def c164_3 : Go.Code := codeFst (codeFst (codeSnd (codeSnd (codeSnd c164))))
theorem s164 : ∀ (s : ByteArray) (Post : AV → List AObj → Prop),
  AWP Try.prog 25 0 c164_3 [(0, AV.str s), (3, AV.sl 0 (Seq.raw []) Tip.nil), (4, AV.int IntKind.i64 (0 : Int))] [] (q164_2 0 Post) →
    ASpec Try.prog 164 [AV.str s] [] Post := fun s Post h => Go.Ab.ASpec.of_vc g164 Go.Proofs.Try.func164 (by kernel_rfl) (by kernel_rfl) (by kernel_rfl) (Go.Ab.kc (by kernel_rfl) h)
theorem v164_3 : ∀ (s : ByteArray) (l : List Int) (p : Int) (n : Nat) (Post : AV → List AObj → Prop),
  condP (decide (p < (↑(ByteArray.size s) : Int)))
      (ASpec Try.prog 261 [AV.str s, AV.int IntKind.i64 p] [AObj.tok] fun (r : AV) (H' : List AObj) =>
        ∃ (x : Int × Int),
        r = AV.tup [AV.int IntKind.i64 (Prod.fst x), AV.int IntKind.i64 (Prod.snd x)] ∧
        H' = [AObj.tok] ∧
        needP ((List.length l + 1) * 8 ≤ 140737488351232)
        (AWP Try.prog 25 n c164_3
        [(0, AV.str s), (3, AV.sl 1 (Seq.app (Seq.map encI (0 : Int) l) (Seq.raw [[AV.int IntKind.i64 (Prod.fst x)]])) (Tip.tok 1)),
        (4, AV.int IntKind.i64 (IntKind.wrap IntKind.i64 (p + Prod.snd x)))]
        [AObj.gone, AObj.tok] (q164_2 n Post)))
      (Post (AV.sl 1 (Seq.map encI (0 : Int) l) (Tip.tok 0)) [AObj.tok]) →
    AWP Try.prog 25 n c164_3 [(0, AV.str s), (3, AV.sl 1 (Seq.map encI (0 : Int) l) (Tip.tok 0)), (4, AV.int IntKind.i64 p)] [AObj.tok] (q164_2 n Post) := fun s l p n Post h => Go.Ab.AWP.loop' g164 (Cfg.live g164) c164_3 (by kernel_rfl) (by kernel_rfl) (Go.Ab.kc (by kernel_rfl) h)

-- 39
noncomputable def l39 : Nat → List Nat
  | 5 => [3, 4]
  | _ => []
noncomputable def u39 : Nat → Bool
  | _ => false
noncomputable def m39 : Nat → Bool
  | _ => false
noncomputable def g39 : Cfg := { N := 42, live := l39, cut := u39, mu := m39, ret := rets }
noncomputable def c39 : Go.Code := Go.Ab.bodyOf Go.Proofs.Try.f39
noncomputable def q39_0 : Nat → (AV → List AObj → Prop) → AQ := fun (n : Nat) (Post : AV → List AObj → Prop) => endQ Try.prog (resultsOf Try.f39) Post
noncomputable def q39_1 : Nat → (AV → List AObj → Prop) → AQ := fun (n : Nat) (Post : AV → List AObj → Prop) => seqQ (fun (s' : Slots) (H' : List AObj) => awp Try.prog g39 n (codeSnd (codeSnd (codeSnd (codeSnd c39)))) s' H' (q39_0 n Post)) (q39_0 n Post)
noncomputable def q39_2 : Nat → (AV → List AObj → Prop) → AQ := fun (n : Nat) (Post : AV → List AObj → Prop) => blockQ 0 (q39_1 n Post)
noncomputable def c39_5 : Go.Code := codeFst (codeSnd (codeFst (codeSnd (codeSnd (codeSnd c39)))))
theorem s39 : ∀ (s : ByteArray) (Post : AV → List AObj → Prop),
  condP (decide ((↑(ByteArray.size s) : Int) > (100 : Int))) (Post (AV.bool false) [])
      (ASpec Try.prog 164 [AV.str s] [] fun (r : AV) (H' : List AObj) =>
        ∃ (x : List Int),
        r = AV.sl 1 (Seq.map encI (0 : Int) x) Tip.none ∧
        H' = [] ∧ AWP Try.prog 42 0 c39_5 [(3, AV.sl 1 (Seq.map encI (0 : Int) x) Tip.none), (4, AV.int IntKind.i64 (0 : Int))] [] (q39_2 0 Post)) →
    ASpec Try.prog 39 [AV.str s] [] Post := fun s Post h => Go.Ab.ASpec.of_vc g39 Go.Proofs.Try.func39 (by kernel_rfl) (by kernel_rfl) (by kernel_rfl) (Go.Ab.kc (by kernel_rfl) h)
theorem v39_5 : ∀ (l : List Int) (i : Int) (n : Nat) (Post : AV → List AObj → Prop),
  condP (decide (i < (↑(List.length l) : Int)))
      (needP ((0 : Int) ≤ i ∧ i < (↑(List.length l) : Int))
        (ASpec Try.prog 165 [AV.int IntKind.i64 (List.getD l (Int.toNat i) (0 : Int))] [] fun (r : AV) (H' : List AObj) =>
        ∃ (x : Int),
        r = AV.int IntKind.i64 x ∧
        H' = [] ∧
        condP (x == (4 : Int)) (Post (AV.bool false) [])
        (condP (i == (0 : Int))
        (needP ((0 : Int) ≤ i ∧ i < (↑(List.length l) : Int))
        (ASpec Try.prog 165 [AV.int IntKind.i64 (List.getD l (Int.toNat i) (0 : Int))] [] fun (r : AV) (H' : List AObj) =>
        ∃ (x : Int),
        r = AV.int IntKind.i64 x ∧
        H' = [] ∧
        condP (decide (x > (1 : Int))) (Post (AV.bool false) [])
        (AWP Try.prog 42 n c39_5
        [(3, AV.sl 1 (Seq.map encI (0 : Int) l) Tip.none), (4, AV.int IntKind.i64 (IntKind.wrap IntKind.i64 (i + (1 : Int))))] [] (q39_2 n Post))))
        (AWP Try.prog 42 n c39_5 [(3, AV.sl 1 (Seq.map encI (0 : Int) l) Tip.none), (4, AV.int IntKind.i64 (IntKind.wrap IntKind.i64 (i + (1 : Int))))] []
        (q39_2 n Post)))))
      (condP (decide ((↑(List.length l) : Int) ≥ (1 : Int))) (Post (AV.bool (decide ((↑(List.length l) : Int) ≤ (12 : Int)))) []) (Post (AV.bool false) [])) →
    AWP Try.prog 42 n c39_5 [(3, AV.sl 1 (Seq.map encI (0 : Int) l) Tip.none), (4, AV.int IntKind.i64 i)] [] (q39_2 n Post) := fun l i n Post h => Go.Ab.AWP.loop' g39 (Cfg.live g39) c39_5 (by kernel_rfl) (by kernel_rfl) (Go.Ab.kc (by kernel_rfl) h)

-- 262
noncomputable def l262 : Nat → List Nat
  | _ => []
noncomputable def u262 : Nat → Bool
  | _ => false
noncomputable def m262 : Nat → Bool
  | _ => false
noncomputable def g262 : Cfg := { N := 19, live := l262, cut := u262, mu := m262, ret := rets }
noncomputable def c262 : Go.Code := Go.Ab.bodyOf Go.Proofs.Try.f262
theorem s262 : ∀ (s : ByteArray) (bs : List UInt8) (Post : AV → List AObj → Prop),
  (ASpec Try.prog 154 [AV.str s] [] fun (r : AV) (H' : List AObj) =>
      ∃ (x : Bool),
        r = AV.bool x ∧
        H' = [] ∧
        condP (!x) (Post (AV.sl 0 (Seq.raw []) Tip.nil) [])
        (condP (decide ((↑(List.length bs) : Int) > (8192 : Int))) (Post (AV.sl 0 (Seq.raw []) Tip.nil) [])
        (needP (allBytes (Seq.map encB (0 : UInt8) bs))
        (ASpec Try.prog 141 [AV.sl 0 (Seq.raw []) Tip.nil, AV.str s] [] fun (r : AV) (H' : List AObj) =>
        ∃ (x : List UInt8),
        r = AV.sl 1 (Seq.map encB (0 : UInt8) x) (Tip.tok 0) ∧
        H' = [AObj.tok] ∧
        ASpec Try.prog 141 [AV.sl 1 (Seq.map encB (0 : UInt8) x) (Tip.tok 0), AV.str (bytesOf (Seq.map encB (0 : UInt8) bs))] [AObj.tok]
        fun (r : AV) (H' : List AObj) =>
        ∃ (x : List UInt8),
        r = AV.sl 1 (Seq.map encB (0 : UInt8) x) (Tip.tok 1) ∧
        H' = [AObj.tok, AObj.tok] ∧
        ASpec Try.prog 323 [AV.sl 1 (Seq.map encB (0 : UInt8) x) (Tip.tok 1)] [AObj.tok, AObj.tok] fun (r : AV) (H' : List AObj) =>
        ∃ (x : List UInt8),
        r = AV.sl 1 (Seq.map encB (0 : UInt8) x) Tip.none ∧
        H' = [AObj.tok, AObj.tok] ∧ Post (AV.sl 1 (Seq.map encB (0 : UInt8) x) Tip.none) [AObj.tok, AObj.tok])))) →
    ASpec Try.prog 262 [AV.str s, AV.sl 1 (Seq.map encB (0 : UInt8) bs) Tip.none] [] Post := fun s bs Post h => Go.Ab.ASpec.of_vc g262 Go.Proofs.Try.func262 (by kernel_rfl) (by kernel_rfl) (by kernel_rfl) (Go.Ab.kc (by kernel_rfl) h)

-- 325
noncomputable def l325 : Nat → List Nat
  | _ => []
noncomputable def u325 : Nat → Bool
  | _ => false
noncomputable def m325 : Nat → Bool
  | _ => false
noncomputable def g325 : Cfg := { N := 19, live := l325, cut := u325, mu := m325, ret := rets }
noncomputable def c325 : Go.Code := Go.Ab.bodyOf Go.Proofs.Try.f325
theorem s325 : ∀ (s t : ByteArray) (Post : AV → List AObj → Prop),
  (ASpec Try.prog 39 [AV.str s] [] fun (r : AV) (H' : List AObj) =>
      ∃ (x : Bool),
        r = AV.bool x ∧
        H' = [] ∧
        condP (!x) (Post (AV.str { data := #[] }) [])
        (condP (decide ((↑(ByteArray.size t) : Int) > (8192 : Int))) (Post (AV.str { data := #[] }) [])
        (ASpec Try.prog 151 [AV.str s] [] fun (r : AV) (H' : List AObj) =>
        ∃ (x : ByteArray),
        r = AV.str x ∧
        H' = [] ∧
        ASpec Try.prog 151 [AV.str t] [] fun (r : AV) (H' : List AObj) =>
        ∃ (x_1 : ByteArray),
        r = AV.str x_1 ∧
        H' = [] ∧
        needP ((↑(ByteArray.size x + ByteArray.size x_1) : Int) ≤ (9223372036854775807 : Int))
        (ASpec Try.prog 263 [AV.str (x ++ x_1)] [] fun (r : AV) (H' : List AObj) => ∃ (x : ByteArray), r = AV.str x ∧ H' = [] ∧ Post (AV.str x) [])))) →
    ASpec Try.prog 325 [AV.str s, AV.str t] [] Post := fun s t Post h => Go.Ab.ASpec.of_vc g325 Go.Proofs.Try.func325 (by kernel_rfl) (by kernel_rfl) (by kernel_rfl) (Go.Ab.kc (by kernel_rfl) h)

-- 45
noncomputable def l45 : Nat → List Nat
  | 10 => [8, 9, 10]
  | _ => []
noncomputable def u45 : Nat → Bool
  | 10 => true
  | _ => false
noncomputable def m45 : Nat → Bool
  | _ => false
noncomputable def g45 : Cfg := { N := 39, live := l45, cut := u45, mu := m45, ret := rets }
noncomputable def c45 : Go.Code := Go.Ab.bodyOf Go.Proofs.Try.f45
noncomputable def q45_0 : Nat → (AV → List AObj → Prop) → AQ := fun (n : Nat) (Post : AV → List AObj → Prop) => endQ Try.prog (resultsOf Try.f45) Post
noncomputable def c45_10 : Go.Code := codeSnd (codeSnd (codeSnd (codeSnd (codeSnd (codeSnd (codeSnd (codeSnd c45)))))))
theorem s45 : ∀ (s : ByteArray) (Post : AV → List AObj → Prop),
  (ASpec Try.prog 170 [AV.str s] [] fun (r : AV) (H' : List AObj) =>
      ∃ (x : ByteArray × Bool),
        r = AV.tup [AV.str (Prod.fst x), AV.bool (Prod.snd x)] ∧
        H' = [] ∧
        condP (!Prod.snd x) (Post (AV.tup [AV.str { data := #[] }, AV.str { data := #[] }, AV.int IntKind.i64 (8 : Int)]) [])
        (ASpec Try.prog 148 [AV.ptr 0 0, AV.int IntKind.i64 (24 : Int)] [AObj.cells [AV.str (Prod.fst x), AV.int IntKind.i64 (0 : Int)]] fun (r : AV) (H' : List AObj) =>
        ∃ (x : ByteArray × ByteArray × Int),
        r = AV.str (Prod.fst x) ∧
        H' = [AObj.cells [AV.str (Prod.fst (Prod.snd x)), AV.int IntKind.i64 (Prod.snd (Prod.snd x))]] ∧
        ASpec Try.prog 148 [AV.ptr 0 0, AV.int IntKind.i64 (8192 : Int)] [AObj.cells [AV.str (Prod.fst (Prod.snd x)), AV.int IntKind.i64 (Prod.snd (Prod.snd x))]]
        fun (r : AV) (H' : List AObj) =>
        ∃ (x_1 : ByteArray × ByteArray × Int),
        r = AV.str (Prod.fst x_1) ∧
        H' = [AObj.cells [AV.str (Prod.fst (Prod.snd x_1)), AV.int IntKind.i64 (Prod.snd (Prod.snd x_1))]] ∧
        ASpec Try.prog 149 [AV.ptr 0 0] [AObj.cells [AV.str (Prod.fst (Prod.snd x_1)), AV.int IntKind.i64 (Prod.snd (Prod.snd x_1))]]
        fun (r : AV) (H' : List AObj) =>
        ∃ (x_2 : Int),
        r = AV.int IntKind.i64 x_2 ∧
        H' = [AObj.cells [AV.str (Prod.fst (Prod.snd x_1)), AV.int IntKind.i64 (Prod.snd (Prod.snd x_1))]] ∧
        condP (x_2 == (0 : Int))
        (ASpec Try.prog 39 [AV.str (Prod.fst x)] [AObj.cells [AV.str (Prod.fst (Prod.snd x_1)), AV.int IntKind.i64 (Prod.snd (Prod.snd x_1))]]
        fun (r : AV) (H' : List AObj) =>
        ∃ (x_3 : Bool),
        r = AV.bool x_3 ∧
        H' = [AObj.cells [AV.str (Prod.fst (Prod.snd x_1)), AV.int IntKind.i64 (Prod.snd (Prod.snd x_1))]] ∧
        condP (!x_3)
        (AWP Try.prog 39 0 c45_10
        [(8, AV.str (Prod.fst x)), (9, AV.str (Prod.fst x_1)), (10, AV.int IntKind.i64 (3 : Int))]
        [AObj.cells [AV.str (Prod.fst (Prod.snd x_1)), AV.int IntKind.i64 (Prod.snd (Prod.snd x_1))]] (q45_0 0 Post))
        (AWP Try.prog 39 0 c45_10 [(8, AV.str (Prod.fst x)), (9, AV.str (Prod.fst x_1)), (10, AV.int IntKind.i64 x_2)]
        [AObj.cells [AV.str (Prod.fst (Prod.snd x_1)), AV.int IntKind.i64 (Prod.snd (Prod.snd x_1))]] (q45_0 0 Post)))
        (AWP Try.prog 39 0 c45_10 [(8, AV.str (Prod.fst x)), (9, AV.str (Prod.fst x_1)), (10, AV.int IntKind.i64 x_2)]
        [AObj.cells [AV.str (Prod.fst (Prod.snd x_1)), AV.int IntKind.i64 (Prod.snd (Prod.snd x_1))]] (q45_0 0 Post)))) →
    ASpec Try.prog 45 [AV.str s] [] Post := fun s Post h => Go.Ab.ASpec.of_vc g45 Go.Proofs.Try.func45 (by kernel_rfl) (by kernel_rfl) (by kernel_rfl) (Go.Ab.kc (by kernel_rfl) h)
theorem v45_10 : ∀ (x y : ByteArray) (e : Int) (n : Nat) (Post : AV → List AObj → Prop),
  condP (e != (0 : Int)) (Post (AV.tup [AV.str { data := #[] }, AV.str { data := #[] }, AV.int IntKind.i64 e]) []) (Post (AV.tup [AV.str x, AV.str y, AV.int IntKind.i64 (0 : Int)]) []) →
    AWP Try.prog 39 n c45_10 [(8, AV.str x), (9, AV.str y), (10, AV.int IntKind.i64 e)] [] (q45_0 n Post) := fun x y e n Post h => Go.Ab.awp_sound g45 n _ _ _ _ (Go.Ab.kc (by kernel_rfl) h)

end
end S
end

section
/- The plain law of numbers as bytes. -/

namespace V

/-- the digits that go on -/
def lead (v : Nat) : List UInt8 := if _h : v = 0 then [] else lead (v / 128) ++ [UInt8.ofNat (128 + v % 128)]
  termination_by v
  decreasing_by omega

def enc (v : Nat) : List UInt8 := lead (v / 128) ++ [UInt8.ofNat (v % 128)]

theorem lead_zero : lead 0 = [] := by rw [lead]; simp
theorem lead_pos {v : Nat} (h : 0 < v) : lead v = lead (v / 128) ++ [UInt8.ofNat (128 + v % 128)] := by rw [lead, dif_neg (by omega)]

/-- a number that is held -/
def held (x : Int) : Nat := (min (max x 0) 1099511627776).toNat

theorem held_le (x : Int) : held x ≤ 1099511627776 := by unfold held; omega
theorem held_of {x : Int} (h0 : 0 ≤ x) (h1 : x ≤ 1099511627776) : (held x : Int) = x := by unfold held; omega

/-- digits from the j-th down to the first -/
def down (v : Nat) : Nat → List UInt8
  | 0 => []
  | j + 1 => UInt8.ofNat (128 + v / 128 ^ (j + 1) % 128) :: down v j

theorem down_succ (v : Nat) : ∀ j, down v (j + 1) = down (v / 128) j ++ [UInt8.ofNat (128 + v / 128 % 128)]
  | 0 => by simp [down]
  | j + 1 => by
    rw [down, down_succ v j, down]
    have : v / 128 ^ (j + 1 + 1) = v / 128 / 128 ^ (j + 1) := by rw [Nat.div_div_eq_div_mul, Nat.pow_succ 128 (j + 1), Nat.mul_comm]
    rw [this]; rfl

theorem down_lead : ∀ (j v : Nat), v / 128 ^ j < 128 → (j = 0 ∨ 128 ^ j ≤ v) → down v j = lead (v / 128)
  | 0, v, h, _ => by
    have : v / 128 = 0 := by simp at h; omega
    rw [this, lead_zero]; rfl
  | j + 1, v, h, hj => by
    have hv : 128 ^ (j + 1) ≤ v := by rcases hj with e | e; · cases e
                                      · exact e
    have hp : 0 < 128 ^ j := Nat.pos_of_ne_zero (by simp)
    have h128 : 128 ≤ v := Nat.le_trans (by rw [Nat.pow_succ]; omega) hv
    rw [down_succ, lead_pos (by omega : 0 < v / 128)]
    congr 1
    refine down_lead j (v / 128) ?_ (.inr ?_)
    · rw [Nat.div_div_eq_div_mul, Nat.mul_comm, ← Nat.pow_succ]; exact h
    · rw [Nat.le_div_iff_mul_le (by omega), ← Nat.pow_succ]; exact hv

theorem lead_length : ∀ (k v : Nat), v < 128 ^ k → (lead v).length ≤ k
  | 0, v, h => by
    have : v = 0 := by simp at h; omega
    subst this; simp [lead_zero]
  | k + 1, v, h => by
    rcases Nat.eq_zero_or_pos v with e | e
    · subst e; simp [lead_zero]
    · rw [lead_pos e]
      have := lead_length k (v / 128) (by rw [Nat.div_lt_iff_lt_mul (by omega), ← Nat.pow_succ]; exact h)
      simp; omega

theorem enc_length (v : Nat) (h : v ≤ 1099511627776) : (enc v).length ≤ 6 := by
  have := lead_length 5 (v / 128) (by omega)
  simp [enc]; omega

end V
end
