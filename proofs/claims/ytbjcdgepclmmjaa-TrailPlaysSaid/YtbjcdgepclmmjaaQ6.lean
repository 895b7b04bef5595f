/- Q6: several of this proof's own texts, one behind the other: what each proves stands at its head. -/
import Derived.Test.YtbjcdgepclmmjaaProg
import Derived.Test.YtbjcdgepclmmjaaQ5
import Derived.Test.YtbjcdgepclmmjaaA3
section
/- Printed: what the code of functions 79, 84, 10 asks for, by the framework's own reading of it; each line is checked against the code. -/

set_option linter.unusedVariables false
set_option maxRecDepth 100000
set_option maxHeartbeats 4000000
open Go Go.Ab Go.Proofs
namespace Tp
noncomputable section

noncomputable def updS (a : List AV) (H : List AObj) (x : List T.TE × List Int) : List AObj := match a with
  | _ :: .ptr q _ :: _ => (Tl.updT a H x.1 x.2).set q (.cells (T.encXt (x.1, (x.2.length : Int))))
  | _ => H
noncomputable def retP : List (Nat × Ret) := [
  (79, ⟨List T.TE × List Int, fun _ _ _ => .bool true, fun a H x => updS a H x⟩),
  (84, ⟨Bool, fun _ _ x => .bool x, fun _ H _ => H⟩)]
noncomputable def rets : FuncId → List Ret := fun f => match lookupR (retP ++ Tx.retX) f with
  | [] => Td.rets f
  | l => l

-- 79
noncomputable def l79 : Nat → List Nat
  | _ => []
noncomputable def u79 : Nat → Bool
  | _ => false
noncomputable def m79 : Nat → Bool
  | _ => false
noncomputable def g79 : Cfg := { N := 49, live := l79, cut := u79, mu := m79, ret := rets }
theorem s79 : ∀ (E : List T.TE) (L : List Int) (d : T.Dt) (Post : AV → List AObj → Prop),
  condP (Prod.fst d == (0 : Int))
      (ASpec Try.prog 31 [AV.ptr 0 0, AV.str { data := List.toArray (Prod.fst (Prod.snd (Prod.snd (Prod.snd d)))) }, AV.int IntKind.i64 (Prod.fst (Prod.snd d))]
        [AObj.cells [AV.sl 5 (Seq.map T.encTE T.noTE E) (Tip.tok 1), AV.sl 1 (Seq.map encI (0 : Int) L) (Tip.tok 2)], AObj.tok, AObj.tok,
        AObj.cells [AV.sl 5 (Seq.map T.encTE T.noTE E) Tip.none, AV.int IntKind.i64 (↑(List.length L) : Int)],
        AObj.cells
        [AV.int IntKind.i64 (Prod.fst d), AV.int IntKind.i64 (Prod.fst (Prod.snd d)), AV.int IntKind.i64 (Prod.fst (Prod.snd (Prod.snd d))),
        AV.str { data := List.toArray (Prod.fst (Prod.snd (Prod.snd (Prod.snd d)))) },
        AV.sl 2 (Seq.map T.encS ((0 : Int), (0 : Int)) (Prod.fst (Prod.snd (Prod.snd (Prod.snd (Prod.snd d)))))) Tip.none,
        AV.bool (Prod.snd (Prod.snd (Prod.snd (Prod.snd (Prod.snd d)))))]]
        fun (r : AV) (H' : List AObj) =>
        ∃ (x : Int × List T.TE × List Int),
        r = AV.int IntKind.i64 (Prod.fst x) ∧
        H' =
        [AObj.cells
        [AV.sl 5 (Seq.map T.encTE T.noTE (Prod.fst (Prod.snd x))) (Tip.tok 5), AV.sl 1 (Seq.map encI (0 : Int) (Prod.snd (Prod.snd x))) (Tip.tok 6)],
        AObj.gone, AObj.gone, AObj.cells [AV.sl 5 (Seq.map T.encTE T.noTE E) Tip.none, AV.int IntKind.i64 (↑(List.length L) : Int)],
        AObj.cells
        [AV.int IntKind.i64 (Prod.fst d), AV.int IntKind.i64 (Prod.fst (Prod.snd d)), AV.int IntKind.i64 (Prod.fst (Prod.snd (Prod.snd d))),
        AV.str { data := List.toArray (Prod.fst (Prod.snd (Prod.snd (Prod.snd d)))) },
        AV.sl 2 (Seq.map T.encS ((0 : Int), (0 : Int)) (Prod.fst (Prod.snd (Prod.snd (Prod.snd (Prod.snd d)))))) Tip.none,
        AV.bool (Prod.snd (Prod.snd (Prod.snd (Prod.snd (Prod.snd d)))))],
        AObj.tok, AObj.tok] ∧
        (AV.int IntKind.i64 (Prod.fst (Prod.snd d)) = AV.int IntKind.i64 (Prod.fst (Prod.snd d)) ∧
        [AObj.cells
        [AV.sl 5 (Seq.map T.encTE T.noTE (Prod.fst (Prod.snd x))) (Tip.tok 5), AV.sl 1 (Seq.map encI (0 : Int) (Prod.snd (Prod.snd x))) (Tip.tok 6)],
        AObj.gone, AObj.gone, AObj.cells [AV.sl 5 (Seq.map T.encTE T.noTE E) Tip.none, AV.int IntKind.i64 (↑(List.length L) : Int)],
        AObj.cells
        [AV.int IntKind.i64 (Prod.fst d), AV.int IntKind.i64 (Prod.fst (Prod.snd d)), AV.int IntKind.i64 (Prod.fst (Prod.snd (Prod.snd d))),
        AV.str { data := List.toArray (Prod.fst (Prod.snd (Prod.snd (Prod.snd d)))) },
        AV.sl 2 (Seq.map T.encS ((0 : Int), (0 : Int)) (Prod.fst (Prod.snd (Prod.snd (Prod.snd (Prod.snd d)))))) Tip.none,
        AV.bool (Prod.snd (Prod.snd (Prod.snd (Prod.snd (Prod.snd d)))))],
        AObj.tok, AObj.tok] =
        [AObj.cells
        [AV.sl 5 (Seq.map T.encTE T.noTE (Prod.fst (Prod.snd x))) (Tip.tok 5), AV.sl 1 (Seq.map encI (0 : Int) (Prod.snd (Prod.snd x))) (Tip.tok 6)],
        AObj.gone, AObj.gone, AObj.cells [AV.sl 5 (Seq.map T.encTE T.noTE E) Tip.none, AV.int IntKind.i64 (↑(List.length L) : Int)],
        AObj.cells
        [AV.int IntKind.i64 (Prod.fst d), AV.int IntKind.i64 (Prod.fst (Prod.snd d)), AV.int IntKind.i64 (Prod.fst (Prod.snd (Prod.snd d))),
        AV.str { data := List.toArray (Prod.fst (Prod.snd (Prod.snd (Prod.snd d)))) },
        AV.sl 2 (Seq.map T.encS ((0 : Int), (0 : Int)) (Prod.fst (Prod.snd (Prod.snd (Prod.snd (Prod.snd d)))))) Tip.none,
        AV.bool (Prod.snd (Prod.snd (Prod.snd (Prod.snd (Prod.snd d)))))],
        AObj.tok, AObj.tok]) ∧
        (AV.str { data := List.toArray (Prod.fst (Prod.snd (Prod.snd (Prod.snd d)))) } = AV.str { data := List.toArray (Prod.fst (Prod.snd (Prod.snd (Prod.snd d)))) } ∧
        [AObj.cells
        [AV.sl 5 (Seq.map T.encTE T.noTE (Prod.fst (Prod.snd x))) (Tip.tok 5), AV.sl 1 (Seq.map encI (0 : Int) (Prod.snd (Prod.snd x))) (Tip.tok 6)],
        AObj.gone, AObj.gone, AObj.cells [AV.sl 5 (Seq.map T.encTE T.noTE E) Tip.none, AV.int IntKind.i64 (↑(List.length L) : Int)],
        AObj.cells
        [AV.int IntKind.i64 (Prod.fst d), AV.int IntKind.i64 (Prod.fst (Prod.snd d)), AV.int IntKind.i64 (Prod.fst (Prod.snd (Prod.snd d))),
        AV.str { data := List.toArray (Prod.fst (Prod.snd (Prod.snd (Prod.snd d)))) },
        AV.sl 2 (Seq.map T.encS ((0 : Int), (0 : Int)) (Prod.fst (Prod.snd (Prod.snd (Prod.snd (Prod.snd d)))))) Tip.none,
        AV.bool (Prod.snd (Prod.snd (Prod.snd (Prod.snd (Prod.snd d)))))],
        AObj.tok, AObj.tok] =
        [AObj.cells
        [AV.sl 5 (Seq.map T.encTE T.noTE (Prod.fst (Prod.snd x))) (Tip.tok 5), AV.sl 1 (Seq.map encI (0 : Int) (Prod.snd (Prod.snd x))) (Tip.tok 6)],
        AObj.gone, AObj.gone, AObj.cells [AV.sl 5 (Seq.map T.encTE T.noTE E) Tip.none, AV.int IntKind.i64 (↑(List.length L) : Int)],
        AObj.cells
        [AV.int IntKind.i64 (Prod.fst d), AV.int IntKind.i64 (Prod.fst (Prod.snd d)), AV.int IntKind.i64 (Prod.fst (Prod.snd (Prod.snd d))),
        AV.str { data := List.toArray (Prod.fst (Prod.snd (Prod.snd (Prod.snd d)))) },
        AV.sl 2 (Seq.map T.encS ((0 : Int), (0 : Int)) (Prod.fst (Prod.snd (Prod.snd (Prod.snd (Prod.snd d)))))) Tip.none,
        AV.bool (Prod.snd (Prod.snd (Prod.snd (Prod.snd (Prod.snd d)))))],
        AObj.tok, AObj.tok]) ∧
        ASpec Try.prog 197 [AV.ptr 3 0, AV.str { data := List.toArray (Prod.fst (Prod.snd (Prod.snd (Prod.snd d)))) }, AV.int IntKind.i64 (Prod.fst (Prod.snd d))]
        [AObj.cells
        [AV.sl 5 (Seq.map T.encTE T.noTE (Prod.fst (Prod.snd x))) (Tip.tok 5), AV.sl 1 (Seq.map encI (0 : Int) (Prod.snd (Prod.snd x))) (Tip.tok 6)],
        AObj.gone, AObj.gone, AObj.cells [AV.sl 5 (Seq.map T.encTE T.noTE E) Tip.none, AV.int IntKind.i64 (↑(List.length L) : Int)],
        AObj.cells
        [AV.int IntKind.i64 (Prod.fst d), AV.int IntKind.i64 (Prod.fst (Prod.snd d)), AV.int IntKind.i64 (Prod.fst (Prod.snd (Prod.snd d))),
        AV.str { data := List.toArray (Prod.fst (Prod.snd (Prod.snd (Prod.snd d)))) },
        AV.sl 2 (Seq.map T.encS ((0 : Int), (0 : Int)) (Prod.fst (Prod.snd (Prod.snd (Prod.snd (Prod.snd d)))))) Tip.none,
        AV.bool (Prod.snd (Prod.snd (Prod.snd (Prod.snd (Prod.snd d)))))],
        AObj.tok, AObj.tok]
        fun (r : AV) (H' : List AObj) =>
        ∃ (x_1 : Int × T.Xt),
        r = AV.int IntKind.i64 (Prod.fst x_1) ∧
        H' =
        [AObj.cells
        [AV.sl 5 (Seq.map T.encTE T.noTE (Prod.fst (Prod.snd x))) (Tip.tok 5),
        AV.sl 1 (Seq.map encI (0 : Int) (Prod.snd (Prod.snd x))) (Tip.tok 6)],
        AObj.gone, AObj.gone, AObj.cells [AV.sl 5 (Seq.map T.encTE T.noTE (Prod.fst (Prod.snd x_1))) Tip.none, AV.int IntKind.i64 (Prod.snd (Prod.snd x_1))],
        AObj.cells
        [AV.int IntKind.i64 (Prod.fst d), AV.int IntKind.i64 (Prod.fst (Prod.snd d)), AV.int IntKind.i64 (Prod.fst (Prod.snd (Prod.snd d))),
        AV.str { data := List.toArray (Prod.fst (Prod.snd (Prod.snd (Prod.snd d)))) },
        AV.sl 2 (Seq.map T.encS ((0 : Int), (0 : Int)) (Prod.fst (Prod.snd (Prod.snd (Prod.snd (Prod.snd d)))))) Tip.none,
        AV.bool (Prod.snd (Prod.snd (Prod.snd (Prod.snd (Prod.snd d)))))],
        AObj.tok, AObj.tok] ∧
        Post (AV.bool (Prod.fst x == Prod.fst x_1))
        [AObj.cells
        [AV.sl 5 (Seq.map T.encTE T.noTE (Prod.fst (Prod.snd x))) (Tip.tok 5),
        AV.sl 1 (Seq.map encI (0 : Int) (Prod.snd (Prod.snd x))) (Tip.tok 6)],
        AObj.gone, AObj.gone, AObj.cells [AV.sl 5 (Seq.map T.encTE T.noTE (Prod.fst (Prod.snd x_1))) Tip.none, AV.int IntKind.i64 (Prod.snd (Prod.snd x_1))],
        AObj.cells
        [AV.int IntKind.i64 (Prod.fst d), AV.int IntKind.i64 (Prod.fst (Prod.snd d)), AV.int IntKind.i64 (Prod.fst (Prod.snd (Prod.snd d))),
        AV.str { data := List.toArray (Prod.fst (Prod.snd (Prod.snd (Prod.snd d)))) },
        AV.sl 2 (Seq.map T.encS ((0 : Int), (0 : Int)) (Prod.fst (Prod.snd (Prod.snd (Prod.snd (Prod.snd d)))))) Tip.none,
        AV.bool (Prod.snd (Prod.snd (Prod.snd (Prod.snd (Prod.snd d)))))],
        AObj.tok, AObj.tok])
      (condP (Prod.fst d == (1 : Int))
        (ASpec Try.prog 32
        [AV.ptr 0 0,
        AV.agg
        [AV.str { data := List.toArray (Prod.fst (Prod.snd (Prod.snd (Prod.snd d)))) },
        AV.sl 2 (Seq.map T.encS ((0 : Int), (0 : Int)) (Prod.fst (Prod.snd (Prod.snd (Prod.snd (Prod.snd d)))))) Tip.none,
        AV.bool (Prod.snd (Prod.snd (Prod.snd (Prod.snd (Prod.snd d)))))],
        AV.int IntKind.i64 (Prod.fst (Prod.snd (Prod.snd d)))]
        [AObj.cells [AV.sl 5 (Seq.map T.encTE T.noTE E) (Tip.tok 1), AV.sl 1 (Seq.map encI (0 : Int) L) (Tip.tok 2)], AObj.tok, AObj.tok,
        AObj.cells [AV.sl 5 (Seq.map T.encTE T.noTE E) Tip.none, AV.int IntKind.i64 (↑(List.length L) : Int)],
        AObj.cells
        [AV.int IntKind.i64 (Prod.fst d), AV.int IntKind.i64 (Prod.fst (Prod.snd d)), AV.int IntKind.i64 (Prod.fst (Prod.snd (Prod.snd d))),
        AV.str { data := List.toArray (Prod.fst (Prod.snd (Prod.snd (Prod.snd d)))) },
        AV.sl 2 (Seq.map T.encS ((0 : Int), (0 : Int)) (Prod.fst (Prod.snd (Prod.snd (Prod.snd (Prod.snd d)))))) Tip.none,
        AV.bool (Prod.snd (Prod.snd (Prod.snd (Prod.snd (Prod.snd d)))))]]
        fun (r : AV) (H' : List AObj) =>
        ∃ (x : Int × List T.TE × List Int),
        r = AV.int IntKind.i64 (Prod.fst x) ∧
        H' =
        [AObj.cells
        [AV.sl 5 (Seq.map T.encTE T.noTE (Prod.fst (Prod.snd x))) (Tip.tok 5), AV.sl 1 (Seq.map encI (0 : Int) (Prod.snd (Prod.snd x))) (Tip.tok 6)],
        AObj.gone, AObj.gone, AObj.cells [AV.sl 5 (Seq.map T.encTE T.noTE E) Tip.none, AV.int IntKind.i64 (↑(List.length L) : Int)],
        AObj.cells
        [AV.int IntKind.i64 (Prod.fst d), AV.int IntKind.i64 (Prod.fst (Prod.snd d)), AV.int IntKind.i64 (Prod.fst (Prod.snd (Prod.snd d))),
        AV.str { data := List.toArray (Prod.fst (Prod.snd (Prod.snd (Prod.snd d)))) },
        AV.sl 2 (Seq.map T.encS ((0 : Int), (0 : Int)) (Prod.fst (Prod.snd (Prod.snd (Prod.snd (Prod.snd d)))))) Tip.none,
        AV.bool (Prod.snd (Prod.snd (Prod.snd (Prod.snd (Prod.snd d)))))],
        AObj.tok, AObj.tok] ∧
        (AV.int IntKind.i64 (Prod.fst (Prod.snd (Prod.snd d))) = AV.int IntKind.i64 (Prod.fst (Prod.snd (Prod.snd d))) ∧
        [AObj.cells
        [AV.sl 5 (Seq.map T.encTE T.noTE (Prod.fst (Prod.snd x))) (Tip.tok 5), AV.sl 1 (Seq.map encI (0 : Int) (Prod.snd (Prod.snd x))) (Tip.tok 6)],
        AObj.gone, AObj.gone, AObj.cells [AV.sl 5 (Seq.map T.encTE T.noTE E) Tip.none, AV.int IntKind.i64 (↑(List.length L) : Int)],
        AObj.cells
        [AV.int IntKind.i64 (Prod.fst d), AV.int IntKind.i64 (Prod.fst (Prod.snd d)), AV.int IntKind.i64 (Prod.fst (Prod.snd (Prod.snd d))),
        AV.str { data := List.toArray (Prod.fst (Prod.snd (Prod.snd (Prod.snd d)))) },
        AV.sl 2 (Seq.map T.encS ((0 : Int), (0 : Int)) (Prod.fst (Prod.snd (Prod.snd (Prod.snd (Prod.snd d)))))) Tip.none,
        AV.bool (Prod.snd (Prod.snd (Prod.snd (Prod.snd (Prod.snd d)))))],
        AObj.tok, AObj.tok] =
        [AObj.cells
        [AV.sl 5 (Seq.map T.encTE T.noTE (Prod.fst (Prod.snd x))) (Tip.tok 5), AV.sl 1 (Seq.map encI (0 : Int) (Prod.snd (Prod.snd x))) (Tip.tok 6)],
        AObj.gone, AObj.gone, AObj.cells [AV.sl 5 (Seq.map T.encTE T.noTE E) Tip.none, AV.int IntKind.i64 (↑(List.length L) : Int)],
        AObj.cells
        [AV.int IntKind.i64 (Prod.fst d), AV.int IntKind.i64 (Prod.fst (Prod.snd d)), AV.int IntKind.i64 (Prod.fst (Prod.snd (Prod.snd d))),
        AV.str { data := List.toArray (Prod.fst (Prod.snd (Prod.snd (Prod.snd d)))) },
        AV.sl 2 (Seq.map T.encS ((0 : Int), (0 : Int)) (Prod.fst (Prod.snd (Prod.snd (Prod.snd (Prod.snd d)))))) Tip.none,
        AV.bool (Prod.snd (Prod.snd (Prod.snd (Prod.snd (Prod.snd d)))))],
        AObj.tok, AObj.tok]) ∧
        (AV.agg
        [AV.str { data := List.toArray (Prod.fst (Prod.snd (Prod.snd (Prod.snd d)))) },
        AV.sl 2 (Seq.map T.encS ((0 : Int), (0 : Int)) (Prod.fst (Prod.snd (Prod.snd (Prod.snd (Prod.snd d)))))) Tip.none,
        AV.bool (Prod.snd (Prod.snd (Prod.snd (Prod.snd (Prod.snd d)))))] =
        AV.agg
        [AV.str { data := List.toArray (Prod.fst (Prod.snd (Prod.snd (Prod.snd d)))) },
        AV.sl 2 (Seq.map T.encS ((0 : Int), (0 : Int)) (Prod.fst (Prod.snd (Prod.snd (Prod.snd (Prod.snd d)))))) Tip.none,
        AV.bool (Prod.snd (Prod.snd (Prod.snd (Prod.snd (Prod.snd d)))))] ∧
        [AObj.cells
        [AV.sl 5 (Seq.map T.encTE T.noTE (Prod.fst (Prod.snd x))) (Tip.tok 5),
        AV.sl 1 (Seq.map encI (0 : Int) (Prod.snd (Prod.snd x))) (Tip.tok 6)],
        AObj.gone, AObj.gone, AObj.cells [AV.sl 5 (Seq.map T.encTE T.noTE E) Tip.none, AV.int IntKind.i64 (↑(List.length L) : Int)],
        AObj.cells
        [AV.int IntKind.i64 (Prod.fst d), AV.int IntKind.i64 (Prod.fst (Prod.snd d)), AV.int IntKind.i64 (Prod.fst (Prod.snd (Prod.snd d))),
        AV.str { data := List.toArray (Prod.fst (Prod.snd (Prod.snd (Prod.snd d)))) },
        AV.sl 2 (Seq.map T.encS ((0 : Int), (0 : Int)) (Prod.fst (Prod.snd (Prod.snd (Prod.snd (Prod.snd d)))))) Tip.none,
        AV.bool (Prod.snd (Prod.snd (Prod.snd (Prod.snd (Prod.snd d)))))],
        AObj.tok, AObj.tok] =
        [AObj.cells
        [AV.sl 5 (Seq.map T.encTE T.noTE (Prod.fst (Prod.snd x))) (Tip.tok 5),
        AV.sl 1 (Seq.map encI (0 : Int) (Prod.snd (Prod.snd x))) (Tip.tok 6)],
        AObj.gone, AObj.gone, AObj.cells [AV.sl 5 (Seq.map T.encTE T.noTE E) Tip.none, AV.int IntKind.i64 (↑(List.length L) : Int)],
        AObj.cells
        [AV.int IntKind.i64 (Prod.fst d), AV.int IntKind.i64 (Prod.fst (Prod.snd d)), AV.int IntKind.i64 (Prod.fst (Prod.snd (Prod.snd d))),
        AV.str { data := List.toArray (Prod.fst (Prod.snd (Prod.snd (Prod.snd d)))) },
        AV.sl 2 (Seq.map T.encS ((0 : Int), (0 : Int)) (Prod.fst (Prod.snd (Prod.snd (Prod.snd (Prod.snd d)))))) Tip.none,
        AV.bool (Prod.snd (Prod.snd (Prod.snd (Prod.snd (Prod.snd d)))))],
        AObj.tok, AObj.tok]) ∧
        ASpec Try.prog 198
        [AV.ptr 3 0,
        AV.agg
        [AV.str { data := List.toArray (Prod.fst (Prod.snd (Prod.snd (Prod.snd d)))) },
        AV.sl 2 (Seq.map T.encS ((0 : Int), (0 : Int)) (Prod.fst (Prod.snd (Prod.snd (Prod.snd (Prod.snd d)))))) Tip.none,
        AV.bool (Prod.snd (Prod.snd (Prod.snd (Prod.snd (Prod.snd d)))))],
        AV.int IntKind.i64 (Prod.fst (Prod.snd (Prod.snd d)))]
        [AObj.cells
        [AV.sl 5 (Seq.map T.encTE T.noTE (Prod.fst (Prod.snd x))) (Tip.tok 5), AV.sl 1 (Seq.map encI (0 : Int) (Prod.snd (Prod.snd x))) (Tip.tok 6)],
        AObj.gone, AObj.gone, AObj.cells [AV.sl 5 (Seq.map T.encTE T.noTE E) Tip.none, AV.int IntKind.i64 (↑(List.length L) : Int)],
        AObj.cells
        [AV.int IntKind.i64 (Prod.fst d), AV.int IntKind.i64 (Prod.fst (Prod.snd d)), AV.int IntKind.i64 (Prod.fst (Prod.snd (Prod.snd d))),
        AV.str { data := List.toArray (Prod.fst (Prod.snd (Prod.snd (Prod.snd d)))) },
        AV.sl 2 (Seq.map T.encS ((0 : Int), (0 : Int)) (Prod.fst (Prod.snd (Prod.snd (Prod.snd (Prod.snd d)))))) Tip.none,
        AV.bool (Prod.snd (Prod.snd (Prod.snd (Prod.snd (Prod.snd d)))))],
        AObj.tok, AObj.tok]
        fun (r : AV) (H' : List AObj) =>
        ∃ (x_1 : Int × T.Xt),
        r = AV.int IntKind.i64 (Prod.fst x_1) ∧
        H' =
        [AObj.cells
        [AV.sl 5 (Seq.map T.encTE T.noTE (Prod.fst (Prod.snd x))) (Tip.tok 5),
        AV.sl 1 (Seq.map encI (0 : Int) (Prod.snd (Prod.snd x))) (Tip.tok 6)],
        AObj.gone, AObj.gone, AObj.cells [AV.sl 5 (Seq.map T.encTE T.noTE (Prod.fst (Prod.snd x_1))) Tip.none, AV.int IntKind.i64 (Prod.snd (Prod.snd x_1))],
        AObj.cells
        [AV.int IntKind.i64 (Prod.fst d), AV.int IntKind.i64 (Prod.fst (Prod.snd d)), AV.int IntKind.i64 (Prod.fst (Prod.snd (Prod.snd d))),
        AV.str { data := List.toArray (Prod.fst (Prod.snd (Prod.snd (Prod.snd d)))) },
        AV.sl 2 (Seq.map T.encS ((0 : Int), (0 : Int)) (Prod.fst (Prod.snd (Prod.snd (Prod.snd (Prod.snd d)))))) Tip.none,
        AV.bool (Prod.snd (Prod.snd (Prod.snd (Prod.snd (Prod.snd d)))))],
        AObj.tok, AObj.tok] ∧
        Post (AV.bool (Prod.fst x == Prod.fst x_1))
        [AObj.cells
        [AV.sl 5 (Seq.map T.encTE T.noTE (Prod.fst (Prod.snd x))) (Tip.tok 5),
        AV.sl 1 (Seq.map encI (0 : Int) (Prod.snd (Prod.snd x))) (Tip.tok 6)],
        AObj.gone, AObj.gone, AObj.cells [AV.sl 5 (Seq.map T.encTE T.noTE (Prod.fst (Prod.snd x_1))) Tip.none, AV.int IntKind.i64 (Prod.snd (Prod.snd x_1))],
        AObj.cells
        [AV.int IntKind.i64 (Prod.fst d), AV.int IntKind.i64 (Prod.fst (Prod.snd d)), AV.int IntKind.i64 (Prod.fst (Prod.snd (Prod.snd d))),
        AV.str { data := List.toArray (Prod.fst (Prod.snd (Prod.snd (Prod.snd d)))) },
        AV.sl 2 (Seq.map T.encS ((0 : Int), (0 : Int)) (Prod.fst (Prod.snd (Prod.snd (Prod.snd (Prod.snd d)))))) Tip.none,
        AV.bool (Prod.snd (Prod.snd (Prod.snd (Prod.snd (Prod.snd d)))))],
        AObj.tok, AObj.tok])
        (ASpec Try.prog 35 [AV.ptr 0 0, AV.int IntKind.i64 (Prod.fst (Prod.snd (Prod.snd d)))]
        [AObj.cells [AV.sl 5 (Seq.map T.encTE T.noTE E) (Tip.tok 1), AV.sl 1 (Seq.map encI (0 : Int) L) (Tip.tok 2)], AObj.tok, AObj.tok,
        AObj.cells [AV.sl 5 (Seq.map T.encTE T.noTE E) Tip.none, AV.int IntKind.i64 (↑(List.length L) : Int)],
        AObj.cells
        [AV.int IntKind.i64 (Prod.fst d), AV.int IntKind.i64 (Prod.fst (Prod.snd d)), AV.int IntKind.i64 (Prod.fst (Prod.snd (Prod.snd d))),
        AV.str { data := List.toArray (Prod.fst (Prod.snd (Prod.snd (Prod.snd d)))) },
        AV.sl 2 (Seq.map T.encS ((0 : Int), (0 : Int)) (Prod.fst (Prod.snd (Prod.snd (Prod.snd (Prod.snd d)))))) Tip.none,
        AV.bool (Prod.snd (Prod.snd (Prod.snd (Prod.snd (Prod.snd d)))))]]
        fun (r : AV) (H' : List AObj) =>
        ∃ (x : List T.TE × List Int),
        r = AV.tup [] ∧
        H' =
        [AObj.cells [AV.sl 5 (Seq.map T.encTE T.noTE (Prod.fst x)) (Tip.tok 5), AV.sl 1 (Seq.map encI (0 : Int) (Prod.snd x)) (Tip.tok 6)], AObj.gone,
        AObj.gone, AObj.cells [AV.sl 5 (Seq.map T.encTE T.noTE E) Tip.none, AV.int IntKind.i64 (↑(List.length L) : Int)],
        AObj.cells
        [AV.int IntKind.i64 (Prod.fst d), AV.int IntKind.i64 (Prod.fst (Prod.snd d)), AV.int IntKind.i64 (Prod.fst (Prod.snd (Prod.snd d))),
        AV.str { data := List.toArray (Prod.fst (Prod.snd (Prod.snd (Prod.snd d)))) },
        AV.sl 2 (Seq.map T.encS ((0 : Int), (0 : Int)) (Prod.fst (Prod.snd (Prod.snd (Prod.snd (Prod.snd d)))))) Tip.none,
        AV.bool (Prod.snd (Prod.snd (Prod.snd (Prod.snd (Prod.snd d)))))],
        AObj.tok, AObj.tok] ∧
        ASpec Try.prog 199 [AV.ptr 3 0, AV.int IntKind.i64 (Prod.fst (Prod.snd (Prod.snd d)))]
        [AObj.cells [AV.sl 5 (Seq.map T.encTE T.noTE (Prod.fst x)) (Tip.tok 5), AV.sl 1 (Seq.map encI (0 : Int) (Prod.snd x)) (Tip.tok 6)], AObj.gone,
        AObj.gone, AObj.cells [AV.sl 5 (Seq.map T.encTE T.noTE E) Tip.none, AV.int IntKind.i64 (↑(List.length L) : Int)],
        AObj.cells
        [AV.int IntKind.i64 (Prod.fst d), AV.int IntKind.i64 (Prod.fst (Prod.snd d)), AV.int IntKind.i64 (Prod.fst (Prod.snd (Prod.snd d))),
        AV.str { data := List.toArray (Prod.fst (Prod.snd (Prod.snd (Prod.snd d)))) },
        AV.sl 2 (Seq.map T.encS ((0 : Int), (0 : Int)) (Prod.fst (Prod.snd (Prod.snd (Prod.snd (Prod.snd d)))))) Tip.none,
        AV.bool (Prod.snd (Prod.snd (Prod.snd (Prod.snd (Prod.snd d)))))],
        AObj.tok, AObj.tok]
        fun (r : AV) (H' : List AObj) =>
        ∃ (x_1 : List T.TE × Int),
        r = AV.tup [] ∧
        H' =
        [AObj.cells [AV.sl 5 (Seq.map T.encTE T.noTE (Prod.fst x)) (Tip.tok 5), AV.sl 1 (Seq.map encI (0 : Int) (Prod.snd x)) (Tip.tok 6)], AObj.gone,
        AObj.gone, AObj.cells [AV.sl 5 (Seq.map T.encTE T.noTE (Prod.fst x_1)) Tip.none, AV.int IntKind.i64 (Prod.snd x_1)],
        AObj.cells
        [AV.int IntKind.i64 (Prod.fst d), AV.int IntKind.i64 (Prod.fst (Prod.snd d)), AV.int IntKind.i64 (Prod.fst (Prod.snd (Prod.snd d))),
        AV.str { data := List.toArray (Prod.fst (Prod.snd (Prod.snd (Prod.snd d)))) },
        AV.sl 2 (Seq.map T.encS ((0 : Int), (0 : Int)) (Prod.fst (Prod.snd (Prod.snd (Prod.snd (Prod.snd d)))))) Tip.none,
        AV.bool (Prod.snd (Prod.snd (Prod.snd (Prod.snd (Prod.snd d)))))],
        AObj.tok, AObj.tok] ∧
        Post (AV.bool true)
        [AObj.cells [AV.sl 5 (Seq.map T.encTE T.noTE (Prod.fst x)) (Tip.tok 5), AV.sl 1 (Seq.map encI (0 : Int) (Prod.snd x)) (Tip.tok 6)], AObj.gone,
        AObj.gone, AObj.cells [AV.sl 5 (Seq.map T.encTE T.noTE (Prod.fst x_1)) Tip.none, AV.int IntKind.i64 (Prod.snd x_1)],
        AObj.cells
        [AV.int IntKind.i64 (Prod.fst d), AV.int IntKind.i64 (Prod.fst (Prod.snd d)), AV.int IntKind.i64 (Prod.fst (Prod.snd (Prod.snd d))),
        AV.str { data := List.toArray (Prod.fst (Prod.snd (Prod.snd (Prod.snd d)))) },
        AV.sl 2 (Seq.map T.encS ((0 : Int), (0 : Int)) (Prod.fst (Prod.snd (Prod.snd (Prod.snd (Prod.snd d)))))) Tip.none,
        AV.bool (Prod.snd (Prod.snd (Prod.snd (Prod.snd (Prod.snd d)))))],
        AObj.tok, AObj.tok])) →
    ASpec Try.prog 79 [AV.ptr 0 0, AV.ptr 3 0, AV.agg (T.encDt d)] (T.HT E L ++ [AObj.cells (T.encXt (E, (↑(List.length L) : Int)))]) Post := fun E L d Post h => Go.Ab.ASpec.of_vc g79 Go.Proofs.Try.func79 (by kernel_rfl) (by kernel_rfl) (by kernel_rfl) (Go.Ab.kc (by kernel_rfl) h)

-- 84
noncomputable def l84 : Nat → List Nat
  | 4 => [0, 3, 5]
  | 9 => [0, 3]
  | _ => []
noncomputable def u84 : Nat → Bool
  | 9 => true
  | _ => false
noncomputable def m84 : Nat → Bool
  | _ => false
noncomputable def g84 : Cfg := { N := 115, live := l84, cut := u84, mu := m84, ret := rets }
noncomputable def c84 : Go.Code := Go.Ab.bodyOf Go.Proofs.Try.f84
noncomputable def q84_0 : Nat → (AV → List AObj → Prop) → AQ := fun (n : Nat) (Post : AV → List AObj → Prop) => endQ Try.prog (resultsOf Try.f84) Post
noncomputable def c84_9 : Go.Code := codeSnd (codeSnd (codeSnd c84))
noncomputable def q84_1 : Nat → (AV → List AObj → Prop) → AQ := fun (n : Nat) (Post : AV → List AObj → Prop) => seqQ (fun (s' : Slots) (H' : List AObj) => AWP Try.prog (Cfg.N g84) n c84_9 (restrict s' (Cfg.live g84 9)) H' (q84_0 n Post)) (q84_0 n Post)
noncomputable def q84_2 : Nat → (AV → List AObj → Prop) → AQ := fun (n : Nat) (Post : AV → List AObj → Prop) => blockQ 0 (q84_1 n Post)
noncomputable def c84_4 : Go.Code := codeFst (codeSnd (codeFst (codeSnd (codeSnd c84))))
theorem s84 : ∀ (E : List T.TE) (L : List Int) (Post : AV → List AObj → Prop),
  (ASpec Try.prog 80 [AV.ptr 0 0]
      [AObj.cells [AV.sl 5 (Seq.map T.encTE T.noTE E) (Tip.tok 1), AV.sl 1 (Seq.map encI (0 : Int) L) (Tip.tok 2)], AObj.tok, AObj.tok,
        AObj.cells [AV.sl 5 (Seq.map T.encTE T.noTE E) Tip.none, AV.int IntKind.i64 (↑(List.length L) : Int)]]
      fun (r : AV) (H' : List AObj) =>
      ∃ (x : Int),
        r = AV.int IntKind.i64 x ∧
        H' =
        [AObj.cells [AV.sl 5 (Seq.map T.encTE T.noTE E) (Tip.tok 1), AV.sl 1 (Seq.map encI (0 : Int) L) (Tip.tok 2)], AObj.tok, AObj.tok,
        AObj.cells [AV.sl 5 (Seq.map T.encTE T.noTE E) Tip.none, AV.int IntKind.i64 (↑(List.length L) : Int)]] ∧
        (AV.int IntKind.i64 (↑(List.length E) : Int) = AV.int IntKind.i64 (↑(List.length E) : Int) ∧
        [AObj.cells [AV.sl 5 (Seq.map T.encTE T.noTE E) (Tip.tok 1), AV.sl 1 (Seq.map encI (0 : Int) L) (Tip.tok 2)], AObj.tok, AObj.tok,
        AObj.cells [AV.sl 5 (Seq.map T.encTE T.noTE E) Tip.none, AV.int IntKind.i64 (↑(List.length L) : Int)]] =
        [AObj.cells [AV.sl 5 (Seq.map T.encTE T.noTE E) (Tip.tok 1), AV.sl 1 (Seq.map encI (0 : Int) L) (Tip.tok 2)], AObj.tok, AObj.tok,
        AObj.cells [AV.sl 5 (Seq.map T.encTE T.noTE E) Tip.none, AV.int IntKind.i64 (↑(List.length L) : Int)]]) ∧
        (AV.sl 5 (Seq.map T.encTE T.noTE E) Tip.none = AV.sl 5 (Seq.map T.encTE T.noTE E) Tip.none ∧
        [AObj.cells [AV.sl 5 (Seq.map T.encTE T.noTE E) (Tip.tok 1), AV.sl 1 (Seq.map encI (0 : Int) L) (Tip.tok 2)], AObj.tok, AObj.tok,
        AObj.cells [AV.sl 5 (Seq.map T.encTE T.noTE E) Tip.none, AV.int IntKind.i64 (↑(List.length L) : Int)]] =
        [AObj.cells [AV.sl 5 (Seq.map T.encTE T.noTE E) (Tip.tok 1), AV.sl 1 (Seq.map encI (0 : Int) L) (Tip.tok 2)], AObj.tok, AObj.tok,
        AObj.cells [AV.sl 5 (Seq.map T.encTE T.noTE E) Tip.none, AV.int IntKind.i64 (↑(List.length L) : Int)]]) ∧
        condP (x != (↑(List.length E) : Int))
        (AV.tup [] = AV.tup [] ∧
        AV.tup [] = AV.tup [] ∧
        Post (AV.bool false)
        [AObj.cells [AV.sl 5 (Seq.map T.encTE T.noTE E) (Tip.tok 1), AV.sl 1 (Seq.map encI (0 : Int) L) (Tip.tok 2)], AObj.tok, AObj.tok,
        AObj.cells [AV.sl 5 (Seq.map T.encTE T.noTE E) Tip.none, AV.int IntKind.i64 (↑(List.length L) : Int)]])
        (ASpec Try.prog 30 [AV.ptr 0 0]
        [AObj.cells [AV.sl 5 (Seq.map T.encTE T.noTE E) (Tip.tok 1), AV.sl 1 (Seq.map encI (0 : Int) L) (Tip.tok 2)], AObj.tok, AObj.tok,
        AObj.cells [AV.sl 5 (Seq.map T.encTE T.noTE E) Tip.none, AV.int IntKind.i64 (↑(List.length L) : Int)]]
        fun (r : AV) (H' : List AObj) =>
        ∃ (x : Int),
        r = AV.int IntKind.i64 x ∧
        H' =
        [AObj.cells [AV.sl 5 (Seq.map T.encTE T.noTE E) (Tip.tok 1), AV.sl 1 (Seq.map encI (0 : Int) L) (Tip.tok 2)], AObj.tok, AObj.tok,
        AObj.cells [AV.sl 5 (Seq.map T.encTE T.noTE E) Tip.none, AV.int IntKind.i64 (↑(List.length L) : Int)]] ∧
        (AV.int IntKind.i64 (↑(List.length L) : Int) = AV.int IntKind.i64 (↑(List.length L) : Int) ∧
        [AObj.cells [AV.sl 5 (Seq.map T.encTE T.noTE E) (Tip.tok 1), AV.sl 1 (Seq.map encI (0 : Int) L) (Tip.tok 2)], AObj.tok, AObj.tok,
        AObj.cells [AV.sl 5 (Seq.map T.encTE T.noTE E) Tip.none, AV.int IntKind.i64 (↑(List.length L) : Int)]] =
        [AObj.cells [AV.sl 5 (Seq.map T.encTE T.noTE E) (Tip.tok 1), AV.sl 1 (Seq.map encI (0 : Int) L) (Tip.tok 2)], AObj.tok, AObj.tok,
        AObj.cells [AV.sl 5 (Seq.map T.encTE T.noTE E) Tip.none, AV.int IntKind.i64 (↑(List.length L) : Int)]]) ∧
        condP (x != (↑(List.length L) : Int))
        (AV.tup [] = AV.tup [] ∧
        Post (AV.bool false)
        [AObj.cells [AV.sl 5 (Seq.map T.encTE T.noTE E) (Tip.tok 1), AV.sl 1 (Seq.map encI (0 : Int) L) (Tip.tok 2)], AObj.tok, AObj.tok,
        AObj.cells [AV.sl 5 (Seq.map T.encTE T.noTE E) Tip.none, AV.int IntKind.i64 (↑(List.length L) : Int)]])
        (ASpec Try.prog 82 [AV.ptr 0 0]
        [AObj.cells [AV.sl 5 (Seq.map T.encTE T.noTE E) (Tip.tok 1), AV.sl 1 (Seq.map encI (0 : Int) L) (Tip.tok 2)], AObj.tok, AObj.tok,
        AObj.cells [AV.sl 5 (Seq.map T.encTE T.noTE E) Tip.none, AV.int IntKind.i64 (↑(List.length L) : Int)]]
        fun (r : AV) (H' : List AObj) =>
        ∃ (x : List T.Pk),
        r = AV.sl 2 (Seq.map T.encPk T.noPk x) Tip.none ∧
        H' =
        [AObj.cells [AV.sl 5 (Seq.map T.encTE T.noTE E) (Tip.tok 1), AV.sl 1 (Seq.map encI (0 : Int) L) (Tip.tok 2)], AObj.tok,
        AObj.tok, AObj.cells [AV.sl 5 (Seq.map T.encTE T.noTE E) Tip.none, AV.int IntKind.i64 (↑(List.length L) : Int)]] ∧
        (AV.agg [AV.sl 5 (Seq.map T.encTE T.noTE E) Tip.none, AV.int IntKind.i64 (↑(List.length L) : Int)] =
        AV.agg [AV.sl 5 (Seq.map T.encTE T.noTE E) Tip.none, AV.int IntKind.i64 (↑(List.length L) : Int)] ∧
        [AObj.cells [AV.sl 5 (Seq.map T.encTE T.noTE E) (Tip.tok 1), AV.sl 1 (Seq.map encI (0 : Int) L) (Tip.tok 2)], AObj.tok,
        AObj.tok, AObj.cells [AV.sl 5 (Seq.map T.encTE T.noTE E) Tip.none, AV.int IntKind.i64 (↑(List.length L) : Int)]] =
        [AObj.cells [AV.sl 5 (Seq.map T.encTE T.noTE E) (Tip.tok 1), AV.sl 1 (Seq.map encI (0 : Int) L) (Tip.tok 2)], AObj.tok,
        AObj.tok, AObj.cells [AV.sl 5 (Seq.map T.encTE T.noTE E) Tip.none, AV.int IntKind.i64 (↑(List.length L) : Int)]]) ∧
        ASpec Try.prog 205 [AV.agg [AV.sl 5 (Seq.map T.encTE T.noTE E) Tip.none, AV.int IntKind.i64 (↑(List.length L) : Int)]]
        [AObj.cells [AV.sl 5 (Seq.map T.encTE T.noTE E) (Tip.tok 1), AV.sl 1 (Seq.map encI (0 : Int) L) (Tip.tok 2)], AObj.tok,
        AObj.tok, AObj.cells [AV.sl 5 (Seq.map T.encTE T.noTE E) Tip.none, AV.int IntKind.i64 (↑(List.length L) : Int)]]
        fun (r : AV) (H' : List AObj) =>
        ∃ (x_1 : List T.Pk),
        r = AV.sl 2 (Seq.map T.encPk T.noPk x_1) Tip.none ∧
        H' =
        [AObj.cells [AV.sl 5 (Seq.map T.encTE T.noTE E) (Tip.tok 1), AV.sl 1 (Seq.map encI (0 : Int) L) (Tip.tok 2)],
        AObj.tok, AObj.tok, AObj.cells [AV.sl 5 (Seq.map T.encTE T.noTE E) Tip.none, AV.int IntKind.i64 (↑(List.length L) : Int)]] ∧
        ASpec Try.prog 204 [AV.sl 2 (Seq.map T.encPk T.noPk x) Tip.none, AV.sl 2 (Seq.map T.encPk T.noPk x_1) Tip.none]
        [AObj.cells [AV.sl 5 (Seq.map T.encTE T.noTE E) (Tip.tok 1), AV.sl 1 (Seq.map encI (0 : Int) L) (Tip.tok 2)],
        AObj.tok, AObj.tok, AObj.cells [AV.sl 5 (Seq.map T.encTE T.noTE E) Tip.none, AV.int IntKind.i64 (↑(List.length L) : Int)]]
        fun (r : AV) (H' : List AObj) =>
        ∃ (x : Bool),
        r = AV.bool x ∧
        H' =
        [AObj.cells [AV.sl 5 (Seq.map T.encTE T.noTE E) (Tip.tok 1), AV.sl 1 (Seq.map encI (0 : Int) L) (Tip.tok 2)],
        AObj.tok, AObj.tok, AObj.cells [AV.sl 5 (Seq.map T.encTE T.noTE E) Tip.none, AV.int IntKind.i64 (↑(List.length L) : Int)]] ∧
        condP (!x)
        (Post (AV.bool false)
        [AObj.cells
        [AV.sl 5 (Seq.map T.encTE T.noTE E) (Tip.tok 1), AV.sl 1 (Seq.map encI (0 : Int) L) (Tip.tok 2)],
        AObj.tok, AObj.tok, AObj.cells [AV.sl 5 (Seq.map T.encTE T.noTE E) Tip.none, AV.int IntKind.i64 (↑(List.length L) : Int)]])
        (AWP Try.prog 115 3 c84_4
        [(0, AV.ptr 0 0), (3, AV.ptr 3 0), (5, AV.int IntKind.i64 (0 : Int))]
        [AObj.cells
        [AV.sl 5 (Seq.map T.encTE T.noTE E) (Tip.tok 1), AV.sl 1 (Seq.map encI (0 : Int) L) (Tip.tok 2)],
        AObj.tok, AObj.tok, AObj.cells [AV.sl 5 (Seq.map T.encTE T.noTE E) Tip.none, AV.int IntKind.i64 (↑(List.length L) : Int)]]
        (q84_2 3 Post))))) →
    ASpec Try.prog 84 [AV.ptr 0 0, AV.agg (T.encXt (E, (↑(List.length L) : Int)))] (T.HT E L) Post := fun E L Post h => Go.Ab.ASpec.of_vc g84 Go.Proofs.Try.func84 (by kernel_rfl) (by kernel_rfl) (by kernel_rfl) (Go.Ab.kc (by kernel_rfl) h)
theorem v84_4 : ∀ (E : List T.TE) (L : List Int) (i : Int) (n : Nat) (Post : AV → List AObj → Prop),
  condP (decide (i < (↑(List.length E) : Int)))
      (ASpec Try.prog 206 [AV.ptr 0 0, AV.int IntKind.i64 i]
        [AObj.cells [AV.sl 5 (Seq.map T.encTE T.noTE E) (Tip.tok 1), AV.sl 1 (Seq.map encI (0 : Int) L) (Tip.tok 2)], AObj.tok, AObj.tok,
        AObj.cells [AV.sl 5 (Seq.map T.encTE T.noTE E) Tip.none, AV.int IntKind.i64 (↑(List.length L) : Int)]]
        fun (r : AV) (H' : List AObj) =>
        ∃ (x : T.TE × Bool),
        r =
        AV.tup
        [AV.agg
        [AV.str { data := List.toArray (Prod.fst (Prod.fst (Prod.fst x))) }, AV.sl 2 (Seq.map T.encS ((0 : Int), (0 : Int)) (Prod.fst (Prod.snd (Prod.fst (Prod.fst x))))) Tip.none,
        AV.bool (Prod.snd (Prod.snd (Prod.fst (Prod.fst x)))), AV.int IntKind.i64 (Prod.fst (Prod.snd (Prod.fst x))), AV.int IntKind.i64 (Prod.snd (Prod.snd (Prod.fst x)))],
        AV.bool (Prod.snd x)] ∧
        H' =
        [AObj.cells [AV.sl 5 (Seq.map T.encTE T.noTE E) (Tip.tok 1), AV.sl 1 (Seq.map encI (0 : Int) L) (Tip.tok 2)], AObj.tok, AObj.tok,
        AObj.cells [AV.sl 5 (Seq.map T.encTE T.noTE E) Tip.none, AV.int IntKind.i64 (↑(List.length L) : Int)]] ∧
        condP (!Prod.snd x)
        (AV.tup [] = AV.tup [] ∧
        AV.tup [] = AV.tup [] ∧
        Post (AV.bool false)
        [AObj.cells [AV.sl 5 (Seq.map T.encTE T.noTE E) (Tip.tok 1), AV.sl 1 (Seq.map encI (0 : Int) L) (Tip.tok 2)], AObj.tok, AObj.tok,
        AObj.cells [AV.sl 5 (Seq.map T.encTE T.noTE E) Tip.none, AV.int IntKind.i64 (↑(List.length L) : Int)],
        AObj.cells
        [AV.str { data := List.toArray (Prod.fst (Prod.fst (Prod.fst x))) },
        AV.sl 2 (Seq.map T.encS ((0 : Int), (0 : Int)) (Prod.fst (Prod.snd (Prod.fst (Prod.fst x))))) Tip.none, AV.bool (Prod.snd (Prod.snd (Prod.fst (Prod.fst x)))),
        AV.int IntKind.i64 (Prod.fst (Prod.snd (Prod.fst x))), AV.int IntKind.i64 (Prod.snd (Prod.snd (Prod.fst x)))]])
        (needP ((0 : Int) ≤ i ∧ i < (↑(List.length E) : Int))
        (ASpec Try.prog 36
        [AV.agg
        [AV.str { data := List.toArray (Prod.fst (Prod.fst (Prod.fst x))) },
        AV.sl 2 (Seq.map T.encS ((0 : Int), (0 : Int)) (Prod.fst (Prod.snd (Prod.fst (Prod.fst x))))) Tip.none, AV.bool (Prod.snd (Prod.snd (Prod.fst (Prod.fst x))))],
        AV.agg
        [AV.str { data := List.toArray (Prod.fst (Prod.fst (List.getD E (Int.toNat i) T.noTE))) },
        AV.sl 2 (Seq.map T.encS ((0 : Int), (0 : Int)) (Prod.fst (Prod.snd (Prod.fst (List.getD E (Int.toNat i) T.noTE))))) Tip.none,
        AV.bool (Prod.snd (Prod.snd (Prod.fst (List.getD E (Int.toNat i) T.noTE))))]]
        [AObj.cells [AV.sl 5 (Seq.map T.encTE T.noTE E) (Tip.tok 1), AV.sl 1 (Seq.map encI (0 : Int) L) (Tip.tok 2)], AObj.tok, AObj.tok,
        AObj.cells [AV.sl 5 (Seq.map T.encTE T.noTE E) Tip.none, AV.int IntKind.i64 (↑(List.length L) : Int)],
        AObj.cells
        [AV.str { data := List.toArray (Prod.fst (Prod.fst (Prod.fst x))) },
        AV.sl 2 (Seq.map T.encS ((0 : Int), (0 : Int)) (Prod.fst (Prod.snd (Prod.fst (Prod.fst x))))) Tip.none, AV.bool (Prod.snd (Prod.snd (Prod.fst (Prod.fst x)))),
        AV.int IntKind.i64 (Prod.fst (Prod.snd (Prod.fst x))), AV.int IntKind.i64 (Prod.snd (Prod.snd (Prod.fst x)))]]
        fun (r : AV) (H' : List AObj) =>
        ∃ (x_1 : Bool),
        r = AV.bool x_1 ∧
        H' =
        [AObj.cells [AV.sl 5 (Seq.map T.encTE T.noTE E) (Tip.tok 1), AV.sl 1 (Seq.map encI (0 : Int) L) (Tip.tok 2)], AObj.tok, AObj.tok,
        AObj.cells [AV.sl 5 (Seq.map T.encTE T.noTE E) Tip.none, AV.int IntKind.i64 (↑(List.length L) : Int)],
        AObj.cells
        [AV.str { data := List.toArray (Prod.fst (Prod.fst (Prod.fst x))) },
        AV.sl 2 (Seq.map T.encS ((0 : Int), (0 : Int)) (Prod.fst (Prod.snd (Prod.fst (Prod.fst x))))) Tip.none, AV.bool (Prod.snd (Prod.snd (Prod.fst (Prod.fst x)))),
        AV.int IntKind.i64 (Prod.fst (Prod.snd (Prod.fst x))), AV.int IntKind.i64 (Prod.snd (Prod.snd (Prod.fst x)))]] ∧
        condP (!x_1)
        (AV.tup [] = AV.tup [] ∧
        AV.tup [] = AV.tup [] ∧
        Post (AV.bool false)
        [AObj.cells [AV.sl 5 (Seq.map T.encTE T.noTE E) (Tip.tok 1), AV.sl 1 (Seq.map encI (0 : Int) L) (Tip.tok 2)], AObj.tok, AObj.tok,
        AObj.cells [AV.sl 5 (Seq.map T.encTE T.noTE E) Tip.none, AV.int IntKind.i64 (↑(List.length L) : Int)],
        AObj.cells
        [AV.str { data := List.toArray (Prod.fst (Prod.fst (Prod.fst x))) },
        AV.sl 2 (Seq.map T.encS ((0 : Int), (0 : Int)) (Prod.fst (Prod.snd (Prod.fst (Prod.fst x))))) Tip.none,
        AV.bool (Prod.snd (Prod.snd (Prod.fst (Prod.fst x)))), AV.int IntKind.i64 (Prod.fst (Prod.snd (Prod.fst x))),
        AV.int IntKind.i64 (Prod.snd (Prod.snd (Prod.fst x)))]])
        (needP ((0 : Int) ≤ i ∧ i < (↑(List.length E) : Int))
        (condP (Prod.fst (Prod.snd (Prod.fst x)) != Prod.fst (Prod.snd (List.getD E (Int.toNat i) T.noTE)))
        (AV.tup [] = AV.tup [] ∧
        AV.tup [] = AV.tup [] ∧
        Post (AV.bool false)
        [AObj.cells [AV.sl 5 (Seq.map T.encTE T.noTE E) (Tip.tok 1), AV.sl 1 (Seq.map encI (0 : Int) L) (Tip.tok 2)], AObj.tok, AObj.tok,
        AObj.cells [AV.sl 5 (Seq.map T.encTE T.noTE E) Tip.none, AV.int IntKind.i64 (↑(List.length L) : Int)],
        AObj.cells
        [AV.str { data := List.toArray (Prod.fst (Prod.fst (Prod.fst x))) },
        AV.sl 2 (Seq.map T.encS ((0 : Int), (0 : Int)) (Prod.fst (Prod.snd (Prod.fst (Prod.fst x))))) Tip.none,
        AV.bool (Prod.snd (Prod.snd (Prod.fst (Prod.fst x)))), AV.int IntKind.i64 (Prod.fst (Prod.snd (Prod.fst x))),
        AV.int IntKind.i64 (Prod.snd (Prod.snd (Prod.fst x)))]])
        (needP ((0 : Int) ≤ i ∧ i < (↑(List.length E) : Int))
        (condP (Prod.snd (Prod.snd (Prod.fst x)) != Prod.snd (Prod.snd (List.getD E (Int.toNat i) T.noTE)))
        (AV.tup [] = AV.tup [] ∧
        AV.tup [] = AV.tup [] ∧
        Post (AV.bool false)
        [AObj.cells [AV.sl 5 (Seq.map T.encTE T.noTE E) (Tip.tok 1), AV.sl 1 (Seq.map encI (0 : Int) L) (Tip.tok 2)], AObj.tok,
        AObj.tok, AObj.cells [AV.sl 5 (Seq.map T.encTE T.noTE E) Tip.none, AV.int IntKind.i64 (↑(List.length L) : Int)],
        AObj.cells
        [AV.str { data := List.toArray (Prod.fst (Prod.fst (Prod.fst x))) },
        AV.sl 2 (Seq.map T.encS ((0 : Int), (0 : Int)) (Prod.fst (Prod.snd (Prod.fst (Prod.fst x))))) Tip.none,
        AV.bool (Prod.snd (Prod.snd (Prod.fst (Prod.fst x)))), AV.int IntKind.i64 (Prod.fst (Prod.snd (Prod.fst x))),
        AV.int IntKind.i64 (Prod.snd (Prod.snd (Prod.fst x)))]])
        (ASpec Try.prog 29 [AV.ptr 0 0, AV.str { data := List.toArray (Prod.fst (Prod.fst (Prod.fst x))) }]
        [AObj.cells [AV.sl 5 (Seq.map T.encTE T.noTE E) (Tip.tok 1), AV.sl 1 (Seq.map encI (0 : Int) L) (Tip.tok 2)], AObj.tok, AObj.tok,
        AObj.cells [AV.sl 5 (Seq.map T.encTE T.noTE E) Tip.none, AV.int IntKind.i64 (↑(List.length L) : Int)],
        AObj.cells
        [AV.str { data := List.toArray (Prod.fst (Prod.fst (Prod.fst x))) },
        AV.sl 2 (Seq.map T.encS ((0 : Int), (0 : Int)) (Prod.fst (Prod.snd (Prod.fst (Prod.fst x))))) Tip.none,
        AV.bool (Prod.snd (Prod.snd (Prod.fst (Prod.fst x)))), AV.int IntKind.i64 (Prod.fst (Prod.snd (Prod.fst x))),
        AV.int IntKind.i64 (Prod.snd (Prod.snd (Prod.fst x)))]]
        fun (r : AV) (H' : List AObj) =>
        ∃ (x_2 : List UInt8 × List T.Span × Bool),
        r =
        AV.agg
        [AV.str { data := List.toArray (Prod.fst x_2) }, AV.sl 2 (Seq.map T.encS ((0 : Int), (0 : Int)) (Prod.fst (Prod.snd x_2))) Tip.none,
        AV.bool (Prod.snd (Prod.snd x_2))] ∧
        H' =
        [AObj.cells [AV.sl 5 (Seq.map T.encTE T.noTE E) (Tip.tok 1), AV.sl 1 (Seq.map encI (0 : Int) L) (Tip.tok 2)], AObj.tok,
        AObj.tok, AObj.cells [AV.sl 5 (Seq.map T.encTE T.noTE E) Tip.none, AV.int IntKind.i64 (↑(List.length L) : Int)],
        AObj.cells
        [AV.str { data := List.toArray (Prod.fst (Prod.fst (Prod.fst x))) },
        AV.sl 2 (Seq.map T.encS ((0 : Int), (0 : Int)) (Prod.fst (Prod.snd (Prod.fst (Prod.fst x))))) Tip.none,
        AV.bool (Prod.snd (Prod.snd (Prod.fst (Prod.fst x)))), AV.int IntKind.i64 (Prod.fst (Prod.snd (Prod.fst x))),
        AV.int IntKind.i64 (Prod.snd (Prod.snd (Prod.fst x)))]] ∧
        (AV.str { data := List.toArray (Prod.fst (Prod.fst (Prod.fst x))) } = AV.str { data := List.toArray (Prod.fst (Prod.fst (Prod.fst x))) } ∧
        [AObj.cells [AV.sl 5 (Seq.map T.encTE T.noTE E) (Tip.tok 1), AV.sl 1 (Seq.map encI (0 : Int) L) (Tip.tok 2)], AObj.tok,
        AObj.tok, AObj.cells [AV.sl 5 (Seq.map T.encTE T.noTE E) Tip.none, AV.int IntKind.i64 (↑(List.length L) : Int)],
        AObj.cells
        [AV.str { data := List.toArray (Prod.fst (Prod.fst (Prod.fst x))) },
        AV.sl 2 (Seq.map T.encS ((0 : Int), (0 : Int)) (Prod.fst (Prod.snd (Prod.fst (Prod.fst x))))) Tip.none,
        AV.bool (Prod.snd (Prod.snd (Prod.fst (Prod.fst x)))), AV.int IntKind.i64 (Prod.fst (Prod.snd (Prod.fst x))),
        AV.int IntKind.i64 (Prod.snd (Prod.snd (Prod.fst x)))]] =
        [AObj.cells [AV.sl 5 (Seq.map T.encTE T.noTE E) (Tip.tok 1), AV.sl 1 (Seq.map encI (0 : Int) L) (Tip.tok 2)],
        AObj.tok, AObj.tok, AObj.cells [AV.sl 5 (Seq.map T.encTE T.noTE E) Tip.none, AV.int IntKind.i64 (↑(List.length L) : Int)],
        AObj.cells
        [AV.str { data := List.toArray (Prod.fst (Prod.fst (Prod.fst x))) },
        AV.sl 2 (Seq.map T.encS ((0 : Int), (0 : Int)) (Prod.fst (Prod.snd (Prod.fst (Prod.fst x))))) Tip.none,
        AV.bool (Prod.snd (Prod.snd (Prod.fst (Prod.fst x)))), AV.int IntKind.i64 (Prod.fst (Prod.snd (Prod.fst x))),
        AV.int IntKind.i64 (Prod.snd (Prod.snd (Prod.fst x)))]]) ∧
        (AV.agg [AV.sl 5 (Seq.map T.encTE T.noTE E) Tip.none, AV.int IntKind.i64 (↑(List.length L) : Int)] =
        AV.agg [AV.sl 5 (Seq.map T.encTE T.noTE E) Tip.none, AV.int IntKind.i64 (↑(List.length L) : Int)] ∧
        [AObj.cells [AV.sl 5 (Seq.map T.encTE T.noTE E) (Tip.tok 1), AV.sl 1 (Seq.map encI (0 : Int) L) (Tip.tok 2)],
        AObj.tok, AObj.tok, AObj.cells [AV.sl 5 (Seq.map T.encTE T.noTE E) Tip.none, AV.int IntKind.i64 (↑(List.length L) : Int)],
        AObj.cells
        [AV.str { data := List.toArray (Prod.fst (Prod.fst (Prod.fst x))) },
        AV.sl 2 (Seq.map T.encS ((0 : Int), (0 : Int)) (Prod.fst (Prod.snd (Prod.fst (Prod.fst x))))) Tip.none,
        AV.bool (Prod.snd (Prod.snd (Prod.fst (Prod.fst x)))), AV.int IntKind.i64 (Prod.fst (Prod.snd (Prod.fst x))),
        AV.int IntKind.i64 (Prod.snd (Prod.snd (Prod.fst x)))]] =
        [AObj.cells [AV.sl 5 (Seq.map T.encTE T.noTE E) (Tip.tok 1), AV.sl 1 (Seq.map encI (0 : Int) L) (Tip.tok 2)],
        AObj.tok, AObj.tok, AObj.cells [AV.sl 5 (Seq.map T.encTE T.noTE E) Tip.none, AV.int IntKind.i64 (↑(List.length L) : Int)],
        AObj.cells
        [AV.str { data := List.toArray (Prod.fst (Prod.fst (Prod.fst x))) },
        AV.sl 2 (Seq.map T.encS ((0 : Int), (0 : Int)) (Prod.fst (Prod.snd (Prod.fst (Prod.fst x))))) Tip.none,
        AV.bool (Prod.snd (Prod.snd (Prod.fst (Prod.fst x)))), AV.int IntKind.i64 (Prod.fst (Prod.snd (Prod.fst x))),
        AV.int IntKind.i64 (Prod.snd (Prod.snd (Prod.fst x)))]]) ∧
        ASpec Try.prog 207
        [AV.agg [AV.sl 5 (Seq.map T.encTE T.noTE E) Tip.none, AV.int IntKind.i64 (↑(List.length L) : Int)],
        AV.str { data := List.toArray (Prod.fst (Prod.fst (Prod.fst x))) }]
        [AObj.cells [AV.sl 5 (Seq.map T.encTE T.noTE E) (Tip.tok 1), AV.sl 1 (Seq.map encI (0 : Int) L) (Tip.tok 2)],
        AObj.tok, AObj.tok, AObj.cells [AV.sl 5 (Seq.map T.encTE T.noTE E) Tip.none, AV.int IntKind.i64 (↑(List.length L) : Int)],
        AObj.cells
        [AV.str { data := List.toArray (Prod.fst (Prod.fst (Prod.fst x))) },
        AV.sl 2 (Seq.map T.encS ((0 : Int), (0 : Int)) (Prod.fst (Prod.snd (Prod.fst (Prod.fst x))))) Tip.none,
        AV.bool (Prod.snd (Prod.snd (Prod.fst (Prod.fst x)))), AV.int IntKind.i64 (Prod.fst (Prod.snd (Prod.fst x))),
        AV.int IntKind.i64 (Prod.snd (Prod.snd (Prod.fst x)))]]
        fun (r : AV) (H' : List AObj) =>
        ∃ (x_3 : List UInt8 × List T.Span × Bool),
        r =
        AV.agg
        [AV.str { data := List.toArray (Prod.fst x_3) }, AV.sl 2 (Seq.map T.encS ((0 : Int), (0 : Int)) (Prod.fst (Prod.snd x_3))) Tip.none,
        AV.bool (Prod.snd (Prod.snd x_3))] ∧
        H' =
        [AObj.cells [AV.sl 5 (Seq.map T.encTE T.noTE E) (Tip.tok 1), AV.sl 1 (Seq.map encI (0 : Int) L) (Tip.tok 2)],
        AObj.tok, AObj.tok, AObj.cells [AV.sl 5 (Seq.map T.encTE T.noTE E) Tip.none, AV.int IntKind.i64 (↑(List.length L) : Int)],
        AObj.cells
        [AV.str { data := List.toArray (Prod.fst (Prod.fst (Prod.fst x))) },
        AV.sl 2 (Seq.map T.encS ((0 : Int), (0 : Int)) (Prod.fst (Prod.snd (Prod.fst (Prod.fst x))))) Tip.none,
        AV.bool (Prod.snd (Prod.snd (Prod.fst (Prod.fst x)))), AV.int IntKind.i64 (Prod.fst (Prod.snd (Prod.fst x))),
        AV.int IntKind.i64 (Prod.snd (Prod.snd (Prod.fst x)))]] ∧
        ASpec Try.prog 36
        [AV.agg
        [AV.str { data := List.toArray (Prod.fst x_2) },
        AV.sl 2 (Seq.map T.encS ((0 : Int), (0 : Int)) (Prod.fst (Prod.snd x_2))) Tip.none, AV.bool (Prod.snd (Prod.snd x_2))],
        AV.agg
        [AV.str { data := List.toArray (Prod.fst x_3) },
        AV.sl 2 (Seq.map T.encS ((0 : Int), (0 : Int)) (Prod.fst (Prod.snd x_3))) Tip.none, AV.bool (Prod.snd (Prod.snd x_3))]]
        [AObj.cells [AV.sl 5 (Seq.map T.encTE T.noTE E) (Tip.tok 1), AV.sl 1 (Seq.map encI (0 : Int) L) (Tip.tok 2)],
        AObj.tok, AObj.tok, AObj.cells [AV.sl 5 (Seq.map T.encTE T.noTE E) Tip.none, AV.int IntKind.i64 (↑(List.length L) : Int)],
        AObj.cells
        [AV.str { data := List.toArray (Prod.fst (Prod.fst (Prod.fst x))) },
        AV.sl 2 (Seq.map T.encS ((0 : Int), (0 : Int)) (Prod.fst (Prod.snd (Prod.fst (Prod.fst x))))) Tip.none,
        AV.bool (Prod.snd (Prod.snd (Prod.fst (Prod.fst x)))), AV.int IntKind.i64 (Prod.fst (Prod.snd (Prod.fst x))),
        AV.int IntKind.i64 (Prod.snd (Prod.snd (Prod.fst x)))]]
        fun (r : AV) (H' : List AObj) =>
        ∃ (x_4 : Bool),
        r = AV.bool x_4 ∧
        H' =
        [AObj.cells
        [AV.sl 5 (Seq.map T.encTE T.noTE E) (Tip.tok 1), AV.sl 1 (Seq.map encI (0 : Int) L) (Tip.tok 2)],
        AObj.tok, AObj.tok, AObj.cells [AV.sl 5 (Seq.map T.encTE T.noTE E) Tip.none, AV.int IntKind.i64 (↑(List.length L) : Int)],
        AObj.cells
        [AV.str { data := List.toArray (Prod.fst (Prod.fst (Prod.fst x))) },
        AV.sl 2 (Seq.map T.encS ((0 : Int), (0 : Int)) (Prod.fst (Prod.snd (Prod.fst (Prod.fst x))))) Tip.none,
        AV.bool (Prod.snd (Prod.snd (Prod.fst (Prod.fst x)))), AV.int IntKind.i64 (Prod.fst (Prod.snd (Prod.fst x))),
        AV.int IntKind.i64 (Prod.snd (Prod.snd (Prod.fst x)))]] ∧
        condP (!x_4)
        (Post (AV.bool false)
        [AObj.cells
        [AV.sl 5 (Seq.map T.encTE T.noTE E) (Tip.tok 1),
        AV.sl 1 (Seq.map encI (0 : Int) L) (Tip.tok 2)],
        AObj.tok, AObj.tok, AObj.cells [AV.sl 5 (Seq.map T.encTE T.noTE E) Tip.none, AV.int IntKind.i64 (↑(List.length L) : Int)],
        AObj.cells
        [AV.str { data := List.toArray (Prod.fst (Prod.fst (Prod.fst x))) },
        AV.sl 2 (Seq.map T.encS ((0 : Int), (0 : Int)) (Prod.fst (Prod.snd (Prod.fst (Prod.fst x))))) Tip.none,
        AV.bool (Prod.snd (Prod.snd (Prod.fst (Prod.fst x)))), AV.int IntKind.i64 (Prod.fst (Prod.snd (Prod.fst x))),
        AV.int IntKind.i64 (Prod.snd (Prod.snd (Prod.fst x)))]])
        (AWP Try.prog 115 n c84_4
        [(0, AV.ptr 0 0), (3, AV.ptr 3 0),
        (5, AV.int IntKind.i64 (IntKind.wrap IntKind.i64 (i + (1 : Int))))]
        [AObj.cells
        [AV.sl 5 (Seq.map T.encTE T.noTE E) (Tip.tok 1),
        AV.sl 1 (Seq.map encI (0 : Int) L) (Tip.tok 2)],
        AObj.tok, AObj.tok, AObj.cells [AV.sl 5 (Seq.map T.encTE T.noTE E) Tip.none, AV.int IntKind.i64 (↑(List.length L) : Int)],
        AObj.cells
        [AV.str { data := List.toArray (Prod.fst (Prod.fst (Prod.fst x))) },
        AV.sl 2 (Seq.map T.encS ((0 : Int), (0 : Int)) (Prod.fst (Prod.snd (Prod.fst (Prod.fst x))))) Tip.none,
        AV.bool (Prod.snd (Prod.snd (Prod.fst (Prod.fst x)))), AV.int IntKind.i64 (Prod.fst (Prod.snd (Prod.fst x))),
        AV.int IntKind.i64 (Prod.snd (Prod.snd (Prod.fst x)))]]
        (q84_2 n Post))))))))))
      (AWP Try.prog 115 n c84_9 [(0, AV.ptr 0 0), (3, AV.ptr 3 0)]
        [AObj.cells [AV.sl 5 (Seq.map T.encTE T.noTE E) (Tip.tok 1), AV.sl 1 (Seq.map encI (0 : Int) L) (Tip.tok 2)], AObj.tok, AObj.tok,
        AObj.cells [AV.sl 5 (Seq.map T.encTE T.noTE E) Tip.none, AV.int IntKind.i64 (↑(List.length L) : Int)]]
        (q84_0 n Post)) →
    AWP Try.prog 115 n c84_4 [(0, AV.ptr 0 0), (3, AV.ptr 3 0), (5, AV.int IntKind.i64 i)]
      (T.HT E L ++ [AObj.cells (T.encXt (E, (↑(List.length L) : Int)))]) (q84_2 n Post) := fun E L i n Post h => Go.Ab.AWP.loop' g84 (Cfg.live g84) c84_4 (by kernel_rfl) (by kernel_rfl) (Go.Ab.kc (by kernel_rfl) h)
theorem v84_9 : ∀ (E : List T.TE) (L : List Int) (n : Nat) (Post : AV → List AObj → Prop),
  (ASpec Try.prog 206 [AV.ptr 0 0, AV.int IntKind.i64 (-1 : Int)]
      [AObj.cells [AV.sl 5 (Seq.map T.encTE T.noTE E) (Tip.tok 1), AV.sl 1 (Seq.map encI (0 : Int) L) (Tip.tok 2)], AObj.tok, AObj.tok,
        AObj.cells [AV.sl 5 (Seq.map T.encTE T.noTE E) Tip.none, AV.int IntKind.i64 (↑(List.length L) : Int)]]
      fun (r : AV) (H' : List AObj) =>
      ∃ (x : T.TE × Bool),
        r =
        AV.tup
        [AV.agg
        [AV.str { data := List.toArray (Prod.fst (Prod.fst (Prod.fst x))) }, AV.sl 2 (Seq.map T.encS ((0 : Int), (0 : Int)) (Prod.fst (Prod.snd (Prod.fst (Prod.fst x))))) Tip.none,
        AV.bool (Prod.snd (Prod.snd (Prod.fst (Prod.fst x)))), AV.int IntKind.i64 (Prod.fst (Prod.snd (Prod.fst x))), AV.int IntKind.i64 (Prod.snd (Prod.snd (Prod.fst x)))],
        AV.bool (Prod.snd x)] ∧
        H' =
        [AObj.cells [AV.sl 5 (Seq.map T.encTE T.noTE E) (Tip.tok 1), AV.sl 1 (Seq.map encI (0 : Int) L) (Tip.tok 2)], AObj.tok, AObj.tok,
        AObj.cells [AV.sl 5 (Seq.map T.encTE T.noTE E) Tip.none, AV.int IntKind.i64 (↑(List.length L) : Int)]] ∧
        ASpec Try.prog 206 [AV.ptr 0 0, AV.int IntKind.i64 (↑(List.length E) : Int)]
        [AObj.cells [AV.sl 5 (Seq.map T.encTE T.noTE E) (Tip.tok 1), AV.sl 1 (Seq.map encI (0 : Int) L) (Tip.tok 2)], AObj.tok, AObj.tok,
        AObj.cells [AV.sl 5 (Seq.map T.encTE T.noTE E) Tip.none, AV.int IntKind.i64 (↑(List.length L) : Int)],
        AObj.cells
        [AV.str { data := List.toArray (Prod.fst (Prod.fst (Prod.fst x))) }, AV.sl 2 (Seq.map T.encS ((0 : Int), (0 : Int)) (Prod.fst (Prod.snd (Prod.fst (Prod.fst x))))) Tip.none,
        AV.bool (Prod.snd (Prod.snd (Prod.fst (Prod.fst x)))), AV.int IntKind.i64 (Prod.fst (Prod.snd (Prod.fst x))), AV.int IntKind.i64 (Prod.snd (Prod.snd (Prod.fst x)))]]
        fun (r : AV) (H' : List AObj) =>
        ∃ (x_1 : T.TE × Bool),
        r =
        AV.tup
        [AV.agg
        [AV.str { data := List.toArray (Prod.fst (Prod.fst (Prod.fst x_1))) },
        AV.sl 2 (Seq.map T.encS ((0 : Int), (0 : Int)) (Prod.fst (Prod.snd (Prod.fst (Prod.fst x_1))))) Tip.none, AV.bool (Prod.snd (Prod.snd (Prod.fst (Prod.fst x_1)))),
        AV.int IntKind.i64 (Prod.fst (Prod.snd (Prod.fst x_1))), AV.int IntKind.i64 (Prod.snd (Prod.snd (Prod.fst x_1)))],
        AV.bool (Prod.snd x_1)] ∧
        H' =
        [AObj.cells [AV.sl 5 (Seq.map T.encTE T.noTE E) (Tip.tok 1), AV.sl 1 (Seq.map encI (0 : Int) L) (Tip.tok 2)], AObj.tok, AObj.tok,
        AObj.cells [AV.sl 5 (Seq.map T.encTE T.noTE E) Tip.none, AV.int IntKind.i64 (↑(List.length L) : Int)],
        AObj.cells
        [AV.str { data := List.toArray (Prod.fst (Prod.fst (Prod.fst x))) },
        AV.sl 2 (Seq.map T.encS ((0 : Int), (0 : Int)) (Prod.fst (Prod.snd (Prod.fst (Prod.fst x))))) Tip.none, AV.bool (Prod.snd (Prod.snd (Prod.fst (Prod.fst x)))),
        AV.int IntKind.i64 (Prod.fst (Prod.snd (Prod.fst x))), AV.int IntKind.i64 (Prod.snd (Prod.snd (Prod.fst x)))]] ∧
        condP (!Prod.snd x)
        (Post (AV.bool !Prod.snd x_1)
        [AObj.cells [AV.sl 5 (Seq.map T.encTE T.noTE E) (Tip.tok 1), AV.sl 1 (Seq.map encI (0 : Int) L) (Tip.tok 2)], AObj.tok, AObj.tok,
        AObj.cells [AV.sl 5 (Seq.map T.encTE T.noTE E) Tip.none, AV.int IntKind.i64 (↑(List.length L) : Int)],
        AObj.cells
        [AV.str { data := List.toArray (Prod.fst (Prod.fst (Prod.fst x))) },
        AV.sl 2 (Seq.map T.encS ((0 : Int), (0 : Int)) (Prod.fst (Prod.snd (Prod.fst (Prod.fst x))))) Tip.none, AV.bool (Prod.snd (Prod.snd (Prod.fst (Prod.fst x)))),
        AV.int IntKind.i64 (Prod.fst (Prod.snd (Prod.fst x))), AV.int IntKind.i64 (Prod.snd (Prod.snd (Prod.fst x)))],
        AObj.cells
        [AV.str { data := List.toArray (Prod.fst (Prod.fst (Prod.fst x_1))) },
        AV.sl 2 (Seq.map T.encS ((0 : Int), (0 : Int)) (Prod.fst (Prod.snd (Prod.fst (Prod.fst x_1))))) Tip.none, AV.bool (Prod.snd (Prod.snd (Prod.fst (Prod.fst x_1)))),
        AV.int IntKind.i64 (Prod.fst (Prod.snd (Prod.fst x_1))), AV.int IntKind.i64 (Prod.snd (Prod.snd (Prod.fst x_1)))]])
        (Post (AV.bool false)
        [AObj.cells [AV.sl 5 (Seq.map T.encTE T.noTE E) (Tip.tok 1), AV.sl 1 (Seq.map encI (0 : Int) L) (Tip.tok 2)], AObj.tok, AObj.tok,
        AObj.cells [AV.sl 5 (Seq.map T.encTE T.noTE E) Tip.none, AV.int IntKind.i64 (↑(List.length L) : Int)],
        AObj.cells
        [AV.str { data := List.toArray (Prod.fst (Prod.fst (Prod.fst x))) },
        AV.sl 2 (Seq.map T.encS ((0 : Int), (0 : Int)) (Prod.fst (Prod.snd (Prod.fst (Prod.fst x))))) Tip.none, AV.bool (Prod.snd (Prod.snd (Prod.fst (Prod.fst x)))),
        AV.int IntKind.i64 (Prod.fst (Prod.snd (Prod.fst x))), AV.int IntKind.i64 (Prod.snd (Prod.snd (Prod.fst x)))],
        AObj.cells
        [AV.str { data := List.toArray (Prod.fst (Prod.fst (Prod.fst x_1))) },
        AV.sl 2 (Seq.map T.encS ((0 : Int), (0 : Int)) (Prod.fst (Prod.snd (Prod.fst (Prod.fst x_1))))) Tip.none, AV.bool (Prod.snd (Prod.snd (Prod.fst (Prod.fst x_1)))),
        AV.int IntKind.i64 (Prod.fst (Prod.snd (Prod.fst x_1))), AV.int IntKind.i64 (Prod.snd (Prod.snd (Prod.fst x_1)))]])) →
    AWP Try.prog 115 n c84_9 [(0, AV.ptr 0 0), (3, AV.ptr 3 0)] (T.HT E L ++ [AObj.cells (T.encXt (E, (↑(List.length L) : Int)))])
      (q84_0 n Post) := fun E L n Post h => Go.Ab.awp_sound g84 n _ _ _ _ (Go.Ab.kc (by kernel_rfl) h)

-- 10
noncomputable def l10 : Nat → List Nat
  | 6 => [0, 1, 5, 7, 8, 9]
  | 10 => [1, 5, 7, 8]
  | 12 => [1, 5, 7, 8, 10]
  | 14 => [1, 5, 7, 8]
  | _ => []
noncomputable def u10 : Nat → Bool
  | 10 => true
  | 12 => true
  | 14 => true
  | _ => false
noncomputable def m10 : Nat → Bool
  | _ => false
noncomputable def g10 : Cfg := { N := 139, live := l10, cut := u10, mu := m10, ret := rets }
noncomputable def c10 : Go.Code := Go.Ab.bodyOf Go.Proofs.Try.f10
noncomputable def q10_0 : Nat → (AV → List AObj → Prop) → AQ := fun (n : Nat) (Post : AV → List AObj → Prop) => endQ Try.prog (resultsOf Try.f10) Post
noncomputable def c10_10 : Go.Code := codeSnd (codeSnd (codeSnd (codeSnd (codeSnd c10))))
noncomputable def q10_1 : Nat → (AV → List AObj → Prop) → AQ := fun (n : Nat) (Post : AV → List AObj → Prop) => seqQ (fun (s' : Slots) (H' : List AObj) => AWP Try.prog (Cfg.N g10) n c10_10 (restrict s' (Cfg.live g10 10)) H' (q10_0 n Post)) (q10_0 n Post)
noncomputable def q10_2 : Nat → (AV → List AObj → Prop) → AQ := fun (n : Nat) (Post : AV → List AObj → Prop) => blockQ 0 (q10_1 n Post)
noncomputable def c10_6 : Go.Code := codeFst (codeSnd (codeFst (codeSnd (codeSnd (codeSnd (codeSnd c10))))))
theorem s10 : ∀ (m : List T.Dt) (c : List T.Term) (n : Int) (s : List UInt8) (Post : AV → List AObj → Prop),
  (ASpec Try.prog 26 [AV.sl 6 (Seq.map T.encDt T.noDt m) Tip.none] [AObj.cells [AV.int IntKind.i64 n, AV.str { data := List.toArray s }]] fun (r : AV) (H' : List AObj) =>
      ∃ (x : Bool),
        r = AV.bool x ∧
        H' = [AObj.cells [AV.int IntKind.i64 n, AV.str { data := List.toArray s }]] ∧
        condP x
        (ASpec Try.prog 27 [] [AObj.cells [AV.int IntKind.i64 n, AV.str { data := List.toArray s }]] fun (r : AV) (H' : List AObj) =>
        ∃ (x : Unit),
        r = AV.bool true ∧
        H' = [AObj.cells [AV.int IntKind.i64 n, AV.str { data := List.toArray s }]] ∧ Post (AV.bool true) [AObj.cells [AV.int IntKind.i64 n, AV.str { data := List.toArray s }]])
        (ASpec Try.prog 77 [AV.sl 3 (Seq.map T.encT T.noT c) Tip.none] [AObj.cells [AV.int IntKind.i64 n, AV.str { data := List.toArray s }]] fun (r : AV) (H' : List AObj) =>
        ∃ (x : Bool),
        r = AV.bool x ∧
        H' = [AObj.cells [AV.int IntKind.i64 n, AV.str { data := List.toArray s }]] ∧
        condP x
        (ASpec Try.prog 27 [] [AObj.cells [AV.int IntKind.i64 n, AV.str { data := List.toArray s }]] fun (r : AV) (H' : List AObj) =>
        ∃ (x : Unit),
        r = AV.bool true ∧
        H' = [AObj.cells [AV.int IntKind.i64 n, AV.str { data := List.toArray s }]] ∧ Post (AV.bool true) [AObj.cells [AV.int IntKind.i64 n, AV.str { data := List.toArray s }]])
        (ASpec Try.prog 78 [AV.sl 3 (Seq.map T.encT T.noT c) Tip.none] [AObj.cells [AV.int IntKind.i64 n, AV.str { data := List.toArray s }]]
        fun (r : AV) (H' : List AObj) =>
        ∃ (x : Bool),
        r = AV.bool x ∧
        H' = [AObj.cells [AV.int IntKind.i64 n, AV.str { data := List.toArray s }]] ∧
        condP (!x)
        (ASpec Try.prog 27 [] [AObj.cells [AV.int IntKind.i64 n, AV.str { data := List.toArray s }]] fun (r : AV) (H' : List AObj) =>
        ∃ (x : Unit),
        r = AV.bool true ∧
        H' = [AObj.cells [AV.int IntKind.i64 n, AV.str { data := List.toArray s }]] ∧
        Post (AV.bool true) [AObj.cells [AV.int IntKind.i64 n, AV.str { data := List.toArray s }]])
        (condP (decide ((↑(ByteArray.size { data := List.toArray s }) : Int) > (200 : Int)))
        (ASpec Try.prog 27 [] [AObj.cells [AV.int IntKind.i64 n, AV.str { data := List.toArray s }]] fun (r : AV) (H' : List AObj) =>
        ∃ (x : Unit),
        r = AV.bool true ∧
        H' = [AObj.cells [AV.int IntKind.i64 n, AV.str { data := List.toArray s }]] ∧
        Post (AV.bool true) [AObj.cells [AV.int IntKind.i64 n, AV.str { data := List.toArray s }]])
        (ASpec Try.prog 28 [] [AObj.cells [AV.int IntKind.i64 n, AV.str { data := List.toArray s }]] fun (r : AV) (H' : List AObj) =>
        ∃ (x : Unit),
        r = AV.ptr 1 0 ∧
        H' =
        [AObj.cells [AV.int IntKind.i64 n, AV.str { data := List.toArray s }],
        AObj.cells [AV.sl 5 (Seq.map T.encTE T.noTE []) (Tip.tok 2), AV.sl 1 (Seq.map encI (0 : Int) []) (Tip.tok 3)], AObj.tok,
        AObj.tok] ∧
        AWP Try.prog 139 0 c10_6
        [(0, AV.sl 6 (Seq.map T.encDt T.noDt m) Tip.none), (1, AV.sl 3 (Seq.map T.encT T.noT c) Tip.none),
        (5, AV.ptr 0 0), (7, AV.ptr 1 0), (8, AV.ptr 4 0),
        (9, AV.int IntKind.i64 (0 : Int))]
        [AObj.cells [AV.int IntKind.i64 n, AV.str { data := List.toArray s }],
        AObj.cells [AV.sl 5 (Seq.map T.encTE T.noTE []) (Tip.tok 2), AV.sl 1 (Seq.map encI (0 : Int) []) (Tip.tok 3)], AObj.tok,
        AObj.tok, AObj.cells [AV.sl 0 (Seq.raw []) Tip.nil, AV.int IntKind.i64 (0 : Int)]]
        (q10_2 0 Post)))))) →
    ASpec Try.prog 10 [AV.sl 6 (Seq.map T.encDt T.noDt m) Tip.none, AV.sl 3 (Seq.map T.encT T.noT c) Tip.none, AV.agg [AV.int IntKind.i64 n, AV.str { data := List.toArray s }]]
      [] Post := fun m c n s Post h => Go.Ab.ASpec.of_vc g10 Go.Proofs.Try.func10 (by kernel_rfl) (by kernel_rfl) (by kernel_rfl) (Go.Ab.kc (by kernel_rfl) h)
theorem v10_6 : ∀ (m : List T.Dt) (c : List T.Term) (n : Int) (s : List UInt8) (E : List T.TE) (L : List Int) (i : Int) (n_1 : Nat) (Post : AV → List AObj → Prop),
  condP (decide (i < (↑(List.length m) : Int)))
      (needP ((0 : Int) ≤ i ∧ i < (↑(List.length m) : Int))
        (ASpec Try.prog 79
        [AV.ptr 1 0, AV.ptr 4 0,
        AV.agg
        [AV.int IntKind.i64 (Prod.fst (List.getD m (Int.toNat i) T.noDt)), AV.int IntKind.i64 (Prod.fst (Prod.snd (List.getD m (Int.toNat i) T.noDt))),
        AV.int IntKind.i64 (Prod.fst (Prod.snd (Prod.snd (List.getD m (Int.toNat i) T.noDt)))),
        AV.str { data := List.toArray (Prod.fst (Prod.snd (Prod.snd (Prod.snd (List.getD m (Int.toNat i) T.noDt))))) },
        AV.sl 2 (Seq.map T.encS ((0 : Int), (0 : Int)) (Prod.fst (Prod.snd (Prod.snd (Prod.snd (Prod.snd (List.getD m (Int.toNat i) T.noDt))))))) Tip.none,
        AV.bool (Prod.snd (Prod.snd (Prod.snd (Prod.snd (Prod.snd (List.getD m (Int.toNat i) T.noDt))))))]]
        [AObj.cells [AV.int IntKind.i64 n, AV.str { data := List.toArray s }],
        AObj.cells [AV.sl 5 (Seq.map T.encTE T.noTE E) (Tip.tok 2), AV.sl 1 (Seq.map encI (0 : Int) L) (Tip.tok 3)], AObj.tok, AObj.tok,
        AObj.cells [AV.sl 5 (Seq.map T.encTE T.noTE E) Tip.none, AV.int IntKind.i64 (↑(List.length L) : Int)]]
        fun (r : AV) (H' : List AObj) =>
        ∃ (x : List T.TE × List Int),
        r = AV.bool true ∧
        H' =
        [AObj.cells [AV.int IntKind.i64 n, AV.str { data := List.toArray s }],
        AObj.cells [AV.sl 5 (Seq.map T.encTE T.noTE (Prod.fst x)) (Tip.tok 5), AV.sl 1 (Seq.map encI (0 : Int) (Prod.snd x)) (Tip.tok 6)], AObj.gone,
        AObj.gone, AObj.cells [AV.sl 5 (Seq.map T.encTE T.noTE (Prod.fst x)) Tip.none, AV.int IntKind.i64 (↑(List.length (Prod.snd x)) : Int)], AObj.tok, AObj.tok] ∧
        ASpec Try.prog 30 [AV.ptr 1 0]
        [AObj.cells [AV.int IntKind.i64 n, AV.str { data := List.toArray s }],
        AObj.cells [AV.sl 5 (Seq.map T.encTE T.noTE (Prod.fst x)) (Tip.tok 5), AV.sl 1 (Seq.map encI (0 : Int) (Prod.snd x)) (Tip.tok 6)], AObj.gone,
        AObj.gone, AObj.cells [AV.sl 5 (Seq.map T.encTE T.noTE (Prod.fst x)) Tip.none, AV.int IntKind.i64 (↑(List.length (Prod.snd x)) : Int)], AObj.tok, AObj.tok]
        fun (r : AV) (H' : List AObj) =>
        ∃ (x_1 : Int),
        r = AV.int IntKind.i64 x_1 ∧
        H' =
        [AObj.cells [AV.int IntKind.i64 n, AV.str { data := List.toArray s }],
        AObj.cells [AV.sl 5 (Seq.map T.encTE T.noTE (Prod.fst x)) (Tip.tok 5), AV.sl 1 (Seq.map encI (0 : Int) (Prod.snd x)) (Tip.tok 6)],
        AObj.gone, AObj.gone, AObj.cells [AV.sl 5 (Seq.map T.encTE T.noTE (Prod.fst x)) Tip.none, AV.int IntKind.i64 (↑(List.length (Prod.snd x)) : Int)], AObj.tok,
        AObj.tok] ∧
        (AV.int IntKind.i64 (↑(List.length (Prod.snd x)) : Int) = AV.int IntKind.i64 (↑(List.length (Prod.snd x)) : Int) ∧
        [AObj.cells [AV.int IntKind.i64 n, AV.str { data := List.toArray s }],
        AObj.cells [AV.sl 5 (Seq.map T.encTE T.noTE (Prod.fst x)) (Tip.tok 5), AV.sl 1 (Seq.map encI (0 : Int) (Prod.snd x)) (Tip.tok 6)],
        AObj.gone, AObj.gone, AObj.cells [AV.sl 5 (Seq.map T.encTE T.noTE (Prod.fst x)) Tip.none, AV.int IntKind.i64 (↑(List.length (Prod.snd x)) : Int)], AObj.tok,
        AObj.tok] =
        [AObj.cells [AV.int IntKind.i64 n, AV.str { data := List.toArray s }],
        AObj.cells [AV.sl 5 (Seq.map T.encTE T.noTE (Prod.fst x)) (Tip.tok 5), AV.sl 1 (Seq.map encI (0 : Int) (Prod.snd x)) (Tip.tok 6)],
        AObj.gone, AObj.gone, AObj.cells [AV.sl 5 (Seq.map T.encTE T.noTE (Prod.fst x)) Tip.none, AV.int IntKind.i64 (↑(List.length (Prod.snd x)) : Int)], AObj.tok,
        AObj.tok]) ∧
        condP (x_1 != (↑(List.length (Prod.snd x)) : Int))
        (AV.tup [] = AV.tup [] ∧
        AV.tup [] = AV.tup [] ∧
        Post (AV.bool false)
        [AObj.cells [AV.int IntKind.i64 n, AV.str { data := List.toArray s }],
        AObj.cells [AV.sl 5 (Seq.map T.encTE T.noTE (Prod.fst x)) (Tip.tok 5), AV.sl 1 (Seq.map encI (0 : Int) (Prod.snd x)) (Tip.tok 6)],
        AObj.gone, AObj.gone, AObj.cells [AV.sl 5 (Seq.map T.encTE T.noTE (Prod.fst x)) Tip.none, AV.int IntKind.i64 (↑(List.length (Prod.snd x)) : Int)], AObj.tok,
        AObj.tok])
        (ASpec Try.prog 80 [AV.ptr 1 0]
        [AObj.cells [AV.int IntKind.i64 n, AV.str { data := List.toArray s }],
        AObj.cells [AV.sl 5 (Seq.map T.encTE T.noTE (Prod.fst x)) (Tip.tok 5), AV.sl 1 (Seq.map encI (0 : Int) (Prod.snd x)) (Tip.tok 6)],
        AObj.gone, AObj.gone, AObj.cells [AV.sl 5 (Seq.map T.encTE T.noTE (Prod.fst x)) Tip.none, AV.int IntKind.i64 (↑(List.length (Prod.snd x)) : Int)], AObj.tok,
        AObj.tok]
        fun (r : AV) (H' : List AObj) =>
        ∃ (x_2 : Int),
        r = AV.int IntKind.i64 x_2 ∧
        H' =
        [AObj.cells [AV.int IntKind.i64 n, AV.str { data := List.toArray s }],
        AObj.cells
        [AV.sl 5 (Seq.map T.encTE T.noTE (Prod.fst x)) (Tip.tok 5), AV.sl 1 (Seq.map encI (0 : Int) (Prod.snd x)) (Tip.tok 6)],
        AObj.gone, AObj.gone, AObj.cells [AV.sl 5 (Seq.map T.encTE T.noTE (Prod.fst x)) Tip.none, AV.int IntKind.i64 (↑(List.length (Prod.snd x)) : Int)],
        AObj.tok, AObj.tok] ∧
        (AV.int IntKind.i64 (↑(List.length (Prod.fst x)) : Int) = AV.int IntKind.i64 (↑(List.length (Prod.fst x)) : Int) ∧
        [AObj.cells [AV.int IntKind.i64 n, AV.str { data := List.toArray s }],
        AObj.cells
        [AV.sl 5 (Seq.map T.encTE T.noTE (Prod.fst x)) (Tip.tok 5), AV.sl 1 (Seq.map encI (0 : Int) (Prod.snd x)) (Tip.tok 6)],
        AObj.gone, AObj.gone, AObj.cells [AV.sl 5 (Seq.map T.encTE T.noTE (Prod.fst x)) Tip.none, AV.int IntKind.i64 (↑(List.length (Prod.snd x)) : Int)],
        AObj.tok, AObj.tok] =
        [AObj.cells [AV.int IntKind.i64 n, AV.str { data := List.toArray s }],
        AObj.cells
        [AV.sl 5 (Seq.map T.encTE T.noTE (Prod.fst x)) (Tip.tok 5), AV.sl 1 (Seq.map encI (0 : Int) (Prod.snd x)) (Tip.tok 6)],
        AObj.gone, AObj.gone, AObj.cells [AV.sl 5 (Seq.map T.encTE T.noTE (Prod.fst x)) Tip.none, AV.int IntKind.i64 (↑(List.length (Prod.snd x)) : Int)],
        AObj.tok, AObj.tok]) ∧
        (AV.sl 5 (Seq.map T.encTE T.noTE (Prod.fst x)) Tip.none = AV.sl 5 (Seq.map T.encTE T.noTE (Prod.fst x)) Tip.none ∧
        [AObj.cells [AV.int IntKind.i64 n, AV.str { data := List.toArray s }],
        AObj.cells
        [AV.sl 5 (Seq.map T.encTE T.noTE (Prod.fst x)) (Tip.tok 5), AV.sl 1 (Seq.map encI (0 : Int) (Prod.snd x)) (Tip.tok 6)],
        AObj.gone, AObj.gone, AObj.cells [AV.sl 5 (Seq.map T.encTE T.noTE (Prod.fst x)) Tip.none, AV.int IntKind.i64 (↑(List.length (Prod.snd x)) : Int)],
        AObj.tok, AObj.tok] =
        [AObj.cells [AV.int IntKind.i64 n, AV.str { data := List.toArray s }],
        AObj.cells
        [AV.sl 5 (Seq.map T.encTE T.noTE (Prod.fst x)) (Tip.tok 5), AV.sl 1 (Seq.map encI (0 : Int) (Prod.snd x)) (Tip.tok 6)],
        AObj.gone, AObj.gone, AObj.cells [AV.sl 5 (Seq.map T.encTE T.noTE (Prod.fst x)) Tip.none, AV.int IntKind.i64 (↑(List.length (Prod.snd x)) : Int)],
        AObj.tok, AObj.tok]) ∧
        condP (x_2 != (↑(List.length (Prod.fst x)) : Int))
        (Post (AV.bool false)
        [AObj.cells [AV.int IntKind.i64 n, AV.str { data := List.toArray s }],
        AObj.cells
        [AV.sl 5 (Seq.map T.encTE T.noTE (Prod.fst x)) (Tip.tok 5), AV.sl 1 (Seq.map encI (0 : Int) (Prod.snd x)) (Tip.tok 6)],
        AObj.gone, AObj.gone, AObj.cells [AV.sl 5 (Seq.map T.encTE T.noTE (Prod.fst x)) Tip.none, AV.int IntKind.i64 (↑(List.length (Prod.snd x)) : Int)],
        AObj.tok, AObj.tok])
        (AWP Try.prog 139 n_1 c10_6
        [(0, AV.sl 6 (Seq.map T.encDt T.noDt m) Tip.none), (1, AV.sl 3 (Seq.map T.encT T.noT c) Tip.none),
        (5, AV.ptr 0 0), (7, AV.ptr 1 0), (8, AV.ptr 4 0),
        (9, AV.int IntKind.i64 (IntKind.wrap IntKind.i64 (i + (1 : Int))))]
        [AObj.cells [AV.int IntKind.i64 n, AV.str { data := List.toArray s }],
        AObj.cells
        [AV.sl 5 (Seq.map T.encTE T.noTE (Prod.fst x)) (Tip.tok 5), AV.sl 1 (Seq.map encI (0 : Int) (Prod.snd x)) (Tip.tok 6)],
        AObj.gone, AObj.gone, AObj.cells [AV.sl 5 (Seq.map T.encTE T.noTE (Prod.fst x)) Tip.none, AV.int IntKind.i64 (↑(List.length (Prod.snd x)) : Int)],
        AObj.tok, AObj.tok]
        (q10_2 n_1 Post)))))
      (AWP Try.prog 139 n_1 c10_10
        [(1, AV.sl 3 (Seq.map T.encT T.noT c) Tip.none), (5, AV.ptr 0 0), (7, AV.ptr 1 0), (8, AV.ptr 4 0)]
        [AObj.cells [AV.int IntKind.i64 n, AV.str { data := List.toArray s }],
        AObj.cells [AV.sl 5 (Seq.map T.encTE T.noTE E) (Tip.tok 2), AV.sl 1 (Seq.map encI (0 : Int) L) (Tip.tok 3)], AObj.tok, AObj.tok,
        AObj.cells [AV.sl 5 (Seq.map T.encTE T.noTE E) Tip.none, AV.int IntKind.i64 (↑(List.length L) : Int)]]
        (q10_0 n_1 Post)) →
    AWP Try.prog 139 n_1 c10_6
      [(0, AV.sl 6 (Seq.map T.encDt T.noDt m) Tip.none), (1, AV.sl 3 (Seq.map T.encT T.noT c) Tip.none), (5, AV.ptr 0 0),
        (7, AV.ptr 1 0), (8, AV.ptr 4 0), (9, AV.int IntKind.i64 i)]
      [AObj.cells [AV.int IntKind.i64 n, AV.str { data := List.toArray s }], T.tO E L 2 3, AObj.tok, AObj.tok, AObj.cells (T.encXt (E, (↑(List.length L) : Int)))] (q10_2 n_1 Post) := fun m c n s E L i n Post h => Go.Ab.AWP.loop' g10 (Cfg.live g10) c10_6 (by kernel_rfl) (by kernel_rfl) (Go.Ab.kc (by kernel_rfl) h)
noncomputable def c10_12 : Go.Code := codeSnd (codeSnd c10_10)
theorem v10_10 : ∀ (c : List T.Term) (n : Int) (s : List UInt8) (E : List T.TE) (L : List Int) (n_1 : Nat) (Post : AV → List AObj → Prop),
  (ASpec Try.prog 35 [AV.nilp, AV.int IntKind.i64 (0 : Int)]
      [AObj.cells [AV.int IntKind.i64 n, AV.str { data := List.toArray s }],
        AObj.cells [AV.sl 5 (Seq.map T.encTE T.noTE E) (Tip.tok 2), AV.sl 1 (Seq.map encI (0 : Int) L) (Tip.tok 3)], AObj.tok, AObj.tok,
        AObj.cells [AV.sl 5 (Seq.map T.encTE T.noTE E) Tip.none, AV.int IntKind.i64 (↑(List.length L) : Int)]]
      fun (r : AV) (H' : List AObj) =>
      ∃ (x : List T.TE × List Int),
        r = AV.tup [] ∧
        H' =
        [AObj.cells [AV.int IntKind.i64 n, AV.str { data := List.toArray s }],
        AObj.cells [AV.sl 5 (Seq.map T.encTE T.noTE E) (Tip.tok 2), AV.sl 1 (Seq.map encI (0 : Int) L) (Tip.tok 3)], AObj.tok, AObj.tok,
        AObj.cells [AV.sl 5 (Seq.map T.encTE T.noTE E) Tip.none, AV.int IntKind.i64 (↑(List.length L) : Int)]] ∧
        AWP Try.prog 139 n_1 c10_12
        [(1, AV.sl 3 (Seq.map T.encT T.noT c) Tip.none), (5, AV.ptr 0 0), (7, AV.ptr 1 0),
        (8, AV.ptr 4 0), (10, AV.nilp)]
        [AObj.cells [AV.int IntKind.i64 n, AV.str { data := List.toArray s }],
        AObj.cells [AV.sl 5 (Seq.map T.encTE T.noTE E) (Tip.tok 2), AV.sl 1 (Seq.map encI (0 : Int) L) (Tip.tok 3)], AObj.tok, AObj.tok,
        AObj.cells [AV.sl 5 (Seq.map T.encTE T.noTE E) Tip.none, AV.int IntKind.i64 (↑(List.length L) : Int)]]
        (q10_0 n_1 Post)) →
    AWP Try.prog 139 n_1 c10_10
      [(1, AV.sl 3 (Seq.map T.encT T.noT c) Tip.none), (5, AV.ptr 0 0), (7, AV.ptr 1 0), (8, AV.ptr 4 0)]
      [AObj.cells [AV.int IntKind.i64 n, AV.str { data := List.toArray s }], T.tO E L 2 3, AObj.tok, AObj.tok, AObj.cells (T.encXt (E, (↑(List.length L) : Int)))] (q10_0 n_1 Post) := fun c n s E L n Post h => Go.Ab.awp_sound g10 n _ _ _ _ (Go.Ab.kc (by kernel_rfl) h)
noncomputable def c10_14 : Go.Code := codeSnd c10_12
theorem v10_12 : ∀ (c : List T.Term) (n : Int) (s : List UInt8) (E : List T.TE) (L : List Int) (n_1 : Nat) (Post : AV → List AObj → Prop),
  (ASpec Try.prog 31 [AV.nilp, AV.str { data := #[(97 : UInt8)] }, AV.int IntKind.i64 (1 : Int)]
      [AObj.cells [AV.int IntKind.i64 n, AV.str { data := List.toArray s }],
        AObj.cells [AV.sl 5 (Seq.map T.encTE T.noTE E) (Tip.tok 2), AV.sl 1 (Seq.map encI (0 : Int) L) (Tip.tok 3)], AObj.tok, AObj.tok,
        AObj.cells [AV.sl 5 (Seq.map T.encTE T.noTE E) Tip.none, AV.int IntKind.i64 (↑(List.length L) : Int)]]
      fun (r : AV) (H' : List AObj) =>
      ∃ (x : Int × List T.TE × List Int),
        r = AV.int IntKind.i64 (Prod.fst x) ∧
        H' =
        [AObj.cells [AV.int IntKind.i64 n, AV.str { data := List.toArray s }],
        AObj.cells [AV.sl 5 (Seq.map T.encTE T.noTE E) (Tip.tok 2), AV.sl 1 (Seq.map encI (0 : Int) L) (Tip.tok 3)], AObj.tok, AObj.tok,
        AObj.cells [AV.sl 5 (Seq.map T.encTE T.noTE E) Tip.none, AV.int IntKind.i64 (↑(List.length L) : Int)]] ∧
        condP (Prod.fst x != (1 : Int))
        (Post (AV.bool false)
        [AObj.cells [AV.int IntKind.i64 n, AV.str { data := List.toArray s }],
        AObj.cells [AV.sl 5 (Seq.map T.encTE T.noTE E) (Tip.tok 2), AV.sl 1 (Seq.map encI (0 : Int) L) (Tip.tok 3)], AObj.tok, AObj.tok,
        AObj.cells [AV.sl 5 (Seq.map T.encTE T.noTE E) Tip.none, AV.int IntKind.i64 (↑(List.length L) : Int)]])
        (ASpec Try.prog 32 [AV.nilp, AV.agg [AV.str { data := #[(97 : UInt8)] }, AV.sl 0 (Seq.raw []) Tip.nil, AV.bool false], AV.int IntKind.i64 (1 : Int)]
        [AObj.cells [AV.int IntKind.i64 n, AV.str { data := List.toArray s }],
        AObj.cells [AV.sl 5 (Seq.map T.encTE T.noTE E) (Tip.tok 2), AV.sl 1 (Seq.map encI (0 : Int) L) (Tip.tok 3)], AObj.tok, AObj.tok,
        AObj.cells [AV.sl 5 (Seq.map T.encTE T.noTE E) Tip.none, AV.int IntKind.i64 (↑(List.length L) : Int)]]
        fun (r : AV) (H' : List AObj) =>
        ∃ (x : Int × List T.TE × List Int),
        r = AV.int IntKind.i64 (Prod.fst x) ∧
        H' =
        [AObj.cells [AV.int IntKind.i64 n, AV.str { data := List.toArray s }],
        AObj.cells [AV.sl 5 (Seq.map T.encTE T.noTE E) (Tip.tok 2), AV.sl 1 (Seq.map encI (0 : Int) L) (Tip.tok 3)], AObj.tok, AObj.tok,
        AObj.cells [AV.sl 5 (Seq.map T.encTE T.noTE E) Tip.none, AV.int IntKind.i64 (↑(List.length L) : Int)]] ∧
        condP (Prod.fst x != (1 : Int))
        (Post (AV.bool false)
        [AObj.cells [AV.int IntKind.i64 n, AV.str { data := List.toArray s }],
        AObj.cells [AV.sl 5 (Seq.map T.encTE T.noTE E) (Tip.tok 2), AV.sl 1 (Seq.map encI (0 : Int) L) (Tip.tok 3)], AObj.tok, AObj.tok,
        AObj.cells [AV.sl 5 (Seq.map T.encTE T.noTE E) Tip.none, AV.int IntKind.i64 (↑(List.length L) : Int)]])
        (ASpec Try.prog 80 [AV.nilp]
        [AObj.cells [AV.int IntKind.i64 n, AV.str { data := List.toArray s }],
        AObj.cells [AV.sl 5 (Seq.map T.encTE T.noTE E) (Tip.tok 2), AV.sl 1 (Seq.map encI (0 : Int) L) (Tip.tok 3)], AObj.tok, AObj.tok,
        AObj.cells [AV.sl 5 (Seq.map T.encTE T.noTE E) Tip.none, AV.int IntKind.i64 (↑(List.length L) : Int)]]
        fun (r : AV) (H' : List AObj) =>
        ∃ (x : Int),
        r = AV.int IntKind.i64 x ∧
        H' =
        [AObj.cells [AV.int IntKind.i64 n, AV.str { data := List.toArray s }],
        AObj.cells [AV.sl 5 (Seq.map T.encTE T.noTE E) (Tip.tok 2), AV.sl 1 (Seq.map encI (0 : Int) L) (Tip.tok 3)], AObj.tok, AObj.tok,
        AObj.cells [AV.sl 5 (Seq.map T.encTE T.noTE E) Tip.none, AV.int IntKind.i64 (↑(List.length L) : Int)]] ∧
        condP (x != (0 : Int))
        (Post (AV.bool false)
        [AObj.cells [AV.int IntKind.i64 n, AV.str { data := List.toArray s }],
        AObj.cells [AV.sl 5 (Seq.map T.encTE T.noTE E) (Tip.tok 2), AV.sl 1 (Seq.map encI (0 : Int) L) (Tip.tok 3)], AObj.tok, AObj.tok,
        AObj.cells [AV.sl 5 (Seq.map T.encTE T.noTE E) Tip.none, AV.int IntKind.i64 (↑(List.length L) : Int)]])
        (ASpec Try.prog 30 [AV.nilp]
        [AObj.cells [AV.int IntKind.i64 n, AV.str { data := List.toArray s }],
        AObj.cells [AV.sl 5 (Seq.map T.encTE T.noTE E) (Tip.tok 2), AV.sl 1 (Seq.map encI (0 : Int) L) (Tip.tok 3)], AObj.tok, AObj.tok,
        AObj.cells [AV.sl 5 (Seq.map T.encTE T.noTE E) Tip.none, AV.int IntKind.i64 (↑(List.length L) : Int)]]
        fun (r : AV) (H' : List AObj) =>
        ∃ (x : Int),
        r = AV.int IntKind.i64 x ∧
        H' =
        [AObj.cells [AV.int IntKind.i64 n, AV.str { data := List.toArray s }],
        AObj.cells [AV.sl 5 (Seq.map T.encTE T.noTE E) (Tip.tok 2), AV.sl 1 (Seq.map encI (0 : Int) L) (Tip.tok 3)], AObj.tok,
        AObj.tok, AObj.cells [AV.sl 5 (Seq.map T.encTE T.noTE E) Tip.none, AV.int IntKind.i64 (↑(List.length L) : Int)]] ∧
        condP (x != (0 : Int))
        (Post (AV.bool false)
        [AObj.cells [AV.int IntKind.i64 n, AV.str { data := List.toArray s }],
        AObj.cells [AV.sl 5 (Seq.map T.encTE T.noTE E) (Tip.tok 2), AV.sl 1 (Seq.map encI (0 : Int) L) (Tip.tok 3)], AObj.tok,
        AObj.tok, AObj.cells [AV.sl 5 (Seq.map T.encTE T.noTE E) Tip.none, AV.int IntKind.i64 (↑(List.length L) : Int)]])
        (ASpec Try.prog 81 [AV.nilp, AV.sl 0 (Seq.raw []) Tip.nil]
        [AObj.cells [AV.int IntKind.i64 n, AV.str { data := List.toArray s }],
        AObj.cells [AV.sl 5 (Seq.map T.encTE T.noTE E) (Tip.tok 2), AV.sl 1 (Seq.map encI (0 : Int) L) (Tip.tok 3)], AObj.tok,
        AObj.tok, AObj.cells [AV.sl 5 (Seq.map T.encTE T.noTE E) Tip.none, AV.int IntKind.i64 (↑(List.length L) : Int)]]
        fun (r : AV) (H' : List AObj) =>
        ∃ (x : Int),
        r = AV.int IntKind.i64 x ∧
        H' =
        [AObj.cells [AV.int IntKind.i64 n, AV.str { data := List.toArray s }],
        AObj.cells [AV.sl 5 (Seq.map T.encTE T.noTE E) (Tip.tok 2), AV.sl 1 (Seq.map encI (0 : Int) L) (Tip.tok 3)],
        AObj.tok, AObj.tok, AObj.cells [AV.sl 5 (Seq.map T.encTE T.noTE E) Tip.none, AV.int IntKind.i64 (↑(List.length L) : Int)]] ∧
        condP (x != (-1 : Int))
        (Post (AV.bool false)
        [AObj.cells [AV.int IntKind.i64 n, AV.str { data := List.toArray s }],
        AObj.cells [AV.sl 5 (Seq.map T.encTE T.noTE E) (Tip.tok 2), AV.sl 1 (Seq.map encI (0 : Int) L) (Tip.tok 3)],
        AObj.tok, AObj.tok, AObj.cells [AV.sl 5 (Seq.map T.encTE T.noTE E) Tip.none, AV.int IntKind.i64 (↑(List.length L) : Int)]])
        (ASpec Try.prog 82 [AV.nilp]
        [AObj.cells [AV.int IntKind.i64 n, AV.str { data := List.toArray s }],
        AObj.cells [AV.sl 5 (Seq.map T.encTE T.noTE E) (Tip.tok 2), AV.sl 1 (Seq.map encI (0 : Int) L) (Tip.tok 3)],
        AObj.tok, AObj.tok, AObj.cells [AV.sl 5 (Seq.map T.encTE T.noTE E) Tip.none, AV.int IntKind.i64 (↑(List.length L) : Int)]]
        fun (r : AV) (H' : List AObj) =>
        ∃ (x : List T.Pk),
        r = AV.sl 2 (Seq.map T.encPk T.noPk x) Tip.none ∧
        H' =
        [AObj.cells [AV.int IntKind.i64 n, AV.str { data := List.toArray s }],
        AObj.cells
        [AV.sl 5 (Seq.map T.encTE T.noTE E) (Tip.tok 2), AV.sl 1 (Seq.map encI (0 : Int) L) (Tip.tok 3)],
        AObj.tok, AObj.tok, AObj.cells [AV.sl 5 (Seq.map T.encTE T.noTE E) Tip.none, AV.int IntKind.i64 (↑(List.length L) : Int)]] ∧
        condP ((↑(List.length x) : Int) != (0 : Int))
        (Post (AV.bool false)
        [AObj.cells [AV.int IntKind.i64 n, AV.str { data := List.toArray s }],
        AObj.cells
        [AV.sl 5 (Seq.map T.encTE T.noTE E) (Tip.tok 2), AV.sl 1 (Seq.map encI (0 : Int) L) (Tip.tok 3)],
        AObj.tok, AObj.tok, AObj.cells [AV.sl 5 (Seq.map T.encTE T.noTE E) Tip.none, AV.int IntKind.i64 (↑(List.length L) : Int)]])
        (ASpec Try.prog 29 [AV.nilp, AV.str { data := #[(97 : UInt8)] }]
        [AObj.cells [AV.int IntKind.i64 n, AV.str { data := List.toArray s }],
        AObj.cells
        [AV.sl 5 (Seq.map T.encTE T.noTE E) (Tip.tok 2), AV.sl 1 (Seq.map encI (0 : Int) L) (Tip.tok 3)],
        AObj.tok, AObj.tok, AObj.cells [AV.sl 5 (Seq.map T.encTE T.noTE E) Tip.none, AV.int IntKind.i64 (↑(List.length L) : Int)]]
        fun (r : AV) (H' : List AObj) =>
        ∃ (x : List UInt8 × List T.Span × Bool),
        r =
        AV.agg
        [AV.str { data := List.toArray (Prod.fst x) },
        AV.sl 2 (Seq.map T.encS ((0 : Int), (0 : Int)) (Prod.fst (Prod.snd x))) Tip.none, AV.bool (Prod.snd (Prod.snd x))] ∧
        H' =
        [AObj.cells [AV.int IntKind.i64 n, AV.str { data := List.toArray s }],
        AObj.cells
        [AV.sl 5 (Seq.map T.encTE T.noTE E) (Tip.tok 2),
        AV.sl 1 (Seq.map encI (0 : Int) L) (Tip.tok 3)],
        AObj.tok, AObj.tok,
        AObj.cells [AV.sl 5 (Seq.map T.encTE T.noTE E) Tip.none, AV.int IntKind.i64 (↑(List.length L) : Int)]] ∧
        ASpec Try.prog 83
        [AV.agg
        [AV.str { data := List.toArray (Prod.fst x) },
        AV.sl 2 (Seq.map T.encS ((0 : Int), (0 : Int)) (Prod.fst (Prod.snd x))) Tip.none,
        AV.bool (Prod.snd (Prod.snd x))]]
        [AObj.cells [AV.int IntKind.i64 n, AV.str { data := List.toArray s }],
        AObj.cells
        [AV.sl 5 (Seq.map T.encTE T.noTE E) (Tip.tok 2),
        AV.sl 1 (Seq.map encI (0 : Int) L) (Tip.tok 3)],
        AObj.tok, AObj.tok,
        AObj.cells [AV.sl 5 (Seq.map T.encTE T.noTE E) Tip.none, AV.int IntKind.i64 (↑(List.length L) : Int)]]
        fun (r : AV) (H' : List AObj) =>
        ∃ (x : Bool),
        r = AV.bool x ∧
        H' =
        [AObj.cells [AV.int IntKind.i64 n, AV.str { data := List.toArray s }],
        AObj.cells
        [AV.sl 5 (Seq.map T.encTE T.noTE E) (Tip.tok 2),
        AV.sl 1 (Seq.map encI (0 : Int) L) (Tip.tok 3)],
        AObj.tok, AObj.tok,
        AObj.cells [AV.sl 5 (Seq.map T.encTE T.noTE E) Tip.none, AV.int IntKind.i64 (↑(List.length L) : Int)]] ∧
        condP (!x)
        (Post (AV.bool false)
        [AObj.cells [AV.int IntKind.i64 n, AV.str { data := List.toArray s }],
        AObj.cells
        [AV.sl 5 (Seq.map T.encTE T.noTE E) (Tip.tok 2),
        AV.sl 1 (Seq.map encI (0 : Int) L) (Tip.tok 3)],
        AObj.tok, AObj.tok,
        AObj.cells [AV.sl 5 (Seq.map T.encTE T.noTE E) Tip.none, AV.int IntKind.i64 (↑(List.length L) : Int)]])
        (AWP Try.prog 139 n_1 c10_14
        [(1, AV.sl 3 (Seq.map T.encT T.noT c) Tip.none), (5, AV.ptr 0 0),
        (7, AV.ptr 1 0), (8, AV.ptr 4 0)]
        [AObj.cells [AV.int IntKind.i64 n, AV.str { data := List.toArray s }],
        AObj.cells
        [AV.sl 5 (Seq.map T.encTE T.noTE E) (Tip.tok 2),
        AV.sl 1 (Seq.map encI (0 : Int) L) (Tip.tok 3)],
        AObj.tok, AObj.tok,
        AObj.cells [AV.sl 5 (Seq.map T.encTE T.noTE E) Tip.none, AV.int IntKind.i64 (↑(List.length L) : Int)]]
        (q10_0 n_1 Post))))))))) →
    AWP Try.prog 139 n_1 c10_12
      [(1, AV.sl 3 (Seq.map T.encT T.noT c) Tip.none), (5, AV.ptr 0 0), (7, AV.ptr 1 0), (8, AV.ptr 4 0),
        (10, AV.nilp)]
      [AObj.cells [AV.int IntKind.i64 n, AV.str { data := List.toArray s }], T.tO E L 2 3, AObj.tok, AObj.tok, AObj.cells (T.encXt (E, (↑(List.length L) : Int)))] (q10_0 n_1 Post) := fun c n s E L n Post h => Go.Ab.awp_sound g10 n _ _ _ _ (Go.Ab.kc (by kernel_rfl) h)
theorem v10_14 : ∀ (c : List T.Term) (n : Int) (s : List UInt8) (E : List T.TE) (L : List Int) (n_1 : Nat) (Post : AV → List AObj → Prop),
  (ASpec Try.prog 84 [AV.ptr 1 0, AV.agg [AV.sl 5 (Seq.map T.encTE T.noTE E) Tip.none, AV.int IntKind.i64 (↑(List.length L) : Int)]]
      [AObj.cells [AV.int IntKind.i64 n, AV.str { data := List.toArray s }],
        AObj.cells [AV.sl 5 (Seq.map T.encTE T.noTE E) (Tip.tok 2), AV.sl 1 (Seq.map encI (0 : Int) L) (Tip.tok 3)], AObj.tok, AObj.tok,
        AObj.cells [AV.sl 5 (Seq.map T.encTE T.noTE E) Tip.none, AV.int IntKind.i64 (↑(List.length L) : Int)]]
      fun (r : AV) (H' : List AObj) =>
      ∃ (x : Bool),
        r = AV.bool x ∧
        H' =
        [AObj.cells [AV.int IntKind.i64 n, AV.str { data := List.toArray s }],
        AObj.cells [AV.sl 5 (Seq.map T.encTE T.noTE E) (Tip.tok 2), AV.sl 1 (Seq.map encI (0 : Int) L) (Tip.tok 3)], AObj.tok, AObj.tok,
        AObj.cells [AV.sl 5 (Seq.map T.encTE T.noTE E) Tip.none, AV.int IntKind.i64 (↑(List.length L) : Int)]] ∧
        condP x
        (ASpec Try.prog 81 [AV.ptr 1 0, AV.sl 3 (Seq.map T.encT T.noT c) Tip.none]
        [AObj.cells [AV.int IntKind.i64 n, AV.str { data := List.toArray s }],
        AObj.cells [AV.sl 5 (Seq.map T.encTE T.noTE E) (Tip.tok 2), AV.sl 1 (Seq.map encI (0 : Int) L) (Tip.tok 3)], AObj.tok, AObj.tok,
        AObj.cells [AV.sl 5 (Seq.map T.encTE T.noTE E) Tip.none, AV.int IntKind.i64 (↑(List.length L) : Int)]]
        fun (r : AV) (H' : List AObj) =>
        ∃ (x : Int),
        r = AV.int IntKind.i64 x ∧
        H' =
        [AObj.cells [AV.int IntKind.i64 n, AV.str { data := List.toArray s }],
        AObj.cells [AV.sl 5 (Seq.map T.encTE T.noTE E) (Tip.tok 2), AV.sl 1 (Seq.map encI (0 : Int) L) (Tip.tok 3)], AObj.tok, AObj.tok,
        AObj.cells [AV.sl 5 (Seq.map T.encTE T.noTE E) Tip.none, AV.int IntKind.i64 (↑(List.length L) : Int)]] ∧
        (AV.agg [AV.sl 5 (Seq.map T.encTE T.noTE E) Tip.none, AV.int IntKind.i64 (↑(List.length L) : Int)] =
        AV.agg [AV.sl 5 (Seq.map T.encTE T.noTE E) Tip.none, AV.int IntKind.i64 (↑(List.length L) : Int)] ∧
        [AObj.cells [AV.int IntKind.i64 n, AV.str { data := List.toArray s }],
        AObj.cells [AV.sl 5 (Seq.map T.encTE T.noTE E) (Tip.tok 2), AV.sl 1 (Seq.map encI (0 : Int) L) (Tip.tok 3)], AObj.tok, AObj.tok,
        AObj.cells [AV.sl 5 (Seq.map T.encTE T.noTE E) Tip.none, AV.int IntKind.i64 (↑(List.length L) : Int)]] =
        [AObj.cells [AV.int IntKind.i64 n, AV.str { data := List.toArray s }],
        AObj.cells [AV.sl 5 (Seq.map T.encTE T.noTE E) (Tip.tok 2), AV.sl 1 (Seq.map encI (0 : Int) L) (Tip.tok 3)], AObj.tok, AObj.tok,
        AObj.cells [AV.sl 5 (Seq.map T.encTE T.noTE E) Tip.none, AV.int IntKind.i64 (↑(List.length L) : Int)]]) ∧
        ASpec Try.prog 85
        [AV.agg [AV.sl 5 (Seq.map T.encTE T.noTE E) Tip.none, AV.int IntKind.i64 (↑(List.length L) : Int)], AV.sl 3 (Seq.map T.encT T.noT c) Tip.none]
        [AObj.cells [AV.int IntKind.i64 n, AV.str { data := List.toArray s }],
        AObj.cells [AV.sl 5 (Seq.map T.encTE T.noTE E) (Tip.tok 2), AV.sl 1 (Seq.map encI (0 : Int) L) (Tip.tok 3)], AObj.tok, AObj.tok,
        AObj.cells [AV.sl 5 (Seq.map T.encTE T.noTE E) Tip.none, AV.int IntKind.i64 (↑(List.length L) : Int)]]
        fun (r : AV) (H' : List AObj) =>
        ∃ (x_1 : Int),
        r = AV.int IntKind.i64 x_1 ∧
        H' =
        [AObj.cells [AV.int IntKind.i64 n, AV.str { data := List.toArray s }],
        AObj.cells [AV.sl 5 (Seq.map T.encTE T.noTE E) (Tip.tok 2), AV.sl 1 (Seq.map encI (0 : Int) L) (Tip.tok 3)], AObj.tok, AObj.tok,
        AObj.cells [AV.sl 5 (Seq.map T.encTE T.noTE E) Tip.none, AV.int IntKind.i64 (↑(List.length L) : Int)]] ∧
        condP (x == x_1)
        (ASpec Try.prog 86 [AV.ptr 1 0, AV.int IntKind.i64 n, AV.str { data := List.toArray s }]
        [AObj.cells [AV.int IntKind.i64 n, AV.str { data := List.toArray s }],
        AObj.cells [AV.sl 5 (Seq.map T.encTE T.noTE E) (Tip.tok 2), AV.sl 1 (Seq.map encI (0 : Int) L) (Tip.tok 3)], AObj.tok, AObj.tok,
        AObj.cells [AV.sl 5 (Seq.map T.encTE T.noTE E) Tip.none, AV.int IntKind.i64 (↑(List.length L) : Int)]]
        fun (r : AV) (H' : List AObj) =>
        ∃ (x : List UInt8 × List T.Span × Bool),
        r =
        AV.agg
        [AV.str { data := List.toArray (Prod.fst x) }, AV.sl 2 (Seq.map T.encS ((0 : Int), (0 : Int)) (Prod.fst (Prod.snd x))) Tip.none,
        AV.bool (Prod.snd (Prod.snd x))] ∧
        H' =
        [AObj.cells [AV.int IntKind.i64 n, AV.str { data := List.toArray s }],
        AObj.cells [AV.sl 5 (Seq.map T.encTE T.noTE E) (Tip.tok 2), AV.sl 1 (Seq.map encI (0 : Int) L) (Tip.tok 3)], AObj.tok,
        AObj.tok, AObj.cells [AV.sl 5 (Seq.map T.encTE T.noTE E) Tip.none, AV.int IntKind.i64 (↑(List.length L) : Int)]] ∧
        (AV.str { data := List.toArray s } = AV.str { data := List.toArray s } ∧
        [AObj.cells [AV.int IntKind.i64 n, AV.str { data := List.toArray s }],
        AObj.cells [AV.sl 5 (Seq.map T.encTE T.noTE E) (Tip.tok 2), AV.sl 1 (Seq.map encI (0 : Int) L) (Tip.tok 3)], AObj.tok,
        AObj.tok, AObj.cells [AV.sl 5 (Seq.map T.encTE T.noTE E) Tip.none, AV.int IntKind.i64 (↑(List.length L) : Int)]] =
        [AObj.cells [AV.int IntKind.i64 n, AV.str { data := List.toArray s }],
        AObj.cells [AV.sl 5 (Seq.map T.encTE T.noTE E) (Tip.tok 2), AV.sl 1 (Seq.map encI (0 : Int) L) (Tip.tok 3)], AObj.tok,
        AObj.tok, AObj.cells [AV.sl 5 (Seq.map T.encTE T.noTE E) Tip.none, AV.int IntKind.i64 (↑(List.length L) : Int)]]) ∧
        (AV.int IntKind.i64 n = AV.int IntKind.i64 n ∧
        [AObj.cells [AV.int IntKind.i64 n, AV.str { data := List.toArray s }],
        AObj.cells [AV.sl 5 (Seq.map T.encTE T.noTE E) (Tip.tok 2), AV.sl 1 (Seq.map encI (0 : Int) L) (Tip.tok 3)],
        AObj.tok, AObj.tok, AObj.cells [AV.sl 5 (Seq.map T.encTE T.noTE E) Tip.none, AV.int IntKind.i64 (↑(List.length L) : Int)]] =
        [AObj.cells [AV.int IntKind.i64 n, AV.str { data := List.toArray s }],
        AObj.cells [AV.sl 5 (Seq.map T.encTE T.noTE E) (Tip.tok 2), AV.sl 1 (Seq.map encI (0 : Int) L) (Tip.tok 3)],
        AObj.tok, AObj.tok, AObj.cells [AV.sl 5 (Seq.map T.encTE T.noTE E) Tip.none, AV.int IntKind.i64 (↑(List.length L) : Int)]]) ∧
        (AV.agg [AV.sl 5 (Seq.map T.encTE T.noTE E) Tip.none, AV.int IntKind.i64 (↑(List.length L) : Int)] =
        AV.agg [AV.sl 5 (Seq.map T.encTE T.noTE E) Tip.none, AV.int IntKind.i64 (↑(List.length L) : Int)] ∧
        [AObj.cells [AV.int IntKind.i64 n, AV.str { data := List.toArray s }],
        AObj.cells [AV.sl 5 (Seq.map T.encTE T.noTE E) (Tip.tok 2), AV.sl 1 (Seq.map encI (0 : Int) L) (Tip.tok 3)],
        AObj.tok, AObj.tok, AObj.cells [AV.sl 5 (Seq.map T.encTE T.noTE E) Tip.none, AV.int IntKind.i64 (↑(List.length L) : Int)]] =
        [AObj.cells [AV.int IntKind.i64 n, AV.str { data := List.toArray s }],
        AObj.cells [AV.sl 5 (Seq.map T.encTE T.noTE E) (Tip.tok 2), AV.sl 1 (Seq.map encI (0 : Int) L) (Tip.tok 3)],
        AObj.tok, AObj.tok, AObj.cells [AV.sl 5 (Seq.map T.encTE T.noTE E) Tip.none, AV.int IntKind.i64 (↑(List.length L) : Int)]]) ∧
        ASpec Try.prog 87
        [AV.agg [AV.sl 5 (Seq.map T.encTE T.noTE E) Tip.none, AV.int IntKind.i64 (↑(List.length L) : Int)], AV.int IntKind.i64 n,
        AV.str { data := List.toArray s }]
        [AObj.cells [AV.int IntKind.i64 n, AV.str { data := List.toArray s }],
        AObj.cells [AV.sl 5 (Seq.map T.encTE T.noTE E) (Tip.tok 2), AV.sl 1 (Seq.map encI (0 : Int) L) (Tip.tok 3)],
        AObj.tok, AObj.tok, AObj.cells [AV.sl 5 (Seq.map T.encTE T.noTE E) Tip.none, AV.int IntKind.i64 (↑(List.length L) : Int)]]
        fun (r : AV) (H' : List AObj) =>
        ∃ (x_2 : List UInt8 × List T.Span × Bool),
        r =
        AV.agg
        [AV.str { data := List.toArray (Prod.fst x_2) }, AV.sl 2 (Seq.map T.encS ((0 : Int), (0 : Int)) (Prod.fst (Prod.snd x_2))) Tip.none,
        AV.bool (Prod.snd (Prod.snd x_2))] ∧
        H' =
        [AObj.cells [AV.int IntKind.i64 n, AV.str { data := List.toArray s }],
        AObj.cells [AV.sl 5 (Seq.map T.encTE T.noTE E) (Tip.tok 2), AV.sl 1 (Seq.map encI (0 : Int) L) (Tip.tok 3)],
        AObj.tok, AObj.tok, AObj.cells [AV.sl 5 (Seq.map T.encTE T.noTE E) Tip.none, AV.int IntKind.i64 (↑(List.length L) : Int)]] ∧
        ASpec Try.prog 36
        [AV.agg
        [AV.str { data := List.toArray (Prod.fst x) }, AV.sl 2 (Seq.map T.encS ((0 : Int), (0 : Int)) (Prod.fst (Prod.snd x))) Tip.none,
        AV.bool (Prod.snd (Prod.snd x))],
        AV.agg
        [AV.str { data := List.toArray (Prod.fst x_2) },
        AV.sl 2 (Seq.map T.encS ((0 : Int), (0 : Int)) (Prod.fst (Prod.snd x_2))) Tip.none, AV.bool (Prod.snd (Prod.snd x_2))]]
        [AObj.cells [AV.int IntKind.i64 n, AV.str { data := List.toArray s }],
        AObj.cells [AV.sl 5 (Seq.map T.encTE T.noTE E) (Tip.tok 2), AV.sl 1 (Seq.map encI (0 : Int) L) (Tip.tok 3)],
        AObj.tok, AObj.tok, AObj.cells [AV.sl 5 (Seq.map T.encTE T.noTE E) Tip.none, AV.int IntKind.i64 (↑(List.length L) : Int)]]
        fun (r : AV) (H' : List AObj) =>
        ∃ (x : Bool),
        r = AV.bool x ∧
        H' =
        [AObj.cells [AV.int IntKind.i64 n, AV.str { data := List.toArray s }],
        AObj.cells
        [AV.sl 5 (Seq.map T.encTE T.noTE E) (Tip.tok 2), AV.sl 1 (Seq.map encI (0 : Int) L) (Tip.tok 3)],
        AObj.tok, AObj.tok, AObj.cells [AV.sl 5 (Seq.map T.encTE T.noTE E) Tip.none, AV.int IntKind.i64 (↑(List.length L) : Int)]] ∧
        condP x
        (ASpec Try.prog 27 []
        [AObj.cells [AV.int IntKind.i64 n, AV.str { data := List.toArray s }],
        AObj.cells
        [AV.sl 5 (Seq.map T.encTE T.noTE E) (Tip.tok 2),
        AV.sl 1 (Seq.map encI (0 : Int) L) (Tip.tok 3)],
        AObj.tok, AObj.tok, AObj.cells [AV.sl 5 (Seq.map T.encTE T.noTE E) Tip.none, AV.int IntKind.i64 (↑(List.length L) : Int)]]
        fun (r : AV) (H' : List AObj) =>
        ∃ (x : Unit),
        r = AV.bool true ∧
        H' =
        [AObj.cells [AV.int IntKind.i64 n, AV.str { data := List.toArray s }],
        AObj.cells
        [AV.sl 5 (Seq.map T.encTE T.noTE E) (Tip.tok 2),
        AV.sl 1 (Seq.map encI (0 : Int) L) (Tip.tok 3)],
        AObj.tok, AObj.tok,
        AObj.cells [AV.sl 5 (Seq.map T.encTE T.noTE E) Tip.none, AV.int IntKind.i64 (↑(List.length L) : Int)]] ∧
        Post (AV.bool true)
        [AObj.cells [AV.int IntKind.i64 n, AV.str { data := List.toArray s }],
        AObj.cells
        [AV.sl 5 (Seq.map T.encTE T.noTE E) (Tip.tok 2),
        AV.sl 1 (Seq.map encI (0 : Int) L) (Tip.tok 3)],
        AObj.tok, AObj.tok,
        AObj.cells [AV.sl 5 (Seq.map T.encTE T.noTE E) Tip.none, AV.int IntKind.i64 (↑(List.length L) : Int)]])
        (Post (AV.bool false)
        [AObj.cells [AV.int IntKind.i64 n, AV.str { data := List.toArray s }],
        AObj.cells
        [AV.sl 5 (Seq.map T.encTE T.noTE E) (Tip.tok 2),
        AV.sl 1 (Seq.map encI (0 : Int) L) (Tip.tok 3)],
        AObj.tok, AObj.tok,
        AObj.cells [AV.sl 5 (Seq.map T.encTE T.noTE E) Tip.none, AV.int IntKind.i64 (↑(List.length L) : Int)]]))
        (AV.tup [] = AV.tup [] ∧
        AV.tup [] = AV.tup [] ∧
        AV.tup [] = AV.tup [] ∧
        Post (AV.bool false)
        [AObj.cells [AV.int IntKind.i64 n, AV.str { data := List.toArray s }],
        AObj.cells [AV.sl 5 (Seq.map T.encTE T.noTE E) (Tip.tok 2), AV.sl 1 (Seq.map encI (0 : Int) L) (Tip.tok 3)], AObj.tok,
        AObj.tok, AObj.cells [AV.sl 5 (Seq.map T.encTE T.noTE E) Tip.none, AV.int IntKind.i64 (↑(List.length L) : Int)]]))
        (AV.tup [] = AV.tup [] ∧
        AV.tup [] = AV.tup [] ∧
        AV.tup [] = AV.tup [] ∧
        AV.tup [] = AV.tup [] ∧
        Post (AV.bool false)
        [AObj.cells [AV.int IntKind.i64 n, AV.str { data := List.toArray s }],
        AObj.cells [AV.sl 5 (Seq.map T.encTE T.noTE E) (Tip.tok 2), AV.sl 1 (Seq.map encI (0 : Int) L) (Tip.tok 3)], AObj.tok, AObj.tok,
        AObj.cells [AV.sl 5 (Seq.map T.encTE T.noTE E) Tip.none, AV.int IntKind.i64 (↑(List.length L) : Int)]])) →
    AWP Try.prog 139 n_1 c10_14
      [(1, AV.sl 3 (Seq.map T.encT T.noT c) Tip.none), (5, AV.ptr 0 0), (7, AV.ptr 1 0), (8, AV.ptr 4 0)]
      [AObj.cells [AV.int IntKind.i64 n, AV.str { data := List.toArray s }], T.tO E L 2 3, AObj.tok, AObj.tok, AObj.cells (T.encXt (E, (↑(List.length L) : Int)))] (q10_0 n_1 Post) := fun c n s E L n Post h => Go.Ab.awp_sound g10 n _ _ _ _ (Go.Ab.kc (by kernel_rfl) h)

end
end Tp
end

section
/- Printed: what the code of functions 30, 80, 35, 31, 32, 86, 29 asks for, by the framework's own reading of it; each line is checked against the code. -/

set_option linter.unusedVariables false
set_option maxRecDepth 100000
set_option maxHeartbeats 4000000
open Go Go.Ab Go.Proofs
namespace Tn
noncomputable section

noncomputable def rets : FuncId → List Ret := Tl.rets

-- 30
noncomputable def l30 : Nat → List Nat
  | _ => []
noncomputable def u30 : Nat → Bool
  | _ => false
noncomputable def m30 : Nat → Bool
  | _ => false
noncomputable def g30 : Cfg := { N := 10, live := l30, cut := u30, mu := m30, ret := rets }
theorem s30 : ∀ (Post : AV → List AObj → Prop), Post (AV.int IntKind.i64 (0 : Int)) [] → ASpec Try.prog 30 [AV.nilp] [] Post := fun Post h => Go.Ab.ASpec.of_vc g30 Go.Proofs.Try.func30 (by kernel_rfl) (by kernel_rfl) (by kernel_rfl) (Go.Ab.kc (by kernel_rfl) h)

-- 80
noncomputable def l80 : Nat → List Nat
  | _ => []
noncomputable def u80 : Nat → Bool
  | _ => false
noncomputable def m80 : Nat → Bool
  | _ => false
noncomputable def g80 : Cfg := { N := 10, live := l80, cut := u80, mu := m80, ret := rets }
theorem s80 : ∀ (Post : AV → List AObj → Prop), Post (AV.int IntKind.i64 (0 : Int)) [] → ASpec Try.prog 80 [AV.nilp] [] Post := fun Post h => Go.Ab.ASpec.of_vc g80 Go.Proofs.Try.func80 (by kernel_rfl) (by kernel_rfl) (by kernel_rfl) (Go.Ab.kc (by kernel_rfl) h)

-- 35
noncomputable def l35 : Nat → List Nat
  | _ => []
noncomputable def u35 : Nat → Bool
  | _ => false
noncomputable def m35 : Nat → Bool
  | _ => false
noncomputable def g35 : Cfg := { N := 38, live := l35, cut := u35, mu := m35, ret := rets }
theorem s35 : ∀ (n : Int) (Post : AV → List AObj → Prop),
  (ASpec Try.prog 30 [AV.nilp] [] fun (r : AV) (H' : List AObj) =>
      ∃ (x : Int), r = AV.int IntKind.i64 x ∧ H' = [] ∧ condP (decide ((if (0 : Int) > n then (0 : Int) else n) ≥ x)) (Post (AV.tup []) []) False) →
    ASpec Try.prog 35 [AV.nilp, AV.int IntKind.i64 n] [] Post := fun n Post h => Go.Ab.ASpec.of_vc g35 Go.Proofs.Try.func35 (by kernel_rfl) (by kernel_rfl) (by kernel_rfl) (Go.Ab.kc (by kernel_rfl) h)

-- 31
noncomputable def l31 : Nat → List Nat
  | _ => []
noncomputable def u31 : Nat → Bool
  | _ => false
noncomputable def m31 : Nat → Bool
  | _ => false
noncomputable def g31 : Cfg := { N := 50, live := l31, cut := u31, mu := m31, ret := rets }
theorem s31 : ∀ (s : List UInt8) (v : Int) (Post : AV → List AObj → Prop),
  Post (AV.int IntKind.i64 (1 : Int)) [] → ASpec Try.prog 31 [AV.nilp, AV.str { data := List.toArray s }, AV.int IntKind.i64 v] [] Post := fun s v Post h => Go.Ab.ASpec.of_vc g31 Go.Proofs.Try.func31 (by kernel_rfl) (by kernel_rfl) (by kernel_rfl) (Go.Ab.kc (by kernel_rfl) h)

-- 32
noncomputable def l32 : Nat → List Nat
  | _ => []
noncomputable def u32 : Nat → Bool
  | _ => false
noncomputable def m32 : Nat → Bool
  | _ => false
noncomputable def g32 : Cfg := { N := 36, live := l32, cut := u32, mu := m32, ret := rets }
theorem s32 : ∀ (t : T.Term) (v : Int) (Post : AV → List AObj → Prop),
  Post (AV.int IntKind.i64 (1 : Int))
      [AObj.cells [AV.str { data := List.toArray (Prod.fst t) }, AV.sl 2 (Seq.map T.encS ((0 : Int), (0 : Int)) (Prod.fst (Prod.snd t))) Tip.none, AV.bool (Prod.snd (Prod.snd t))]] →
    ASpec Try.prog 32 [AV.nilp, AV.agg (T.encT t), AV.int IntKind.i64 v] [] Post := fun t v Post h => Go.Ab.ASpec.of_vc g32 Go.Proofs.Try.func32 (by kernel_rfl) (by kernel_rfl) (by kernel_rfl) (Go.Ab.kc (by kernel_rfl) h)

-- 86
noncomputable def l86 : Nat → List Nat
  | 5 => [2, 6, 7, 27, 28, 29]
  | _ => []
noncomputable def u86 : Nat → Bool
  | _ => false
noncomputable def m86 : Nat → Bool
  | _ => false
noncomputable def g86 : Cfg := { N := 44, live := l86, cut := u86, mu := m86, ret := rets }
theorem s86 : ∀ (n : Int) (s : List UInt8) (Post : AV → List AObj → Prop),
  (ASpec Try.prog 200 [AV.str { data := List.toArray s }] [AObj.cells [AV.str { data := #[] }, AV.sl 0 (Seq.raw []) Tip.nil, AV.bool false]] fun (r : AV) (H' : List AObj) =>
      ∃ (x : List UInt8 × List T.Span × Bool),
        r = AV.agg [AV.str { data := List.toArray (Prod.fst x) }, AV.sl 2 (Seq.map T.encS ((0 : Int), (0 : Int)) (Prod.fst (Prod.snd x))) Tip.none, AV.bool (Prod.snd (Prod.snd x))] ∧
        H' = [AObj.cells [AV.str { data := #[] }, AV.sl 0 (Seq.raw []) Tip.nil, AV.bool false]] ∧
        Post (AV.agg [AV.str { data := List.toArray (Prod.fst x) }, AV.sl 2 (Seq.map T.encS ((0 : Int), (0 : Int)) (Prod.fst (Prod.snd x))) Tip.none, AV.bool (Prod.snd (Prod.snd x))])
        [AObj.cells [AV.str { data := List.toArray (Prod.fst x) }, AV.sl 2 (Seq.map T.encS ((0 : Int), (0 : Int)) (Prod.fst (Prod.snd x))) Tip.none, AV.bool (Prod.snd (Prod.snd x))],
        AObj.cells [AV.str { data := List.toArray (Prod.fst x) }, AV.sl 2 (Seq.map T.encS ((0 : Int), (0 : Int)) (Prod.fst (Prod.snd x))) Tip.none, AV.bool (Prod.snd (Prod.snd x))]]) →
    ASpec Try.prog 86 [AV.nilp, AV.int IntKind.i64 n, AV.str { data := List.toArray s }] [] Post := fun n s Post h => Go.Ab.ASpec.of_vc g86 Go.Proofs.Try.func86 (by kernel_rfl) (by kernel_rfl) (by kernel_rfl) (Go.Ab.kc (by kernel_rfl) h)

-- 29
noncomputable def l29 : Nat → List Nat
  | _ => []
noncomputable def u29 : Nat → Bool
  | _ => false
noncomputable def m29 : Nat → Bool
  | _ => false
noncomputable def g29 : Cfg := { N := 10, live := l29, cut := u29, mu := m29, ret := rets }
theorem s29 : ∀ (s : List UInt8) (Post : AV → List AObj → Prop),
  (ASpec Try.prog 80 [AV.nilp] [AObj.cells [AV.str { data := #[] }, AV.sl 0 (Seq.raw []) Tip.nil, AV.bool false]] fun (r : AV) (H' : List AObj) =>
      ∃ (x : Int),
        r = AV.int IntKind.i64 x ∧
        H' = [AObj.cells [AV.str { data := #[] }, AV.sl 0 (Seq.raw []) Tip.nil, AV.bool false]] ∧
        ASpec Try.prog 86 [AV.nilp, AV.int IntKind.i64 x, AV.str { data := List.toArray s }] [AObj.cells [AV.str { data := #[] }, AV.sl 0 (Seq.raw []) Tip.nil, AV.bool false]]
        fun (r : AV) (H' : List AObj) =>
        ∃ (x : List UInt8 × List T.Span × Bool),
        r = AV.agg [AV.str { data := List.toArray (Prod.fst x) }, AV.sl 2 (Seq.map T.encS ((0 : Int), (0 : Int)) (Prod.fst (Prod.snd x))) Tip.none, AV.bool (Prod.snd (Prod.snd x))] ∧
        H' = [AObj.cells [AV.str { data := #[] }, AV.sl 0 (Seq.raw []) Tip.nil, AV.bool false]] ∧
        Post
        (AV.agg [AV.str { data := List.toArray (Prod.fst x) }, AV.sl 2 (Seq.map T.encS ((0 : Int), (0 : Int)) (Prod.fst (Prod.snd x))) Tip.none, AV.bool (Prod.snd (Prod.snd x))])
        [AObj.cells
        [AV.str { data := List.toArray (Prod.fst x) }, AV.sl 2 (Seq.map T.encS ((0 : Int), (0 : Int)) (Prod.fst (Prod.snd x))) Tip.none, AV.bool (Prod.snd (Prod.snd x))]]) →
    ASpec Try.prog 29 [AV.nilp, AV.str { data := List.toArray s }] [] Post := fun s Post h => Go.Ab.ASpec.of_vc g29 Go.Proofs.Try.func29 (by kernel_rfl) (by kernel_rfl) (by kernel_rfl) (Go.Ab.kc (by kernel_rfl) h)

end
end Tn
end

section
/- Printed: what the code of functions 373, 324, 393, 372, 323, 263, 170, 253, 165, 154, 322, 261, 164, 39, 262, 325, 45 asks for, by the framework's own reading of it; each line is checked against the code. -/

set_option linter.unusedVariables false
set_option maxRecDepth 100000
set_option maxHeartbeats 4000000
open Go Go.Ab Go.Proofs
namespace S
noncomputable section

noncomputable def retS : List (Nat × Ret) := [
  (9032, ⟨Unit, fun _ _ _ => .bool true, fun _ H _ => H⟩),
  (9033, ⟨ByteArray × List UInt8 × Int, fun _ _ x => .tup [.str x.1, .sl 1 (.map encB 0 x.2.1) .none, .int .i64 x.2.2], fun _ H _ => H⟩),
  (45, ⟨ByteArray × ByteArray × Int, fun _ _ x => .tup [.str x.1, .str x.2.1, .int .i64 x.2.2], fun _ H _ => H⟩),
  (262, ⟨List UInt8, fun _ _ x => .sl 1 (.map encB 0 x) .none, fun _ H _ => H⟩),
  (325, ⟨ByteArray, fun _ _ x => .str x, fun _ H _ => H⟩),
  (39, ⟨Bool, fun _ _ x => .bool x, fun _ H _ => H⟩),
  (9090, ⟨List UInt8 × Bool, fun _ _ x => .tup [.sl 1 (.map encB 0 x.1) .none, .bool x.2], fun _ H _ => H⟩),
  (154, ⟨Bool, fun _ _ x => .bool x, fun _ H _ => H⟩),
  (170, ⟨ByteArray × Bool, fun _ _ x => .tup [.str x.1, .bool x.2], fun _ H _ => H⟩),
  (323, ⟨List UInt8, fun _ _ x => .sl 1 (.map encB 0 x) .none, fun _ H _ => H⟩),
  (263, ⟨ByteArray, fun _ _ x => .str x, fun _ H _ => H⟩),
  (164, ⟨List Int, fun _ _ x => .sl 1 (.map encI 0 x) .none, fun _ H _ => H⟩),
  (165, ⟨Int, fun _ _ x => .int .i64 x, fun _ H _ => H⟩),
  (372, ⟨Int, fun _ _ x => .int .u32 x, fun _ H _ => H⟩),
  (253, ⟨Int, fun _ _ x => .int .i64 x, fun _ H _ => H⟩),
  (324, ⟨Int, fun _ _ x => .int .i64 x, fun _ H _ => H⟩),
  (261, ⟨Int × Int, fun _ _ x => .tup [.int .i64 x.1, .int .i64 x.2], fun _ H _ => H⟩),
  (393, ⟨Int, fun _ _ x => .int .u32 x, fun _ H _ => H⟩),
  (373, ⟨Int, fun _ _ x => .int .i64 x, fun _ H _ => H⟩),
  (322, ⟨Int, fun _ _ x => .int .i64 x, fun _ H _ => H⟩)]
noncomputable def rets : FuncId → List Ret := lookupR (retS ++ V.retL)

-- 373
noncomputable def m373 : Nat → Bool
  | _ => false
noncomputable def l324 : Nat → List Nat
  | 3 => [0, 3, 4]
  | _ => []
noncomputable def l253 : Nat → List Nat
  | _ => []
noncomputable def u253 : Nat → Bool
  | _ => false
noncomputable def m253 : Nat → Bool
  | _ => false
noncomputable def g253 : Cfg := { N := 27, live := l253, cut := u253, mu := m253, ret := rets }
theorem s253 : ∀ (c : Int) (Post : AV → List AObj → Prop),
  condP (decide (c ≥ (97 : Int)))
      (condP (decide (c ≤ (122 : Int))) (Post (AV.int IntKind.i64 (0 : Int)) [])
        (condP (decide (c ≥ (945 : Int)))
        (condP (decide (c ≤ (969 : Int))) (Post (AV.int IntKind.i64 (1 : Int)) [])
        (condP (decide (c ≥ (48 : Int)))
        (condP (decide (c ≤ (57 : Int))) (Post (AV.int IntKind.i64 (2 : Int)) []) (condP (c == (45 : Int)) (Post (AV.int IntKind.i64 (3 : Int)) []) (Post (AV.int IntKind.i64 (4 : Int)) [])))
        (condP (c == (45 : Int)) (Post (AV.int IntKind.i64 (3 : Int)) []) (Post (AV.int IntKind.i64 (4 : Int)) []))))
        (condP (decide (c ≥ (48 : Int)))
        (condP (decide (c ≤ (57 : Int))) (Post (AV.int IntKind.i64 (2 : Int)) []) (condP (c == (45 : Int)) (Post (AV.int IntKind.i64 (3 : Int)) []) (Post (AV.int IntKind.i64 (4 : Int)) [])))
        (condP (c == (45 : Int)) (Post (AV.int IntKind.i64 (3 : Int)) []) (Post (AV.int IntKind.i64 (4 : Int)) [])))))
      (condP (decide (c ≥ (945 : Int)))
        (condP (decide (c ≤ (969 : Int))) (Post (AV.int IntKind.i64 (1 : Int)) [])
        (condP (decide (c ≥ (48 : Int)))
        (condP (decide (c ≤ (57 : Int))) (Post (AV.int IntKind.i64 (2 : Int)) []) (condP (c == (45 : Int)) (Post (AV.int IntKind.i64 (3 : Int)) []) (Post (AV.int IntKind.i64 (4 : Int)) [])))
        (condP (c == (45 : Int)) (Post (AV.int IntKind.i64 (3 : Int)) []) (Post (AV.int IntKind.i64 (4 : Int)) []))))
        (condP (decide (c ≥ (48 : Int)))
        (condP (decide (c ≤ (57 : Int))) (Post (AV.int IntKind.i64 (2 : Int)) []) (condP (c == (45 : Int)) (Post (AV.int IntKind.i64 (3 : Int)) []) (Post (AV.int IntKind.i64 (4 : Int)) [])))
        (condP (c == (45 : Int)) (Post (AV.int IntKind.i64 (3 : Int)) []) (Post (AV.int IntKind.i64 (4 : Int)) [])))) →
    ASpec Try.prog 253 [AV.int IntKind.i32 c] [] Post := fun c Post h => Go.Ab.ASpec.of_vc g253 Go.Proofs.Try.func253 (by kernel_rfl) (by kernel_rfl) (by kernel_rfl) (Go.Ab.kc (by kernel_rfl) h)

-- 165
noncomputable def l165 : Nat → List Nat
  | _ => []
noncomputable def u165 : Nat → Bool
  | _ => false
noncomputable def m165 : Nat → Bool
  | _ => false
noncomputable def g165 : Cfg := { N := 23, live := l165, cut := u165, mu := m165, ret := rets }
theorem s165 : ∀ (c : Int) (Post : AV → List AObj → Prop),
  condP (decide (c ≥ (97 : Int)))
      (condP (decide (c ≤ (122 : Int))) (Post (AV.int IntKind.i64 (0 : Int)) [])
        (condP (decide (c ≥ (945 : Int)))
        (condP (decide (c ≤ (969 : Int))) (Post (AV.int IntKind.i64 (1 : Int)) [])
        (condP (decide (c ≥ (48 : Int)))
        (condP (decide (c ≤ (57 : Int))) (Post (AV.int IntKind.i64 (2 : Int)) []) (condP (c == (45 : Int)) (Post (AV.int IntKind.i64 (3 : Int)) []) (Post (AV.int IntKind.i64 (4 : Int)) [])))
        (condP (c == (45 : Int)) (Post (AV.int IntKind.i64 (3 : Int)) []) (Post (AV.int IntKind.i64 (4 : Int)) []))))
        (condP (decide (c ≥ (48 : Int)))
        (condP (decide (c ≤ (57 : Int))) (Post (AV.int IntKind.i64 (2 : Int)) []) (condP (c == (45 : Int)) (Post (AV.int IntKind.i64 (3 : Int)) []) (Post (AV.int IntKind.i64 (4 : Int)) [])))
        (condP (c == (45 : Int)) (Post (AV.int IntKind.i64 (3 : Int)) []) (Post (AV.int IntKind.i64 (4 : Int)) [])))))
      (condP (decide (c ≥ (945 : Int)))
        (condP (decide (c ≤ (969 : Int))) (Post (AV.int IntKind.i64 (1 : Int)) [])
        (condP (decide (c ≥ (48 : Int)))
        (condP (decide (c ≤ (57 : Int))) (Post (AV.int IntKind.i64 (2 : Int)) []) (condP (c == (45 : Int)) (Post (AV.int IntKind.i64 (3 : Int)) []) (Post (AV.int IntKind.i64 (4 : Int)) [])))
        (condP (c == (45 : Int)) (Post (AV.int IntKind.i64 (3 : Int)) []) (Post (AV.int IntKind.i64 (4 : Int)) []))))
        (condP (decide (c ≥ (48 : Int)))
        (condP (decide (c ≤ (57 : Int))) (Post (AV.int IntKind.i64 (2 : Int)) []) (condP (c == (45 : Int)) (Post (AV.int IntKind.i64 (3 : Int)) []) (Post (AV.int IntKind.i64 (4 : Int)) [])))
        (condP (c == (45 : Int)) (Post (AV.int IntKind.i64 (3 : Int)) []) (Post (AV.int IntKind.i64 (4 : Int)) [])))) →
    ASpec Try.prog 165 [AV.int IntKind.i64 c] [] Post := fun c Post h => Go.Ab.ASpec.of_vc g165 Go.Proofs.Try.func165 (by kernel_rfl) (by kernel_rfl) (by kernel_rfl) (Go.Ab.kc (by kernel_rfl) h)

-- 154
noncomputable def l154 : Nat → List Nat
  | 3 => [3, 8]
  | _ => []
noncomputable def u154 : Nat → Bool
  | _ => false
noncomputable def m154 : Nat → Bool
  | _ => false
noncomputable def g154 : Cfg := { N := 32, live := l154, cut := u154, mu := m154, ret := rets }
noncomputable def c154 : Go.Code := Go.Ab.bodyOf Go.Proofs.Try.f154
noncomputable def q154_0 : Nat → (AV → List AObj → Prop) → AQ := fun (n : Nat) (Post : AV → List AObj → Prop) => endQ Try.prog (resultsOf Try.f154) Post
noncomputable def q154_1 : Nat → (AV → List AObj → Prop) → AQ := fun (n : Nat) (Post : AV → List AObj → Prop) => seqQ (fun (s' : Slots) (H' : List AObj) => awp Try.prog g154 n (codeSnd (codeSnd (codeSnd c154))) s' H' (q154_0 n Post)) (q154_0 n Post)
noncomputable def q154_2 : Nat → (AV → List AObj → Prop) → AQ := fun (n : Nat) (Post : AV → List AObj → Prop) => blockQ 0 (q154_1 n Post)
noncomputable def c154_3 : Go.Code := codeFst (codeSnd (codeFst (codeSnd (codeSnd c154))))
theorem s154 : ∀ (s : ByteArray) (Post : AV → List AObj → Prop),
  AWP Try.prog 32 0 c154_3 [(3, AV.int IntKind.i64 (0 : Int)), (8, AV.ptr 0 0)] [AObj.siter s 0] (q154_2 0 Post) →
    ASpec Try.prog 154 [AV.str s] [] Post := fun s Post h => Go.Ab.ASpec.of_vc g154 Go.Proofs.Try.func154 (by kernel_rfl) (by kernel_rfl) (by kernel_rfl) (Go.Ab.kc (by kernel_rfl) h)
theorem v154_3 : ∀ (s : ByteArray) (pos : Nat) (n : Int) (n_1 : Nat) (Post : AV → List AObj → Prop),
  condP (decide (pos < ByteArray.size s))
      (ASpec Try.prog 253 [AV.int IntKind.i32 (↑(Prod.fst (Utf8.decode s pos)) : Int)] [AObj.siter s (pos + Prod.snd (Utf8.decode s pos))] fun (r : AV) (H' : List AObj) =>
        ∃ (x : Int),
        r = AV.int IntKind.i64 x ∧
        H' = [AObj.siter s (pos + Prod.snd (Utf8.decode s pos))] ∧
        condP (decide (x > (3 : Int))) (Post (AV.bool false) [AObj.siter s (pos + Prod.snd (Utf8.decode s pos))])
        (condP (n == (0 : Int))
        (condP (decide (x > (1 : Int))) (Post (AV.bool false) [AObj.siter s (pos + Prod.snd (Utf8.decode s pos))])
        (condP (n == (12 : Int)) (Post (AV.bool false) [AObj.siter s (pos + Prod.snd (Utf8.decode s pos))])
        (AWP Try.prog 32 n_1 c154_3 [(3, AV.int IntKind.i64 (IntKind.wrap IntKind.i64 (n + (1 : Int)))), (8, AV.ptr 0 0)]
        [AObj.siter s (pos + Prod.snd (Utf8.decode s pos))] (q154_2 n_1 Post))))
        (condP (n == (12 : Int)) (Post (AV.bool false) [AObj.siter s (pos + Prod.snd (Utf8.decode s pos))])
        (AWP Try.prog 32 n_1 c154_3 [(3, AV.int IntKind.i64 (IntKind.wrap IntKind.i64 (n + (1 : Int)))), (8, AV.ptr 0 0)]
        [AObj.siter s (pos + Prod.snd (Utf8.decode s pos))] (q154_2 n_1 Post)))))
      (Post (AV.bool (decide (n > (0 : Int)))) [AObj.siter s pos]) →
    AWP Try.prog 32 n_1 c154_3 [(3, AV.int IntKind.i64 n), (8, AV.ptr 0 0)] [AObj.siter s pos] (q154_2 n_1 Post) := fun s pos n n Post h => Go.Ab.AWP.loop' g154 (Cfg.live g154) c154_3 (by kernel_rfl) (by kernel_rfl) (Go.Ab.kc (by kernel_rfl) h)

-- 322
noncomputable def l322 : Nat → List Nat
  | 5 => [0, 1, 5, 6]
  | 7 => [0, 1, 5, 6]
  | 9 => [0, 1, 5, 6]
  | 11 => [0, 1, 5, 6]
  | 12 => [0, 1, 5, 6, 7]
  | 16 => [0, 1, 5, 6]
  | _ => []
noncomputable def u322 : Nat → Bool
  | 5 => true
  | 7 => true
  | 9 => true
  | 11 => true
  | 16 => true
  | _ => false
noncomputable def m322 : Nat → Bool
  | _ => false
noncomputable def g322 : Cfg := { N := 96, live := l322, cut := u322, mu := m322, ret := rets }
noncomputable def c322 : Go.Code := Go.Ab.bodyOf Go.Proofs.Try.f322
noncomputable def q322_0 : Nat → (AV → List AObj → Prop) → AQ := fun (n : Nat) (Post : AV → List AObj → Prop) => endQ Try.prog (resultsOf Try.f322) Post
noncomputable def c322_5 : Go.Code := codeSnd (codeSnd (codeSnd (codeSnd c322)))
theorem s322 : ∀ (s : ByteArray) (p : Int) (Post : AV → List AObj → Prop),
  needP ((0 : Int) ≤ p ∧ p < (↑(ByteArray.size s) : Int))
      (condP (decide (IntKind.wrap IntKind.i64 (↑(UInt8.toNat (List.getD (Array.toList (ByteArray.data s)) (Int.toNat p) (0 : UInt8))) : Int) ≥ (194 : Int)))
        (condP (decide (IntKind.wrap IntKind.i64 (↑(UInt8.toNat (List.getD (Array.toList (ByteArray.data s)) (Int.toNat p) (0 : UInt8))) : Int) ≤ (223 : Int)))
        (AWP Try.prog 96 0 c322_5
        [(0, AV.str s), (1, AV.int IntKind.i64 p), (5, AV.int IntKind.i64 (2 : Int)),
        (6, AV.int IntKind.i64 (IntKind.wrap IntKind.i64 (↑(UInt8.toNat (List.getD (Array.toList (ByteArray.data s)) (Int.toNat p) (0 : UInt8))) : Int)))]
        [] (q322_0 0 Post))
        (AWP Try.prog 96 0 c322_5
        [(0, AV.str s), (1, AV.int IntKind.i64 p), (5, AV.int IntKind.i64 (0 : Int)),
        (6, AV.int IntKind.i64 (IntKind.wrap IntKind.i64 (↑(UInt8.toNat (List.getD (Array.toList (ByteArray.data s)) (Int.toNat p) (0 : UInt8))) : Int)))]
        [] (q322_0 0 Post)))
        (AWP Try.prog 96 0 c322_5
        [(0, AV.str s), (1, AV.int IntKind.i64 p), (5, AV.int IntKind.i64 (0 : Int)),
        (6, AV.int IntKind.i64 (IntKind.wrap IntKind.i64 (↑(UInt8.toNat (List.getD (Array.toList (ByteArray.data s)) (Int.toNat p) (0 : UInt8))) : Int)))]
        [] (q322_0 0 Post))) →
    ASpec Try.prog 322 [AV.str s, AV.int IntKind.i64 p] [] Post := fun s p Post h => Go.Ab.ASpec.of_vc g322 Go.Proofs.Try.func322 (by kernel_rfl) (by kernel_rfl) (by kernel_rfl) (Go.Ab.kc (by kernel_rfl) h)
noncomputable def c322_7 : Go.Code := codeSnd c322_5
theorem v322_5 : ∀ (s : ByteArray) (p n c : Int) (n_1 : Nat) (Post : AV → List AObj → Prop),
  condP (decide (c ≥ (224 : Int)))
      (condP (decide (c ≤ (239 : Int)))
        (AWP Try.prog 96 n_1 c322_7 [(0, AV.str s), (1, AV.int IntKind.i64 p), (5, AV.int IntKind.i64 (3 : Int)), (6, AV.int IntKind.i64 c)] []
        (q322_0 n_1 Post))
        (AWP Try.prog 96 n_1 c322_7 [(0, AV.str s), (1, AV.int IntKind.i64 p), (5, AV.int IntKind.i64 n), (6, AV.int IntKind.i64 c)] [] (q322_0 n_1 Post)))
      (AWP Try.prog 96 n_1 c322_7 [(0, AV.str s), (1, AV.int IntKind.i64 p), (5, AV.int IntKind.i64 n), (6, AV.int IntKind.i64 c)] [] (q322_0 n_1 Post)) →
    AWP Try.prog 96 n_1 c322_5 [(0, AV.str s), (1, AV.int IntKind.i64 p), (5, AV.int IntKind.i64 n), (6, AV.int IntKind.i64 c)] [] (q322_0 n_1 Post) := fun s p n c n Post h => Go.Ab.awp_sound g322 n _ _ _ _ (Go.Ab.kc (by kernel_rfl) h)
noncomputable def c322_9 : Go.Code := codeSnd c322_7
theorem v322_7 : ∀ (s : ByteArray) (p n c : Int) (n_1 : Nat) (Post : AV → List AObj → Prop),
  condP (decide (c ≥ (240 : Int)))
      (condP (decide (c ≤ (244 : Int)))
        (AWP Try.prog 96 n_1 c322_9 [(0, AV.str s), (1, AV.int IntKind.i64 p), (5, AV.int IntKind.i64 (4 : Int)), (6, AV.int IntKind.i64 c)] []
        (q322_0 n_1 Post))
        (AWP Try.prog 96 n_1 c322_9 [(0, AV.str s), (1, AV.int IntKind.i64 p), (5, AV.int IntKind.i64 n), (6, AV.int IntKind.i64 c)] [] (q322_0 n_1 Post)))
      (AWP Try.prog 96 n_1 c322_9 [(0, AV.str s), (1, AV.int IntKind.i64 p), (5, AV.int IntKind.i64 n), (6, AV.int IntKind.i64 c)] [] (q322_0 n_1 Post)) →
    AWP Try.prog 96 n_1 c322_7 [(0, AV.str s), (1, AV.int IntKind.i64 p), (5, AV.int IntKind.i64 n), (6, AV.int IntKind.i64 c)] [] (q322_0 n_1 Post) := fun s p n c n Post h => Go.Ab.awp_sound g322 n _ _ _ _ (Go.Ab.kc (by kernel_rfl) h)
noncomputable def c322_11 : Go.Code := codeSnd c322_9
theorem v322_9 : ∀ (s : ByteArray) (p n c : Int) (n_1 : Nat) (Post : AV → List AObj → Prop),
  condP (n == (0 : Int)) (Post (AV.int IntKind.i64 (0 : Int)) [])
      (condP (decide (IntKind.wrap IntKind.i64 ((↑(ByteArray.size s) : Int) - p) < n)) (Post (AV.int IntKind.i64 (0 : Int)) [])
        (AWP Try.prog 96 n_1 c322_11 [(0, AV.str s), (1, AV.int IntKind.i64 p), (5, AV.int IntKind.i64 n), (6, AV.int IntKind.i64 c)] [] (q322_0 n_1 Post))) →
    AWP Try.prog 96 n_1 c322_9 [(0, AV.str s), (1, AV.int IntKind.i64 p), (5, AV.int IntKind.i64 n), (6, AV.int IntKind.i64 c)] [] (q322_0 n_1 Post) := fun s p n c n Post h => Go.Ab.awp_sound g322 n _ _ _ _ (Go.Ab.kc (by kernel_rfl) h)
noncomputable def c322_16 : Go.Code := codeSnd c322_11
noncomputable def q322_1 : Nat → (AV → List AObj → Prop) → AQ := fun (n : Nat) (Post : AV → List AObj → Prop) => seqQ (fun (s' : Slots) (H' : List AObj) => AWP Try.prog (Cfg.N g322) n c322_16 (restrict s' (Cfg.live g322 16)) H' (q322_0 n Post)) (q322_0 n Post)
noncomputable def q322_2 : Nat → (AV → List AObj → Prop) → AQ := fun (n : Nat) (Post : AV → List AObj → Prop) => blockQ 0 (q322_1 n Post)
noncomputable def c322_12 : Go.Code := codeFst (codeSnd (codeFst c322_11))
theorem v322_11 : ∀ (s : ByteArray) (p n c : Int) (n_1 : Nat) (Post : AV → List AObj → Prop),
  AWP Try.prog 96 n_1 c322_12
      [(0, AV.str s), (1, AV.int IntKind.i64 p), (5, AV.int IntKind.i64 n), (6, AV.int IntKind.i64 c), (7, AV.int IntKind.i64 (1 : Int))] [] (q322_2 n_1 Post) →
    AWP Try.prog 96 n_1 c322_11 [(0, AV.str s), (1, AV.int IntKind.i64 p), (5, AV.int IntKind.i64 n), (6, AV.int IntKind.i64 c)] [] (q322_0 n_1 Post) := fun s p n c n Post h => Go.Ab.awp_sound g322 n _ _ _ _ (Go.Ab.kc (by kernel_rfl) h)
theorem v322_16 : ∀ (s : ByteArray) (p n c : Int) (n_1 : Nat) (Post : AV → List AObj → Prop),
  needP ((0 : Int) ≤ IntKind.wrap IntKind.i64 (p + (1 : Int)) ∧ IntKind.wrap IntKind.i64 (p + (1 : Int)) < (↑(ByteArray.size s) : Int))
      (condP (c == (224 : Int))
        (condP (decide (IntKind.wrap IntKind.i64 (↑(UInt8.toNat (List.getD (Array.toList (ByteArray.data s)) (Int.toNat (IntKind.wrap IntKind.i64 (p + (1 : Int)))) (0 : UInt8))) : Int) < (160 : Int)))
        (Post (AV.int IntKind.i64 (0 : Int)) [])
        (condP (c == (237 : Int))
        (condP
        (decide (IntKind.wrap IntKind.i64 (↑(UInt8.toNat (List.getD (Array.toList (ByteArray.data s)) (Int.toNat (IntKind.wrap IntKind.i64 (p + (1 : Int)))) (0 : UInt8))) : Int) > (159 : Int)))
        (Post (AV.int IntKind.i64 (0 : Int)) [])
        (condP (c == (240 : Int))
        (condP
        (decide
        (IntKind.wrap IntKind.i64 (↑(UInt8.toNat (List.getD (Array.toList (ByteArray.data s)) (Int.toNat (IntKind.wrap IntKind.i64 (p + (1 : Int)))) (0 : UInt8))) : Int) < (144 : Int)))
        (Post (AV.int IntKind.i64 (0 : Int)) [])
        (condP (c == (244 : Int))
        (condP
        (decide
        (IntKind.wrap IntKind.i64 (↑(UInt8.toNat (List.getD (Array.toList (ByteArray.data s)) (Int.toNat (IntKind.wrap IntKind.i64 (p + (1 : Int)))) (0 : UInt8))) : Int) >
        (143 : Int)))
        (Post (AV.int IntKind.i64 (0 : Int)) []) (Post (AV.int IntKind.i64 n) []))
        (Post (AV.int IntKind.i64 n) [])))
        (condP (c == (244 : Int))
        (condP
        (decide
        (IntKind.wrap IntKind.i64 (↑(UInt8.toNat (List.getD (Array.toList (ByteArray.data s)) (Int.toNat (IntKind.wrap IntKind.i64 (p + (1 : Int)))) (0 : UInt8))) : Int) > (143 : Int)))
        (Post (AV.int IntKind.i64 (0 : Int)) []) (Post (AV.int IntKind.i64 n) []))
        (Post (AV.int IntKind.i64 n) []))))
        (condP (c == (240 : Int))
        (condP
        (decide
        (IntKind.wrap IntKind.i64 (↑(UInt8.toNat (List.getD (Array.toList (ByteArray.data s)) (Int.toNat (IntKind.wrap IntKind.i64 (p + (1 : Int)))) (0 : UInt8))) : Int) < (144 : Int)))
        (Post (AV.int IntKind.i64 (0 : Int)) [])
        (condP (c == (244 : Int))
        (condP
        (decide
        (IntKind.wrap IntKind.i64 (↑(UInt8.toNat (List.getD (Array.toList (ByteArray.data s)) (Int.toNat (IntKind.wrap IntKind.i64 (p + (1 : Int)))) (0 : UInt8))) : Int) > (143 : Int)))
        (Post (AV.int IntKind.i64 (0 : Int)) []) (Post (AV.int IntKind.i64 n) []))
        (Post (AV.int IntKind.i64 n) [])))
        (condP (c == (244 : Int))
        (condP
        (decide
        (IntKind.wrap IntKind.i64 (↑(UInt8.toNat (List.getD (Array.toList (ByteArray.data s)) (Int.toNat (IntKind.wrap IntKind.i64 (p + (1 : Int)))) (0 : UInt8))) : Int) > (143 : Int)))
        (Post (AV.int IntKind.i64 (0 : Int)) []) (Post (AV.int IntKind.i64 n) []))
        (Post (AV.int IntKind.i64 n) [])))))
        (condP (c == (237 : Int))
        (condP
        (decide (IntKind.wrap IntKind.i64 (↑(UInt8.toNat (List.getD (Array.toList (ByteArray.data s)) (Int.toNat (IntKind.wrap IntKind.i64 (p + (1 : Int)))) (0 : UInt8))) : Int) > (159 : Int)))
        (Post (AV.int IntKind.i64 (0 : Int)) [])
        (condP (c == (240 : Int))
        (condP
        (decide
        (IntKind.wrap IntKind.i64 (↑(UInt8.toNat (List.getD (Array.toList (ByteArray.data s)) (Int.toNat (IntKind.wrap IntKind.i64 (p + (1 : Int)))) (0 : UInt8))) : Int) < (144 : Int)))
        (Post (AV.int IntKind.i64 (0 : Int)) [])
        (condP (c == (244 : Int))
        (condP
        (decide
        (IntKind.wrap IntKind.i64 (↑(UInt8.toNat (List.getD (Array.toList (ByteArray.data s)) (Int.toNat (IntKind.wrap IntKind.i64 (p + (1 : Int)))) (0 : UInt8))) : Int) > (143 : Int)))
        (Post (AV.int IntKind.i64 (0 : Int)) []) (Post (AV.int IntKind.i64 n) []))
        (Post (AV.int IntKind.i64 n) [])))
        (condP (c == (244 : Int))
        (condP
        (decide
        (IntKind.wrap IntKind.i64 (↑(UInt8.toNat (List.getD (Array.toList (ByteArray.data s)) (Int.toNat (IntKind.wrap IntKind.i64 (p + (1 : Int)))) (0 : UInt8))) : Int) > (143 : Int)))
        (Post (AV.int IntKind.i64 (0 : Int)) []) (Post (AV.int IntKind.i64 n) []))
        (Post (AV.int IntKind.i64 n) []))))
        (condP (c == (240 : Int))
        (condP
        (decide (IntKind.wrap IntKind.i64 (↑(UInt8.toNat (List.getD (Array.toList (ByteArray.data s)) (Int.toNat (IntKind.wrap IntKind.i64 (p + (1 : Int)))) (0 : UInt8))) : Int) < (144 : Int)))
        (Post (AV.int IntKind.i64 (0 : Int)) [])
        (condP (c == (244 : Int))
        (condP
        (decide
        (IntKind.wrap IntKind.i64 (↑(UInt8.toNat (List.getD (Array.toList (ByteArray.data s)) (Int.toNat (IntKind.wrap IntKind.i64 (p + (1 : Int)))) (0 : UInt8))) : Int) > (143 : Int)))
        (Post (AV.int IntKind.i64 (0 : Int)) []) (Post (AV.int IntKind.i64 n) []))
        (Post (AV.int IntKind.i64 n) [])))
        (condP (c == (244 : Int))
        (condP
        (decide
        (IntKind.wrap IntKind.i64 (↑(UInt8.toNat (List.getD (Array.toList (ByteArray.data s)) (Int.toNat (IntKind.wrap IntKind.i64 (p + (1 : Int)))) (0 : UInt8))) : Int) > (143 : Int)))
        (Post (AV.int IntKind.i64 (0 : Int)) []) (Post (AV.int IntKind.i64 n) []))
        (Post (AV.int IntKind.i64 n) []))))) →
    AWP Try.prog 96 n_1 c322_16 [(0, AV.str s), (1, AV.int IntKind.i64 p), (5, AV.int IntKind.i64 n), (6, AV.int IntKind.i64 c)] [] (q322_0 n_1 Post) := fun s p n c n Post h => Go.Ab.awp_sound g322 n _ _ _ _ (Go.Ab.kc (by kernel_rfl) h)
theorem v322_12 : ∀ (s : ByteArray) (p n c i : Int) (n_1 : Nat) (Post : AV → List AObj → Prop),
  condP (decide (i < n))
      (needP ((0 : Int) ≤ IntKind.wrap IntKind.i64 (p + i) ∧ IntKind.wrap IntKind.i64 (p + i) < (↑(ByteArray.size s) : Int))
        (condP (decide ((↑(UInt8.toNat (List.getD (Array.toList (ByteArray.data s)) (Int.toNat (IntKind.wrap IntKind.i64 (p + i))) (0 : UInt8))) : Int) < (128 : Int)))
        (Post (AV.int IntKind.i64 (0 : Int)) [])
        (needP ((0 : Int) ≤ IntKind.wrap IntKind.i64 (p + i) ∧ IntKind.wrap IntKind.i64 (p + i) < (↑(ByteArray.size s) : Int))
        (condP (decide ((↑(UInt8.toNat (List.getD (Array.toList (ByteArray.data s)) (Int.toNat (IntKind.wrap IntKind.i64 (p + i))) (0 : UInt8))) : Int) > (191 : Int)))
        (Post (AV.int IntKind.i64 (0 : Int)) [])
        (AWP Try.prog 96 n_1 c322_12
        [(0, AV.str s), (1, AV.int IntKind.i64 p), (5, AV.int IntKind.i64 n), (6, AV.int IntKind.i64 c),
        (7, AV.int IntKind.i64 (IntKind.wrap IntKind.i64 (i + (1 : Int))))]
        [] (q322_2 n_1 Post))))))
      (AWP Try.prog 96 n_1 c322_16 [(0, AV.str s), (1, AV.int IntKind.i64 p), (5, AV.int IntKind.i64 n), (6, AV.int IntKind.i64 c)] [] (q322_0 n_1 Post)) →
    AWP Try.prog 96 n_1 c322_12
      [(0, AV.str s), (1, AV.int IntKind.i64 p), (5, AV.int IntKind.i64 n), (6, AV.int IntKind.i64 c), (7, AV.int IntKind.i64 i)] [] (q322_2 n_1 Post) := fun s p n c i n Post h => Go.Ab.AWP.loop' g322 (Cfg.live g322) c322_12 (by kernel_rfl) (by kernel_rfl) (Go.Ab.kc (by kernel_rfl) h)

-- 261
noncomputable def l261 : Nat → List Nat
  | 9 => [0, 1, 6, 7]
  | 11 => [0, 1, 6, 7]
  | 12 => [0, 1, 6, 7, 8]
  | _ => []
noncomputable def u261 : Nat → Bool
  | 9 => true
  | 11 => true
  | _ => false
noncomputable def m261 : Nat → Bool
  | _ => false
noncomputable def g261 : Cfg := { N := 58, live := l261, cut := u261, mu := m261, ret := rets }
noncomputable def c261 : Go.Code := Go.Ab.bodyOf Go.Proofs.Try.f261
noncomputable def q261_0 : Nat → (AV → List AObj → Prop) → AQ := fun (n : Nat) (Post : AV → List AObj → Prop) => endQ Try.prog (resultsOf Try.f261) Post
noncomputable def c261_9 : Go.Code := codeSnd (codeSnd (codeSnd (codeSnd (codeSnd (codeSnd c261)))))
theorem s261 : ∀ (s : ByteArray) (p : Int) (Post : AV → List AObj → Prop),
  needP ((0 : Int) ≤ p ∧ p < (↑(ByteArray.size s) : Int))
      (condP (decide ((↑(UInt8.toNat (List.getD (Array.toList (ByteArray.data s)) (Int.toNat p) (0 : UInt8))) : Int) < (128 : Int)))
        (needP ((0 : Int) ≤ p ∧ p < (↑(ByteArray.size s) : Int))
        (Post (AV.tup [AV.int IntKind.i64 (IntKind.wrap IntKind.i64 (↑(UInt8.toNat (List.getD (Array.toList (ByteArray.data s)) (Int.toNat p) (0 : UInt8))) : Int)), AV.int IntKind.i64 (1 : Int)])
        []))
        (ASpec Try.prog 322 [AV.str s, AV.int IntKind.i64 p] [] fun (r : AV) (H' : List AObj) =>
        ∃ (x : Int),
        r = AV.int IntKind.i64 x ∧
        H' = [] ∧
        condP (x == (0 : Int)) (Post (AV.tup [AV.int IntKind.i64 (65533 : Int), AV.int IntKind.i64 (1 : Int)]) [])
        (needP ((0 : Int) ≤ p ∧ p < (↑(ByteArray.size s) : Int))
        (needP ((32 : Int) ≠ (0 : Int))
        (condP (x == (3 : Int))
        (needP ((0 : Int) ≤ p ∧ p < (↑(ByteArray.size s) : Int))
        (needP ((16 : Int) ≠ (0 : Int))
        (AWP Try.prog 58 0 c261_9
        [(0, AV.str s), (1, AV.int IntKind.i64 p), (6, AV.int IntKind.i64 x),
        (7,
        AV.int IntKind.i64 (Int.tmod (IntKind.wrap IntKind.i64 (↑(UInt8.toNat (List.getD (Array.toList (ByteArray.data s)) (Int.toNat p) (0 : UInt8))) : Int)) (16 : Int)))]
        [] (q261_0 0 Post))))
        (AWP Try.prog 58 0 c261_9
        [(0, AV.str s), (1, AV.int IntKind.i64 p), (6, AV.int IntKind.i64 x),
        (7,
        AV.int IntKind.i64 (Int.tmod (IntKind.wrap IntKind.i64 (↑(UInt8.toNat (List.getD (Array.toList (ByteArray.data s)) (Int.toNat p) (0 : UInt8))) : Int)) (32 : Int)))]
        [] (q261_0 0 Post))))))) →
    ASpec Try.prog 261 [AV.str s, AV.int IntKind.i64 p] [] Post := fun s p Post h => Go.Ab.ASpec.of_vc g261 Go.Proofs.Try.func261 (by kernel_rfl) (by kernel_rfl) (by kernel_rfl) (Go.Ab.kc (by kernel_rfl) h)
noncomputable def c261_11 : Go.Code := codeSnd c261_9
theorem v261_9 : ∀ (s : ByteArray) (p n x : Int) (n_1 : Nat) (Post : AV → List AObj → Prop),
  condP (n == (4 : Int))
      (needP ((0 : Int) ≤ p ∧ p < (↑(ByteArray.size s) : Int))
        (needP ((8 : Int) ≠ (0 : Int))
        (AWP Try.prog 58 n_1 c261_11
        [(0, AV.str s), (1, AV.int IntKind.i64 p), (6, AV.int IntKind.i64 n),
        (7, AV.int IntKind.i64 (Int.tmod (IntKind.wrap IntKind.i64 (↑(UInt8.toNat (List.getD (Array.toList (ByteArray.data s)) (Int.toNat p) (0 : UInt8))) : Int)) (8 : Int)))]
        [] (q261_0 n_1 Post))))
      (AWP Try.prog 58 n_1 c261_11 [(0, AV.str s), (1, AV.int IntKind.i64 p), (6, AV.int IntKind.i64 n), (7, AV.int IntKind.i64 x)] [] (q261_0 n_1 Post)) →
    AWP Try.prog 58 n_1 c261_9 [(0, AV.str s), (1, AV.int IntKind.i64 p), (6, AV.int IntKind.i64 n), (7, AV.int IntKind.i64 x)] [] (q261_0 n_1 Post) := fun s p n x n Post h => Go.Ab.awp_sound g261 n _ _ _ _ (Go.Ab.kc (by kernel_rfl) h)
noncomputable def q261_1 : Nat → (AV → List AObj → Prop) → AQ := fun (n : Nat) (Post : AV → List AObj → Prop) => seqQ (fun (s' : Slots) (H' : List AObj) => awp Try.prog g261 n (codeSnd c261_11) s' H' (q261_0 n Post)) (q261_0 n Post)
noncomputable def q261_2 : Nat → (AV → List AObj → Prop) → AQ := fun (n : Nat) (Post : AV → List AObj → Prop) => blockQ 0 (q261_1 n Post)
noncomputable def c261_12 : Go.Code := codeFst (codeSnd (codeFst c261_11))
theorem v261_11 : ∀ (s : ByteArray) (p n x : Int) (n_1 : Nat) (Post : AV → List AObj → Prop),
  AWP Try.prog 58 n_1 c261_12
      [(0, AV.str s), (1, AV.int IntKind.i64 p), (6, AV.int IntKind.i64 n), (7, AV.int IntKind.i64 x), (8, AV.int IntKind.i64 (1 : Int))] [] (q261_2 n_1 Post) →
    AWP Try.prog 58 n_1 c261_11 [(0, AV.str s), (1, AV.int IntKind.i64 p), (6, AV.int IntKind.i64 n), (7, AV.int IntKind.i64 x)] [] (q261_0 n_1 Post) := fun s p n x n Post h => Go.Ab.awp_sound g261 n _ _ _ _ (Go.Ab.kc (by kernel_rfl) h)
theorem v261_12 : ∀ (s : ByteArray) (p n x i : Int) (n_1 : Nat) (Post : AV → List AObj → Prop),
  condP (decide (i < n))
      (needP ((0 : Int) ≤ IntKind.wrap IntKind.i64 (p + i) ∧ IntKind.wrap IntKind.i64 (p + i) < (↑(ByteArray.size s) : Int))
        (needP ((64 : Int) ≠ (0 : Int))
        (AWP Try.prog 58 n_1 c261_12
        [(0, AV.str s), (1, AV.int IntKind.i64 p), (6, AV.int IntKind.i64 n),
        (7,
        AV.int IntKind.i64
        (IntKind.wrap IntKind.i64
        (IntKind.wrap IntKind.i64 (x * (64 : Int)) +
        Int.tmod (IntKind.wrap IntKind.i64 (↑(UInt8.toNat (List.getD (Array.toList (ByteArray.data s)) (Int.toNat (IntKind.wrap IntKind.i64 (p + i))) (0 : UInt8))) : Int)) (64 : Int)))),
        (8, AV.int IntKind.i64 (IntKind.wrap IntKind.i64 (i + (1 : Int))))]
        [] (q261_2 n_1 Post))))
      (Post (AV.tup [AV.int IntKind.i64 x, AV.int IntKind.i64 n]) []) →
    AWP Try.prog 58 n_1 c261_12
      [(0, AV.str s), (1, AV.int IntKind.i64 p), (6, AV.int IntKind.i64 n), (7, AV.int IntKind.i64 x), (8, AV.int IntKind.i64 i)] [] (q261_2 n_1 Post) := fun s p n x i n Post h => Go.Ab.AWP.loop' g261 (Cfg.live g261) c261_12 (by kernel_rfl) (by kernel_rfl) (Go.Ab.kc (by kernel_rfl) h)

-- 164
noncomputable def l164 : Nat → List Nat
  | 3 => [0, 3, 4]
  | _ => []
noncomputable def u164 : Nat → Bool
  | _ => false
noncomputable def m164 : Nat → Bool
  | _ => false
noncomputable def g164 : Cfg := { N := 25, live := l164, cut := u164, mu := m164, ret := rets }
noncomputable def c164 : Go.Code := Go.Ab.bodyOf Go.Proofs.Try.f164
noncomputable def q164_0 : Nat → (AV → List AObj → Prop) → AQ := fun (n : Nat) (Post : AV → List AObj → Prop) => endQ Try.prog (resultsOf Try.f164) Post
noncomputable def q164_1 : Nat → (AV → List AObj → Prop) → AQ := fun (n : Nat) (Post : AV → List AObj → Prop) => seqQ (fun (s' : Slots) (H' : List AObj) => awp Try.prog g164 n (codeSnd (codeSnd (codeSnd (codeSnd c164)))) s' H' (q164_0 n Post)) (q164_0 n Post)
noncomputable def q164_2 : Nat → (AV → List AObj → Prop) → AQ := fun (n : Nat) (Post : AV → List AObj → Prop) => blockQ 0 (q164_1 n Post)
noncomputable def c164_3 : Go.Code := codeFst (codeFst (codeSnd (codeSnd (codeSnd c164))))
theorem s164 : ∀ (s : ByteArray) (Post : AV → List AObj → Prop),
  AWP Try.prog 25 0 c164_3 [(0, AV.str s), (3, AV.sl 0 (Seq.raw []) Tip.nil), (4, AV.int IntKind.i64 (0 : Int))] [] (q164_2 0 Post) →
    ASpec Try.prog 164 [AV.str s] [] Post := fun s Post h => Go.Ab.ASpec.of_vc g164 Go.Proofs.Try.func164 (by kernel_rfl) (by kernel_rfl) (by kernel_rfl) (Go.Ab.kc (by kernel_rfl) h)
theorem v164_3 : ∀ (s : ByteArray) (l : List Int) (p : Int) (n : Nat) (Post : AV → List AObj → Prop),
  condP (decide (p < (↑(ByteArray.size s) : Int)))
      (ASpec Try.prog 261 [AV.str s, AV.int IntKind.i64 p] [AObj.tok] fun (r : AV) (H' : List AObj) =>
        ∃ (x : Int × Int),
        r = AV.tup [AV.int IntKind.i64 (Prod.fst x), AV.int IntKind.i64 (Prod.snd x)] ∧
        H' = [AObj.tok] ∧
        needP ((List.length l + 1) * 8 ≤ 140737488351232)
        (AWP Try.prog 25 n c164_3
        [(0, AV.str s), (3, AV.sl 1 (Seq.app (Seq.map encI (0 : Int) l) (Seq.raw [[AV.int IntKind.i64 (Prod.fst x)]])) (Tip.tok 1)),
        (4, AV.int IntKind.i64 (IntKind.wrap IntKind.i64 (p + Prod.snd x)))]
        [AObj.gone, AObj.tok] (q164_2 n Post)))
      (Post (AV.sl 1 (Seq.map encI (0 : Int) l) (Tip.tok 0)) [AObj.tok]) →
    AWP Try.prog 25 n c164_3 [(0, AV.str s), (3, AV.sl 1 (Seq.map encI (0 : Int) l) (Tip.tok 0)), (4, AV.int IntKind.i64 p)] [AObj.tok] (q164_2 n Post) := fun s l p n Post h => Go.Ab.AWP.loop' g164 (Cfg.live g164) c164_3 (by kernel_rfl) (by kernel_rfl) (Go.Ab.kc (by kernel_rfl) h)

-- 39
noncomputable def l39 : Nat → List Nat
  | 5 => [3, 4]
  | _ => []
noncomputable def u39 : Nat → Bool
  | _ => false
noncomputable def m39 : Nat → Bool
  | _ => false
noncomputable def g39 : Cfg := { N := 42, live := l39, cut := u39, mu := m39, ret := rets }
noncomputable def c39 : Go.Code := Go.Ab.bodyOf Go.Proofs.Try.f39
noncomputable def q39_0 : Nat → (AV → List AObj → Prop) → AQ := fun (n : Nat) (Post : AV → List AObj → Prop) => endQ Try.prog (resultsOf Try.f39) Post
noncomputable def q39_1 : Nat → (AV → List AObj → Prop) → AQ := fun (n : Nat) (Post : AV → List AObj → Prop) => seqQ (fun (s' : Slots) (H' : List AObj) => awp Try.prog g39 n (codeSnd (codeSnd (codeSnd (codeSnd c39)))) s' H' (q39_0 n Post)) (q39_0 n Post)
noncomputable def q39_2 : Nat → (AV → List AObj → Prop) → AQ := fun (n : Nat) (Post : AV → List AObj → Prop) => blockQ 0 (q39_1 n Post)
noncomputable def c39_5 : Go.Code := codeFst (codeSnd (codeFst (codeSnd (codeSnd (codeSnd c39)))))
theorem s39 : ∀ (s : ByteArray) (Post : AV → List AObj → Prop),
  condP (decide ((↑(ByteArray.size s) : Int) > (100 : Int))) (Post (AV.bool false) [])
      (ASpec Try.prog 164 [AV.str s] [] fun (r : AV) (H' : List AObj) =>
        ∃ (x : List Int),
        r = AV.sl 1 (Seq.map encI (0 : Int) x) Tip.none ∧
        H' = [] ∧ AWP Try.prog 42 0 c39_5 [(3, AV.sl 1 (Seq.map encI (0 : Int) x) Tip.none), (4, AV.int IntKind.i64 (0 : Int))] [] (q39_2 0 Post)) →
    ASpec Try.prog 39 [AV.str s] [] Post := fun s Post h => Go.Ab.ASpec.of_vc g39 Go.Proofs.Try.func39 (by kernel_rfl) (by kernel_rfl) (by kernel_rfl) (Go.Ab.kc (by kernel_rfl) h)
theorem v39_5 : ∀ (l : List Int) (i : Int) (n : Nat) (Post : AV → List AObj → Prop),
  condP (decide (i < (↑(List.length l) : Int)))
      (needP ((0 : Int) ≤ i ∧ i < (↑(List.length l) : Int))
        (ASpec Try.prog 165 [AV.int IntKind.i64 (List.getD l (Int.toNat i) (0 : Int))] [] fun (r : AV) (H' : List AObj) =>
        ∃ (x : Int),
        r = AV.int IntKind.i64 x ∧
        H' = [] ∧
        condP (x == (4 : Int)) (Post (AV.bool false) [])
        (condP (i == (0 : Int))
        (needP ((0 : Int) ≤ i ∧ i < (↑(List.length l) : Int))
        (ASpec Try.prog 165 [AV.int IntKind.i64 (List.getD l (Int.toNat i) (0 : Int))] [] fun (r : AV) (H' : List AObj) =>
        ∃ (x : Int),
        r = AV.int IntKind.i64 x ∧
        H' = [] ∧
        condP (decide (x > (1 : Int))) (Post (AV.bool false) [])
        (AWP Try.prog 42 n c39_5
        [(3, AV.sl 1 (Seq.map encI (0 : Int) l) Tip.none), (4, AV.int IntKind.i64 (IntKind.wrap IntKind.i64 (i + (1 : Int))))] [] (q39_2 n Post))))
        (AWP Try.prog 42 n c39_5 [(3, AV.sl 1 (Seq.map encI (0 : Int) l) Tip.none), (4, AV.int IntKind.i64 (IntKind.wrap IntKind.i64 (i + (1 : Int))))] []
        (q39_2 n Post)))))
      (condP (decide ((↑(List.length l) : Int) ≥ (1 : Int))) (Post (AV.bool (decide ((↑(List.length l) : Int) ≤ (12 : Int)))) []) (Post (AV.bool false) [])) →
    AWP Try.prog 42 n c39_5 [(3, AV.sl 1 (Seq.map encI (0 : Int) l) Tip.none), (4, AV.int IntKind.i64 i)] [] (q39_2 n Post) := fun l i n Post h => Go.Ab.AWP.loop' g39 (Cfg.live g39) c39_5 (by kernel_rfl) (by kernel_rfl) (Go.Ab.kc (by kernel_rfl) h)

-- 262
end
end S
end

section
/- The plain law of numbers as bytes. -/

namespace V

end V
end

section
/- vlq.Put: what it computes. -/

set_option linter.unusedVariables false
set_option linter.unusedSimpArgs false
open Go Go.Ab Go.Proofs
namespace V

def big : Nat := 140737488351232

theorem tmodN (a b : Nat) : Int.tmod (a : Int) (b : Int) = ((a % b : Nat) : Int) := by rfl

theorem selTok : Sel 0 [1] [AObj.gone, AObj.tok] [AObj.tok] := Sel.one 1 rfl rfl

end V
end

section
/- The reader of bytes: what its methods compute. -/

set_option linter.unusedVariables false
set_option linter.unusedSimpArgs false
open Go Go.Ab Go.Proofs
namespace V

end V
end

section
/- The document's numbers, texts and reader: what they compute. -/

set_option linter.unusedVariables false
set_option linter.unusedSimpArgs false
open Go Go.Ab Go.Proofs
namespace V

abbrev B (l : List UInt8) : ByteArray := ⟨l.toArray⟩

theorem B_size (l : List UInt8) : (B l).size = l.length := by simp [ByteArray.size]
theorem B_toList (l : List UInt8) : (B l).toList = l := by rw [ByteArray.toList_eq]
theorem B_beq (a b : List UInt8) : ((B a).toList == (B b).toList) = (a == b) := by rw [B_toList, B_toList]
theorem condS {a b : List UInt8} {A C : Prop} (h1 : a = b → A) (h2 : a ≠ b → C) : condP ((B a).toList == (B b).toList) A C := by
  rw [B_beq]
  by_cases h : a = b
  · rw [beq_iff_eq.2 h]; exact h1 h
  · rw [beq_eq_false_iff_ne.2 h]; exact h2 h

/-! ### numbers -/

/-! ### the document's look -/

end V
end

section
/- Readers as objects, in any heap; the chapter's examples. -/

set_option linter.unusedVariables false
set_option linter.unusedSimpArgs false
open Go Go.Ab Go.Proofs
namespace V

theorem set_same {α : Type _} {l : List α} {i : Nat} {a : α} (h : l[i]? = some a) : l.set i a = l := by
  apply List.ext_getElem?
  intro j
  rw [List.getElem?_set]
  split
  · rename_i e; subst e
    have := (List.getElem?_eq_some_iff.1 h).1
    simp only [this, if_true]
    exact h.symm
  · rfl

end V
end

section
/- VlqOrder: the law's function returns true. -/

set_option linter.unusedVariables false
set_option linter.unusedSimpArgs false
open Go Go.Ab Go.Proofs
namespace V

end V
end

section
/- VlqBack: what was put is read: the law's function returns true. -/

set_option linter.unusedVariables false
set_option linter.unusedSimpArgs false
open Go Go.Ab Go.Proofs
namespace V

end V
end

section
/- The document's reader, and a reader that is none: what their methods compute, in any heap. -/

set_option linter.unusedVariables false
set_option linter.unusedSimpArgs false
open Go Go.Ab Go.Proofs
namespace V

theorem condSn {a b : List UInt8} {A C : Prop} (h1 : a ≠ b → A) (h2 : a = b → C) : condP (!(B a).toList == (B b).toList) A C := by
  rw [B_beq]
  by_cases h : a = b
  · rw [beq_iff_eq.2 h]; exact h2 h
  · rw [beq_eq_false_iff_ne.2 h]; exact h1 h

/-! ### a reader that is none -/

/-! ### the reader and the document's -/

end V
end

section
/- Stamps: what the code and the document sum up, close and open. -/

set_option linter.unusedVariables false
set_option linter.unusedSimpArgs false
open Go Go.Ab Go.Proofs V
namespace Go.Ab

theorem Le.tup {l r : List AV} (h : Les l r) : Le (.tup l) (.tup r) := by
  intro M w loc v hv
  cases hv with
  | tup _ vs hs hr =>
    have hl := h.len
    exact .tup _ vs (by omega) fun i hi => h.get i (by omega) hi M w loc _ (hr i (by omega))

theorem Le.agg {l r : List AV} (h : Les l r) : Le (.agg l) (.agg r) := by
  intro M w loc v hv
  cases hv with
  | agg _ vs hs hr =>
    have hl := h.len
    exact .agg _ vs (by omega) fun i hi => h.get i (by omega) hi M w loc _ (hr i (by omega))

end Go.Ab
namespace S

def fnv : Nat → List UInt8 → Nat
  | n, [] => n
  | n, c :: l => fnv ((n ^^^ c.toNat) * 16777619 % 4294967296) l

abbrev sum (l : List UInt8) : Nat := fnv 2166136261 l
/-! ### xor, bit by bit -/

/-! ### sums -/

/-! ### sealing -/

/-! ### opening -/

end S
end

section
/- Labels: runes, kinds, and which names may be. -/

set_option linter.unusedVariables false
set_option linter.unusedSimpArgs false
set_option maxRecDepth 100000
open Go Go.Ab Go.Proofs V
namespace S

def kindM (c : Int) : Int := if 97 ≤ c ∧ c ≤ 122 then 0 else if 945 ≤ c ∧ c ≤ 969 then 1 else if 48 ≤ c ∧ c ≤ 57 then 2 else if c = 45 then 3 else 4

theorem kind_spec (c : Int) (H : List AObj) : ASpec Try.prog 253 [.int .i32 c] H (fun r H' => r = .int .i64 (kindM c) ∧ H' = H) := by
  have k : ASpec Try.prog 253 [.int .i32 c] [] (fun r H' => r = .int .i64 (kindM c) ∧ H' = []) := by
    refine s253 _ _ ?_
    repeat' (first | refine condD (fun _ => ?_) fun _ => ?_ | refine condE (fun _ => ?_) fun _ => ?_)
    all_goals (refine ⟨?_, rfl⟩; congr 1; unfold kindM; repeat' split)
    all_goals omega
  exact ASpec.pureH H k _ _ rfl rfl

theorem rkind_spec (c : Int) (H : List AObj) : ASpec Try.prog 165 [.int .i64 c] H (fun r H' => r = .int .i64 (kindM c) ∧ H' = H) := by
  have k : ASpec Try.prog 165 [.int .i64 c] [] (fun r H' => r = .int .i64 (kindM c) ∧ H' = []) := by
    refine s165 _ _ ?_
    repeat' (first | refine condD (fun _ => ?_) fun _ => ?_ | refine condE (fun _ => ?_) fun _ => ?_)
    all_goals (refine ⟨?_, rfl⟩; congr 1; unfold kindM; repeat' split)
    all_goals omega
  exact ASpec.pureH H k _ _ rfl rfl

theorem kindM_range (c : Int) : 0 ≤ kindM c ∧ kindM c ≤ 4 := by
  unfold kindM; repeat' split
  all_goals omega

/-! ### the rune at a place -/

/-- a byte behind a place -/
abbrev bt (l : List UInt8) (p k : Nat) : Nat := (l.getD (p + k) 0).toNat

theorem bt_lt (l : List UInt8) (p k : Nat) : bt l p k < 256 := (l.getD (p + k) 0).toNat_lt

theorem get_B (l : List UInt8) (j : Nat) : (B l).get! j = l.getD j 0 := by
  show l.toArray[j]! = _
  rw [getElem!_def]
  simp [List.getD]
  rfl

abbrev wideC (a b0 b1 b2 b3 : Nat) : Nat :=
  if 194 ≤ b0 ∧ b0 ≤ 223 then (if 2 ≤ a ∧ (128 ≤ b1 ∧ b1 ≤ 191) then 2 else 0)
  else if 224 ≤ b0 ∧ b0 ≤ 239 then (if 3 ≤ a ∧ (128 ≤ b1 ∧ b1 ≤ 191) ∧ (128 ≤ b2 ∧ b2 ≤ 191) ∧ ¬ (b0 = 224 ∧ b1 < 160) ∧ ¬ (b0 = 237 ∧ 159 < b1) then 3 else 0)
  else if 240 ≤ b0 ∧ b0 ≤ 244 then (if 4 ≤ a ∧ (128 ≤ b1 ∧ b1 ≤ 191) ∧ (128 ≤ b2 ∧ b2 ≤ 191) ∧ (128 ≤ b3 ∧ b3 ≤ 191) ∧ ¬ (b0 = 240 ∧ b1 < 144) ∧ ¬ (b0 = 244 ∧ 143 < b1) then 4 else 0)
  else 0

def wideM (l : List UInt8) (p : Nat) : Nat := wideC (l.length - p) (bt l p 0) (bt l p 1) (bt l p 2) (bt l p 3)

abbrev runeC (w b0 b1 b2 b3 : Nat) : Nat × Nat :=
  if b0 < 128 then (b0, 1) else if w = 0 then (65533, 1) else if w = 2 then (b0 % 32 * 64 + b1 % 64, 2)
  else if w = 3 then ((b0 % 16 * 64 + b1 % 64) * 64 + b2 % 64, 3) else (((b0 % 8 * 64 + b1 % 64) * 64 + b2 % 64) * 64 + b3 % 64, 4)

def runeM (l : List UInt8) (p : Nat) : Nat × Nat := runeC (wideM l p) (bt l p 0) (bt l p 1) (bt l p 2) (bt l p 3)

theorem decode_core (a b0 b1 b2 b3 : Nat) (h0 : b0 < 256) (h1 : b1 < 256) (h2 : b2 < 256) (h3 : b3 < 256) :
    (if b0 < 128 then (b0, 1)
     else if b0 / 32 = 6 ∧ (1 < a ∧ b1 / 64 = 2) then (if 128 ≤ b0 % 32 * 64 + b1 % 64 then (b0 % 32 * 64 + b1 % 64, 2) else (65533, 1))
     else if b0 / 16 = 14 ∧ (1 < a ∧ b1 / 64 = 2) ∧ (2 < a ∧ b2 / 64 = 2) then
       (if 2048 ≤ b0 % 16 * 4096 + b1 % 64 * 64 + b2 % 64 ∧ (b0 % 16 * 4096 + b1 % 64 * 64 + b2 % 64 < 55296 ∨ (57344 ≤ b0 % 16 * 4096 + b1 % 64 * 64 + b2 % 64 ∧ b0 % 16 * 4096 + b1 % 64 * 64 + b2 % 64 ≤ 1114111))
        then (b0 % 16 * 4096 + b1 % 64 * 64 + b2 % 64, 3) else (65533, 1))
     else if b0 / 8 = 30 ∧ (1 < a ∧ b1 / 64 = 2) ∧ (2 < a ∧ b2 / 64 = 2) ∧ (3 < a ∧ b3 / 64 = 2) then
       (if 65536 ≤ b0 % 8 * 262144 + b1 % 64 * 4096 + b2 % 64 * 64 + b3 % 64 ∧ (b0 % 8 * 262144 + b1 % 64 * 4096 + b2 % 64 * 64 + b3 % 64 < 55296 ∨ (57344 ≤ b0 % 8 * 262144 + b1 % 64 * 4096 + b2 % 64 * 64 + b3 % 64 ∧ b0 % 8 * 262144 + b1 % 64 * 4096 + b2 % 64 * 64 + b3 % 64 ≤ 1114111))
        then (b0 % 8 * 262144 + b1 % 64 * 4096 + b2 % 64 * 64 + b3 % 64, 4) else (65533, 1))
     else ((65533 : Nat), (1 : Nat))) = runeC (wideC a b0 b1 b2 b3) b0 b1 b2 b3 := by
  have e2 : ∀ w : Nat, w = 0 ∨ w = 2 ∨ w = 3 ∨ w = 4 ∨ 4 < w ∨ w = 1 := by omega
  by_cases c0 : b0 < 128
  · rw [if_pos c0]; unfold runeC; rw [if_pos c0]
  rw [if_neg c0]
  unfold runeC
  rw [if_neg c0]
  by_cases c1 : 194 ≤ b0 ∧ b0 ≤ 223
  · unfold wideC
    rw [if_pos c1]
    by_cases d : 1 < a ∧ b1 / 64 = 2
    · rw [if_pos ⟨by omega, d⟩, if_pos (by omega), if_pos (show 2 ≤ a ∧ (128 ≤ b1 ∧ b1 ≤ 191) by omega)]; rfl
    · rw [if_neg (fun h => d h.2), if_neg (fun h => d h.2.1), if_neg (fun h => d h.2.1), if_neg (show ¬ (2 ≤ a ∧ (128 ≤ b1 ∧ b1 ≤ 191)) by omega)]; rfl
  by_cases c2 : 224 ≤ b0 ∧ b0 ≤ 239
  · unfold wideC
    rw [if_neg c1, if_pos c2]
    rw [if_neg (show ¬ (b0 / 32 = 6 ∧ (1 < a ∧ b1 / 64 = 2)) by omega)]
    by_cases d : (1 < a ∧ b1 / 64 = 2) ∧ (2 < a ∧ b2 / 64 = 2)
    · rw [if_pos ⟨by omega, d⟩]
      by_cases f : ¬ (b0 = 224 ∧ b1 < 160) ∧ ¬ (b0 = 237 ∧ 159 < b1)
      · rw [if_pos (show 3 ≤ a ∧ (128 ≤ b1 ∧ b1 ≤ 191) ∧ (128 ≤ b2 ∧ b2 ≤ 191) ∧ ¬ (b0 = 224 ∧ b1 < 160) ∧ ¬ (b0 = 237 ∧ 159 < b1) by omega), if_pos (by omega)]
        simp only [if_neg (show ¬ (3 = 0) by omega), if_neg (show ¬ (3 = 2) by omega), if_true]
        rw [show b0 % 16 * 4096 + b1 % 64 * 64 + b2 % 64 = (b0 % 16 * 64 + b1 % 64) * 64 + b2 % 64 by omega]
      · rw [if_neg (show ¬ (3 ≤ a ∧ (128 ≤ b1 ∧ b1 ≤ 191) ∧ (128 ≤ b2 ∧ b2 ≤ 191) ∧ ¬ (b0 = 224 ∧ b1 < 160) ∧ ¬ (b0 = 237 ∧ 159 < b1)) by omega), if_neg (by omega)]; rfl
    · rw [if_neg (fun h => d h.2), if_neg (show ¬ (b0 / 8 = 30 ∧ (1 < a ∧ b1 / 64 = 2) ∧ (2 < a ∧ b2 / 64 = 2) ∧ (3 < a ∧ b3 / 64 = 2)) by omega),
        if_neg (show ¬ (3 ≤ a ∧ (128 ≤ b1 ∧ b1 ≤ 191) ∧ (128 ≤ b2 ∧ b2 ≤ 191) ∧ ¬ (b0 = 224 ∧ b1 < 160) ∧ ¬ (b0 = 237 ∧ 159 < b1)) by omega)]; rfl
  by_cases c3 : 240 ≤ b0 ∧ b0 ≤ 244
  · unfold wideC
    rw [if_neg c1, if_neg c2, if_pos c3]
    rw [if_neg (show ¬ (b0 / 32 = 6 ∧ (1 < a ∧ b1 / 64 = 2)) by omega), if_neg (show ¬ (b0 / 16 = 14 ∧ (1 < a ∧ b1 / 64 = 2) ∧ (2 < a ∧ b2 / 64 = 2)) by omega)]
    by_cases d : (1 < a ∧ b1 / 64 = 2) ∧ (2 < a ∧ b2 / 64 = 2) ∧ (3 < a ∧ b3 / 64 = 2)
    · rw [if_pos ⟨by omega, d⟩]
      by_cases f : ¬ (b0 = 240 ∧ b1 < 144) ∧ ¬ (b0 = 244 ∧ 143 < b1)
      · rw [if_pos (show 4 ≤ a ∧ (128 ≤ b1 ∧ b1 ≤ 191) ∧ (128 ≤ b2 ∧ b2 ≤ 191) ∧ (128 ≤ b3 ∧ b3 ≤ 191) ∧ ¬ (b0 = 240 ∧ b1 < 144) ∧ ¬ (b0 = 244 ∧ 143 < b1) by omega), if_pos (by omega)]
        simp only [if_neg (show ¬ (4 = 0) by omega), if_neg (show ¬ (4 = 2) by omega), if_neg (show ¬ (4 = 3) by omega)]
        rw [show b0 % 8 * 262144 + b1 % 64 * 4096 + b2 % 64 * 64 + b3 % 64 = ((b0 % 8 * 64 + b1 % 64) * 64 + b2 % 64) * 64 + b3 % 64 by omega]
      · rw [if_neg (show ¬ (4 ≤ a ∧ (128 ≤ b1 ∧ b1 ≤ 191) ∧ (128 ≤ b2 ∧ b2 ≤ 191) ∧ (128 ≤ b3 ∧ b3 ≤ 191) ∧ ¬ (b0 = 240 ∧ b1 < 144) ∧ ¬ (b0 = 244 ∧ 143 < b1)) by omega), if_neg (by omega)]; rfl
    · rw [if_neg (fun h => d h.2), if_neg (show ¬ (4 ≤ a ∧ (128 ≤ b1 ∧ b1 ≤ 191) ∧ (128 ≤ b2 ∧ b2 ≤ 191) ∧ (128 ≤ b3 ∧ b3 ≤ 191) ∧ ¬ (b0 = 240 ∧ b1 < 144) ∧ ¬ (b0 = 244 ∧ 143 < b1)) by omega)]; rfl
  · unfold wideC
    rw [if_neg c1, if_neg c2, if_neg c3]
    by_cases d : b0 / 32 = 6 ∧ (1 < a ∧ b1 / 64 = 2)
    · rw [if_pos d, if_neg (by omega)]; rfl
    rw [if_neg d, if_neg (show ¬ (b0 / 16 = 14 ∧ (1 < a ∧ b1 / 64 = 2) ∧ (2 < a ∧ b2 / 64 = 2)) by omega)]
    by_cases f : b0 / 8 = 30 ∧ (1 < a ∧ b1 / 64 = 2) ∧ (2 < a ∧ b2 / 64 = 2) ∧ (3 < a ∧ b3 / 64 = 2)
    · rw [if_pos f, if_neg (by omega)]; rfl
    · rw [if_neg f]; rfl

theorem validN (n : Nat) : Utf8.valid (n : Int) = (decide (n < 55296) || (decide (57344 ≤ n) && decide (n ≤ 1114111))) := by
  unfold Utf8.valid
  rw [Bool.eq_iff_iff]
  simp only [Bool.and_eq_true, Bool.or_eq_true, decide_eq_true_eq]
  omega

set_option maxRecDepth 100000 in
theorem decode_eq (l : List UInt8) (p : Nat) (hp : p < l.length) : Utf8.decode (B l) p = runeM l p := by
  unfold runeM wideM
  rw [← decode_core (l.length - p) _ _ _ _ (bt_lt l p 0) (bt_lt l p 1) (bt_lt l p 2) (bt_lt l p 3)]
  have hb : ∀ k, ((B l).get! (p + k)).toNat = bt l p k := fun k => by rw [get_B]
  have hc : ∀ k, decide (p + k < (B l).size) = decide (k < l.length - p) := fun k => by rw [B_size]; apply decide_eq_decide.2; omega
  unfold Utf8.decode
  simp only [hb, hc, validN]
  generalize bt l p 0 = b0
  generalize bt l p 1 = b1
  generalize bt l p 2 = b2
  generalize bt l p 3 = b3
  generalize l.length - p = a
  simp only [Utf8.runeError, Bool.and_eq_true, Bool.or_eq_true, decide_eq_true_eq, beq_iff_eq, ge_iff_le, and_assoc]

theorem runeM_width (l : List UInt8) (p : Nat) : 1 ≤ (runeM l p).2 ∧ (runeM l p).2 ≤ 4 := by
  unfold runeM runeC
  repeat' split
  all_goals simp

theorem wideM_cases (l : List UInt8) (p : Nat) : wideM l p = 0 ∨ (wideM l p = 2 ∧ 194 ≤ bt l p 0 ∧ bt l p 0 ≤ 223 ∧ p + 2 ≤ l.length) ∨
    (wideM l p = 3 ∧ 224 ≤ bt l p 0 ∧ bt l p 0 ≤ 239 ∧ p + 3 ≤ l.length ∧ (128 ≤ bt l p 1 ∧ bt l p 1 ≤ 191) ∧ ¬ (bt l p 0 = 224 ∧ bt l p 1 < 160)) ∨
    (wideM l p = 4 ∧ 240 ≤ bt l p 0 ∧ bt l p 0 ≤ 244 ∧ p + 4 ≤ l.length ∧ (128 ≤ bt l p 1 ∧ bt l p 1 ≤ 191) ∧ ¬ (bt l p 0 = 240 ∧ bt l p 1 < 144)) := by
  unfold wideM wideC
  repeat' split
  all_goals omega

/-- a rune that a name may have has two bytes at most -/
theorem runeM_small {l : List UInt8} {p : Nat} (h : kindM ((runeM l p).1 : Nat) ≤ 3) : (runeM l p).2 ≤ 2 := by
  have hk : ((runeM l p).1 : Int) ≤ 969 := by
    unfold kindM at h
    repeat' split at h
    all_goals omega
  rcases wideM_cases l p with e | ⟨e, h1⟩ | ⟨e, h1, h2, h3, h4, h5⟩ | ⟨e, h1, h2, h3, h4, h5⟩
  · unfold runeM runeC
    repeat' split
    all_goals simp_all
  · unfold runeM runeC
    repeat' split
    all_goals simp_all
  · exfalso
    unfold runeM runeC at hk
    rw [e] at hk
    rw [if_neg (by omega), if_neg (by omega), if_neg (by omega), if_pos rfl] at hk
    simp only at hk
    omega
  · exfalso
    unfold runeM runeC at hk
    rw [e] at hk
    rw [if_neg (by omega), if_neg (by omega), if_neg (by omega), if_neg (by omega)] at hk
    simp only at hk
    omega

/-! ### the document's walk over a rune's bytes -/

section
variable {l : List UInt8} {p : Nat} {Post : AV → List AObj → Prop}

theorem btInt (hl : l.length ≤ 10 * big) (i : Nat) (hp : p + i < l.length) :
    IntKind.wrap .i64 ((p : Int) + (i : Int)) = ((p + i : Nat) : Int) := by
  unfold big at hl
  rw [wrap64 (by omega) (by omega)]; simp

theorem btGet (i : Nat) : ((List.getD (Array.toList (ByteArray.data (B l))) (p + i) 0).toNat : Int) = (bt l p i : Nat) := rfl

def nOf (b0 : Nat) : Nat := if 194 ≤ b0 ∧ b0 ≤ 223 then 2 else if 224 ≤ b0 ∧ b0 ≤ 239 then 3 else if 240 ≤ b0 ∧ b0 ≤ 244 then 4 else 0

theorem nOf_cases (b0 : Nat) : (nOf b0 = 2 ∧ 194 ≤ b0 ∧ b0 ≤ 223) ∨ (nOf b0 = 3 ∧ 224 ≤ b0 ∧ b0 ≤ 239) ∨ (nOf b0 = 4 ∧ 240 ≤ b0 ∧ b0 ≤ 244) ∨ (nOf b0 = 0 ∧ ¬ (194 ≤ b0 ∧ b0 ≤ 244)) := by
  unfold nOf
  repeat' split
  all_goals omega

theorem wide_short (h : l.length - p < nOf (bt l p 0) ∨ nOf (bt l p 0) = 0) : wideM l p = 0 := by
  have := nOf_cases (bt l p 0)
  unfold wideM wideC
  repeat' split
  all_goals omega

theorem wide_bad {i : Nat} (h1 : 1 ≤ i) (h2 : i < nOf (bt l p 0)) (h : bt l p i < 128 ∨ 191 < bt l p i) : wideM l p = 0 := by
  have := nOf_cases (bt l p 0)
  have hi : i = 1 ∨ i = 2 ∨ i = 3 := by omega
  unfold wideM wideC
  rcases hi with rfl | rfl | rfl <;> repeat' split
  all_goals omega

theorem wideC_no {a b0 b1 b2 b3 : Nat} (h : (b0 = 224 ∧ b1 < 160) ∨ (b0 = 237 ∧ 159 < b1) ∨ (b0 = 240 ∧ b1 < 144) ∨ (b0 = 244 ∧ 143 < b1)) : wideC a b0 b1 b2 b3 = 0 := by
  unfold wideC
  repeat' split
  all_goals omega

theorem wideC_yes {a n b0 b1 b2 b3 : Nat} (hcs : (n = 2 ∧ 194 ≤ b0 ∧ b0 ≤ 223) ∨ (n = 3 ∧ 224 ≤ b0 ∧ b0 ≤ 239) ∨ (n = 4 ∧ 240 ≤ b0 ∧ b0 ≤ 244)) (ha : n ≤ a) (hc1 : 128 ≤ b1 ∧ b1 ≤ 191) (hc2 : 2 < n → 128 ≤ b2 ∧ b2 ≤ 191) (hc3 : 3 < n → 128 ≤ b3 ∧ b3 ≤ 191)
    (k1 : ¬ (b0 = 224 ∧ b1 < 160)) (k2 : ¬ (b0 = 237 ∧ 159 < b1)) (k3 : ¬ (b0 = 240 ∧ b1 < 144)) (k4 : ¬ (b0 = 244 ∧ 143 < b1)) : wideC a b0 b1 b2 b3 = n := by
  unfold wideC
  rcases hcs with ⟨rfl, g1, g2⟩ | ⟨rfl, g1, g2⟩ | ⟨rfl, g1, g2⟩
  · rw [if_pos ⟨g1, g2⟩, if_pos ⟨ha, hc1⟩]
  · rw [if_neg (by omega), if_pos ⟨g1, g2⟩, if_pos ⟨ha, hc1, hc2 (by omega), k1, k2⟩]
  · rw [if_neg (by omega), if_neg (by omega), if_pos ⟨g1, g2⟩, if_pos ⟨ha, hc1, hc2 (by omega), hc3 (by omega), k3, k4⟩]

theorem w16 (hl : l.length ≤ 10 * big) (hn : nOf (bt l p 0) ≠ 0) (hp : p + nOf (bt l p 0) ≤ l.length) (hc : ∀ i, 1 ≤ i → i < nOf (bt l p 0) → 128 ≤ bt l p i ∧ bt l p i ≤ 191) (h : Post (.int .i64 (wideM l p : Nat)) []) :
    AWP Try.prog 96 0 c322_16 [(0, .str (B l)), (1, .int .i64 p), (5, .int .i64 (nOf (bt l p 0) : Nat)), (6, .int .i64 (bt l p 0 : Nat))] [] (q322_0 0 Post) := by
  have hcs := nOf_cases (bt l p 0)
  have h256 := bt_lt l p 1
  have e1 : IntKind.wrap .i64 ((p : Int) + 1) = ((p + 1 : Nat) : Int) := by unfold big at hl; rw [wrap64 (by omega) (by omega)]; simp
  have hc1 := hc 1 (by omega) (by omega)
  have hc2 : 2 < nOf (bt l p 0) → 128 ≤ bt l p 2 ∧ bt l p 2 ≤ 191 := hc 2 (by omega)
  have hc3 : 3 < nOf (bt l p 0) → 128 ≤ bt l p 3 ∧ bt l p 3 ≤ 191 := hc 3 (by omega)
  have hcs3 : (nOf (bt l p 0) = 2 ∧ 194 ≤ bt l p 0 ∧ bt l p 0 ≤ 223) ∨ (nOf (bt l p 0) = 3 ∧ 224 ≤ bt l p 0 ∧ bt l p 0 ≤ 239) ∨ (nOf (bt l p 0) = 4 ∧ 240 ≤ bt l p 0 ∧ bt l p 0 ≤ 244) := by omega
  have fin0 : (bt l p 0 = 224 ∧ bt l p 1 < 160) ∨ (bt l p 0 = 237 ∧ 159 < bt l p 1) ∨ (bt l p 0 = 240 ∧ bt l p 1 < 144) ∨ (bt l p 0 = 244 ∧ 143 < bt l p 1) → Post (.int .i64 0) [] := by
    intro hh
    have := wideC_no (a := l.length - p) (b2 := bt l p 2) (b3 := bt l p 3) hh
    unfold wideM at h
    rw [this] at h
    exact h
  have finn : ¬ (bt l p 0 = 224 ∧ bt l p 1 < 160) → ¬ (bt l p 0 = 237 ∧ 159 < bt l p 1) → ¬ (bt l p 0 = 240 ∧ bt l p 1 < 144) → ¬ (bt l p 0 = 244 ∧ 143 < bt l p 1) → Post (.int .i64 (nOf (bt l p 0) : Nat)) [] := by
    intro k1 k2 k3 k4
    have := wideC_yes (a := l.length - p) (b2 := bt l p 2) (b3 := bt l p 3) hcs3 (by omega) hc1 hc2 hc3 k1 k2 k3 k4
    unfold wideM at h
    rw [this] at h
    exact h
  have hn2 : 2 ≤ nOf (bt l p 0) := by omega
  clear hc hcs hcs3 hc2 hc3 h
  refine v322_16 _ _ _ _ _ _ ?_
  rw [e1, Int.toNat_natCast, btGet 1, wrapN (n := bt l p 1) (by omega)]
  refine needJ ⟨by omega, by rw [B_size]; omega⟩ ?_
  generalize nOf (bt l p 0) = n at *
  generalize bt l p 0 = b0 at *
  generalize bt l p 1 = b1 at *
  repeat' (first | refine condD (fun _ => ?_) fun _ => ?_ | refine condE (fun _ => ?_) fun _ => ?_)
  all_goals first
    | exact fin0 (by omega)
    | exact finn (by omega) (by omega) (by omega) (by omega)

theorem w12 (hl : l.length ≤ 10 * big) (hn : nOf (bt l p 0) ≠ 0) (hp : p + nOf (bt l p 0) ≤ l.length) (h : Post (.int .i64 (wideM l p : Nat)) []) :
    ∀ (m i : Nat), m + i = nOf (bt l p 0) → 1 ≤ i → (∀ j, 1 ≤ j → j < i → 128 ≤ bt l p j ∧ bt l p j ≤ 191) →
    AWP Try.prog 96 0 c322_12 [(0, .str (B l)), (1, .int .i64 p), (5, .int .i64 (nOf (bt l p 0) : Nat)), (6, .int .i64 (bt l p 0 : Nat)), (7, .int .i64 i)] [] (q322_2 0 Post) := by
  have hcs := nOf_cases (bt l p 0)
  intro m
  induction m with
  | zero =>
    intro i hm h1 hc
    refine v322_12 _ _ _ _ _ _ _ (condD (fun hi => by omega) fun _ => w16 hl hn hp (fun j a b => hc j a (by omega)) h)
  | succ m ih =>
    intro i hm h1 hc
    have e1 := btInt (p := p) hl i (by omega)
    refine v322_12 _ _ _ _ _ _ _ (condD (fun hi => ?_) fun hi => by omega)
    rw [e1, Int.toNat_natCast, btGet i]
    refine needJ ⟨by omega, by rw [B_size]; omega⟩ (condD (fun hb => ?_) fun hb => needJ ⟨by omega, by rw [B_size]; omega⟩ (condD (fun hb2 => ?_) fun hb2 => ?_))
    · rw [wide_bad (l := l) (p := p) h1 (by omega) (.inl (by omega))] at h; exact h
    · rw [wide_bad (l := l) (p := p) h1 (by omega) (.inr (by omega))] at h; exact h
    · rw [show IntKind.wrap .i64 ((i : Int) + 1) = ((i + 1 : Nat) : Int) by rw [wrap64 (by omega) (by omega)]; simp]
      refine ih (i + 1) (by omega) (by omega) (fun j a b => ?_)
      by_cases e : j = i
      · subst e; omega
      · exact hc j a (by omega)

theorem w9 (hl : l.length ≤ 10 * big) (hp : p < l.length) (h : Post (.int .i64 (wideM l p : Nat)) []) :
    AWP Try.prog 96 0 c322_9 [(0, .str (B l)), (1, .int .i64 p), (5, .int .i64 (nOf (bt l p 0) : Nat)), (6, .int .i64 (bt l p 0 : Nat))] [] (q322_0 0 Post) := by
  have hcs := nOf_cases (bt l p 0)
  have hl' := hl
  unfold big at hl'
  refine v322_9 _ _ _ _ _ _ (condE (fun e => ?_) fun e => ?_)
  · rw [wide_short (l := l) (p := p) (.inr (by omega))] at h; exact h
  rw [B_size, wrap64 (x := (l.length : Int) - (p : Int)) (by omega) (by omega)]
  refine condD (fun e2 => ?_) fun e2 => ?_
  · rw [wide_short (l := l) (p := p) (.inl (by omega))] at h; exact h
  · refine v322_11 _ _ _ _ _ _ ?_
    exact w12 hl (by omega) (by omega) h (nOf (bt l p 0) - 1) 1 (by omega) (by omega) (fun j a b => by omega)

theorem wide_spec0 (hl : l.length ≤ 10 * big) (hp : p < l.length) : ASpec Try.prog 322 [.str (B l), .int .i64 p] [] (fun r H' => r = .int .i64 (wideM l p : Nat) ∧ H' = []) := by
  have h256 := bt_lt l p 0
  have hcs := nOf_cases (bt l p 0)
  have k9 : ∀ n : Int, n = (nOf (bt l p 0) : Nat) → AWP Try.prog 96 0 c322_9 [(0, .str (B l)), (1, .int .i64 p), (5, .int .i64 n), (6, .int .i64 (bt l p 0 : Nat))] [] (q322_0 0 (fun r H' => r = .int .i64 (wideM l p : Nat) ∧ H' = [])) := by
    intro n e; subst e; exact w9 hl hp ⟨rfl, rfl⟩
  refine s322 _ _ _ (needJ ⟨by omega, by rw [B_size]; omega⟩ ?_)
  rw [Int.toNat_natCast, show ((List.getD (Array.toList (ByteArray.data (B l))) p 0).toNat : Int) = (bt l p 0 : Nat) from rfl, wrapN (n := bt l p 0) (by omega)]
  generalize nOf (bt l p 0) = n at *
  generalize bt l p 0 = b0 at *
  have k7 : ∀ m : Int, m = (if 240 ≤ b0 ∧ b0 ≤ 244 then m else (n : Int)) → AWP Try.prog 96 0 c322_7 [(0, .str (B l)), (1, .int .i64 p), (5, .int .i64 m), (6, .int .i64 (b0 : Nat))] [] (q322_0 0 (fun r H' => r = .int .i64 (wideM l p : Nat) ∧ H' = [])) := by
    intro m hm
    refine v322_7 _ _ _ _ _ _ (condD (fun _ => condD (fun _ => k9 _ (by omega)) fun _ => k9 _ ?_) fun _ => k9 _ ?_)
    · rw [if_neg (by omega)] at hm; exact hm
    · rw [if_neg (by omega)] at hm; exact hm
  have k5 : ∀ m : Int, m = (if 224 ≤ b0 ∧ b0 ≤ 244 then m else (n : Int)) → AWP Try.prog 96 0 c322_5 [(0, .str (B l)), (1, .int .i64 p), (5, .int .i64 m), (6, .int .i64 (b0 : Nat))] [] (q322_0 0 (fun r H' => r = .int .i64 (wideM l p : Nat) ∧ H' = [])) := by
    intro m hm
    refine v322_5 _ _ _ _ _ _ (condD (fun _ => condD (fun _ => k7 _ ?_) fun _ => k7 _ ?_) fun _ => k7 _ ?_)
    · rw [if_neg (by omega)]; omega
    · split
      · rfl
      · rw [if_neg (by omega)] at hm; exact hm
    · split
      · rfl
      · rw [if_neg (by omega)] at hm; exact hm
  refine condD (fun _ => condD (fun _ => k5 _ ?_) fun _ => k5 _ ?_) fun _ => k5 _ ?_
  · rw [if_neg (by omega)]; omega
  · split
    · rfl
    · omega
  · split
    · rfl
    · omega

theorem wide_spec (hl : l.length ≤ 10 * big) (hp : p < l.length) (H : List AObj) : ASpec Try.prog 322 [.str (B l), .int .i64 p] H (fun r H' => r = .int .i64 (wideM l p : Nat) ∧ H' = H) :=
  ASpec.pureH H (wide_spec0 hl hp) _ _ rfl rfl

end
end S
end

section
/- Which names may be: the code's walk and the document's. -/

set_option linter.unusedVariables false
set_option linter.unusedSimpArgs false
set_option maxRecDepth 100000
open Go Go.Ab Go.Proofs V
namespace S
theorem condBn {b : Bool} {A C : Prop} (h1 : b = false → A) (h2 : b = true → C) : condP (!b) A C := by cases b <;> simp_all [condP]
section
variable {l : List UInt8} {p : Nat}

def foldx (l : List UInt8) (p : Nat) : Nat → Nat → Nat → Nat
  | 0, _, x => x
  | m + 1, i, x => foldx l p m (i + 1) (x * 64 + bt l p i % 64)

theorem u12 {Post : AV → List AObj → Prop} (hl : l.length ≤ 10 * big) {n : Nat} (hn : n ≤ 4) (hp : p + n ≤ l.length) : ∀ (m i x : Nat), m + i = n → x < 64 ^ i → Post (.tup [.int .i64 (foldx l p m i x : Nat), .int .i64 n]) [] →
    AWP Try.prog 58 0 c261_12 [(0, .str (B l)), (1, .int .i64 p), (6, .int .i64 n), (7, .int .i64 x), (8, .int .i64 i)] [] (q261_2 0 Post) := by
  intro m
  induction m with
  | zero =>
    intro i x hm hx h
    exact v261_12 _ _ _ _ _ _ _ (condD (fun hi => by omega) fun _ => h)
  | succ m ih =>
    intro i x hm hx h
    have e1 := btInt (p := p) hl i (by omega)
    have h256 := bt_lt l p i
    have h4 : (64 : Nat) ^ i ≤ 64 ^ 4 := Nat.pow_le_pow_right (by omega) (by omega)
    have e4 : (64 : Nat) ^ 4 = 16777216 := by decide
    have hn := ih (i + 1) (x * 64 + bt l p i % 64) (by omega) (by rw [Nat.pow_succ]; omega) h
    refine v261_12 _ _ _ _ _ _ _ (condD (fun hi => ?_) fun hi => by omega)
    rw [e1, Int.toNat_natCast, btGet i]
    refine needJ ⟨by omega, by rw [B_size]; omega⟩ (needJ (by decide) ?_)
    generalize bt l p i = b at h256 hn ⊢
    have m64 : Int.tmod (b : Int) 64 = ((b % 64 : Nat) : Int) := tmodN b 64
    rw [wrapN (n := b) (by omega), m64, wrap64 (x := (x : Int) * 64) (by omega) (by omega), wrap64 (x := (x : Int) * 64 + ((b % 64 : Nat) : Int)) (by omega) (by omega)]
    rw [show IntKind.wrap .i64 ((i : Int) + 1) = ((i + 1 : Nat) : Int) by rw [wrap64 (by omega) (by omega)]; simp]
    rw [show (x : Int) * 64 + ((b % 64 : Nat) : Int) = ((x * 64 + b % 64 : Nat) : Int) by simp]
    exact hn

theorem rune_spec0 (hl : l.length ≤ 10 * big) (hp : p < l.length) :
    ASpec Try.prog 261 [.str (B l), .int .i64 p] [] (fun r H' => r = .tup [.int .i64 ((runeM l p).1 : Nat), .int .i64 ((runeM l p).2 : Nat)] ∧ H' = []) := by
  have h256 := bt_lt l p 0
  have hin : (0 : Int) ≤ (p : Int) ∧ (p : Int) < ((B l).size : Int) := ⟨by omega, by rw [B_size]; omega⟩
  have hcs := wideM_cases l p
  have hR : runeM l p = runeC (wideM l p) (bt l p 0) (bt l p 1) (bt l p 2) (bt l p 3) := rfl
  refine s261 _ _ _ (needJ hin ?_)
  rw [Int.toNat_natCast, show ((List.getD (Array.toList (ByteArray.data (B l))) p 0).toNat : Int) = (bt l p 0 : Nat) from rfl, wrapN (n := bt l p 0) (by omega)]
  have m32 : Int.tmod (bt l p 0 : Nat) 32 = ((bt l p 0 % 32 : Nat) : Int) := tmodN _ 32
  have m16 : Int.tmod (bt l p 0 : Nat) 16 = ((bt l p 0 % 16 : Nat) : Int) := tmodN _ 16
  have m8 : Int.tmod (bt l p 0 : Nat) 8 = ((bt l p 0 % 8 : Nat) : Int) := tmodN _ 8
  refine condD (fun hc => needJ hin ?_) fun hc => ?_
  · rw [hR, runeC, if_pos (by omega)]
    exact ⟨rfl, rfl⟩
  refine ASpec.call (wide_spec hl hp []) (Les.refl _) ⟨_, rfl, rfl, condE (fun h0 => ?_) fun h0 => needJ hin (needJ (by decide) ?_)⟩
  · rw [hR, runeC, if_neg (by omega), if_pos (by omega)]
    exact ⟨rfl, rfl⟩
  have key : ∀ (n x0 : Nat), n = wideM l p → x0 < 64 → foldx l p (n - 1) 1 x0 = (runeM l p).1 → n = (runeM l p).2 →
      AWP Try.prog 58 0 c261_11 [(0, .str (B l)), (1, .int .i64 p), (6, .int .i64 n), (7, .int .i64 x0)] [] (q261_0 0 (fun r H' => r = .tup [.int .i64 ((runeM l p).1 : Nat), .int .i64 ((runeM l p).2 : Nat)] ∧ H' = [])) := by
    intro n x0 hn hx e1 e2
    refine v261_11 _ _ _ _ _ _ (u12 hl (n := n) (by omega) (by omega) (n - 1) 1 x0 (by omega) hx ?_)
    rw [e1, e2]
    exact ⟨rfl, rfl⟩
  refine condE (fun h3 => needJ hin (needJ (by decide) ?_)) fun h3 => ?_
  · have hw : wideM l p = 3 := by omega
    rw [m16]
    refine v261_9 _ _ _ _ _ _ (condE (fun h => by omega) fun _ => key _ _ rfl (by omega) ?_ ?_)
    · rw [hR, runeC, if_neg (by omega), if_neg (by omega), if_neg (by omega), if_pos hw, hw]; rfl
    · rw [hR, runeC, if_neg (by omega), if_neg (by omega), if_neg (by omega), if_pos hw, hw]
  · rw [m32]
    refine v261_9 _ _ _ _ _ _ (condE (fun h => needJ hin (needJ (by decide) ?_)) fun h => key _ _ rfl (by omega) ?_ ?_)
    · have hw : wideM l p = 4 := by omega
      rw [Int.toNat_natCast, show ((List.getD (Array.toList (ByteArray.data (B l))) p 0).toNat : Int) = (bt l p 0 : Nat) from rfl, wrapN (n := bt l p 0) (by omega), m8]
      refine key _ _ rfl (by omega) ?_ ?_
      · rw [hR, runeC, if_neg (by omega), if_neg (by omega), if_neg (by omega), if_neg (by omega), hw]; rfl
      · rw [hR, runeC, if_neg (by omega), if_neg (by omega), if_neg (by omega), if_neg (by omega), hw]
    · have hw : wideM l p = 2 := by omega
      rw [hR, runeC, if_neg (by omega), if_neg (by omega), if_pos hw, hw]; rfl
    · have hw : wideM l p = 2 := by omega
      rw [hR, runeC, if_neg (by omega), if_neg (by omega), if_pos hw, hw]

theorem rune_spec (hl : l.length ≤ 10 * big) (hp : p < l.length) (H : List AObj) :
    ASpec Try.prog 261 [.str (B l), .int .i64 p] H (fun r H' => r = .tup [.int .i64 ((runeM l p).1 : Nat), .int .i64 ((runeM l p).2 : Nat)] ∧ H' = H) :=
  ASpec.pureH H (rune_spec0 hl hp) _ _ rfl rfl

/-! ### all runes -/

def runesF : Nat → List UInt8 → Nat → List Int
  | 0, _, _ => []
  | f + 1, l, p => if p < l.length then ((runeM l p).1 : Int) :: runesF f l (p + (runeM l p).2) else []
def runesM (l : List UInt8) : List Int := runesF l.length l 0

theorem leAppI {l : List Int} {x : Int} {H : List AObj} : Le (.sl 1 (.app (.map encI 0 l) (.raw [[.int .i64 x]])) (.tok 1)) (AV.ren (selR [1] H.length) (.sl 1 (.map encI 0 (l ++ [x])) (.tok 0))) := by
  refine Le.sl ?_ (.inl rfl) (.inl rfl)
  simp [Ab.Seq.toList, Seq.ren, encI, renL, AV.ren]

theorem runes3 {Post : AV → List AObj → Prop} (hl : l.length ≤ 1000000) : ∀ (f p : Nat) (acc : List Int), l.length - p ≤ f → acc.length ≤ p → p ≤ l.length + 4 → Post (.sl 1 (.map encI 0 (acc ++ runesF f l p)) (.tok 0)) [.tok] →
    AWP Try.prog 25 0 c164_3 [(0, .str (B l)), (3, .sl 1 (.map encI 0 acc) (.tok 0)), (4, .int .i64 p)] [.tok] (q164_2 0 Post) := by
  intro f
  induction f with
  | zero =>
    intro p acc hf ha hp h
    refine v164_3 _ _ _ _ _ (condD (fun hc => by rw [B_size] at hc; omega) fun _ => ?_)
    simpa [runesF] using h
  | succ f ih =>
    intro p acc hf ha hp h
    refine v164_3 _ _ _ _ _ (condD (fun hc => ?_) fun hc => ?_)
    · rw [B_size] at hc
      have hpl : p < l.length := by omega
      have hw := runeM_width l p
      refine ASpec.call (rune_spec (by unfold big; omega) hpl _) (Les.refl _) ⟨(((runeM l p).1 : Int), ((runeM l p).2 : Int)), rfl, rfl, needJ (by omega) ?_⟩
      rw [show IntKind.wrap .i64 ((p : Int) + ((runeM l p).2 : Int)) = ((p + (runeM l p).2 : Nat) : Int) by rw [wrap64 (by omega) (by omega)]; simp]
      refine AWP.shape [1] [(0, .str (B l)), (3, .sl 1 (.map encI 0 (acc ++ [((runeM l p).1 : Int)])) (.tok 0)), (4, .int .i64 (p + (runeM l p).2 : Nat))] _ selTok ⟨rfl, Le.refl _, rfl, leAppI, rfl, Le.refl _, trivial⟩ (ih (p + (runeM l p).2) (acc ++ [((runeM l p).1 : Int)]) (by omega) (by simp; omega) (by omega) ?_)
      simp only [runesF, if_pos hpl] at h
      simpa using h
    · rw [B_size] at hc
      simp only [runesF, if_neg (show ¬ p < l.length by omega)] at h
      simpa using h

theorem runes_spec (hl : l.length ≤ 1000000) (H : List AObj) : ASpec Try.prog 164 [.str (B l)] H (fun r H' => r = .sl 1 (.map encI 0 (runesM l)) .none ∧ H' = H) := by
  have k : ASpec Try.prog 164 [.str (B l)] [] (fun r H' => r = .sl 1 (.map encI 0 (runesM l)) .none ∧ H' = []) := by
    refine ASpec.sel (s164 _ _ ?_)
    refine AWP.re (ReSt.tok (k := 3) (q' := .map encI 0 []) (sz' := 1) (s2 := [(0, .str (B l)), (3, .sl 1 (.map encI 0 []) (.tok 0)), (4, .int .i64 0)]) rfl (.inl rfl) rfl (.inr rfl) (fun d hd => ?_) rfl) ?_
    · simp only [Ab.get]
      have e : Nat.beq 3 d = false := by
        cases hx : Nat.beq 3 d with
        | false => rfl
        | true => exact absurd (Nat.eq_of_beq_eq_true hx).symm hd
      rw [e]; rfl
    · refine runes3 hl l.length 0 [] (by omega) (by simp) (by omega) ?_
      refine ⟨[], [], .sl 1 (.map encI 0 (runesM l)) .none, Sel.none, ?_, rfl, rfl⟩
      exact Le.sl (s' := Seq.ren _ (.map encI 0 (runesM l))) (by simp [Ab.Seq.toList, Seq.ren, encI, renL, AV.ren, runesM]) (.inl rfl) (.inr rfl)
  exact ASpec.pureH H k _ _ rfl rfl

/-! ### names -/

def fitF (n : Nat) : List Int → Bool
  | [] => decide (0 < n)
  | c :: r => if 3 < kindM c ∨ (n = 0 ∧ 1 < kindM c) ∨ n = 12 then false else fitF (n + 1) r

def fitM (l : List UInt8) : Bool := fitF 0 (runesM l)

theorem fit3 {Post : AV → List AObj → Prop} (hl : l.length ≤ 10 * big) : ∀ (f p n : Nat), l.length - p ≤ f → n ≤ 12 → (∀ q, Post (.bool (fitF n (runesF f l p))) [.siter (B l) q]) →
    AWP Try.prog 32 0 c154_3 [(3, .int .i64 n), (8, .ptr 0 0)] [.siter (B l) p] (q154_2 0 Post) := by
  intro f
  induction f with
  | zero =>
    intro p n hf hn h
    refine v154_3 _ _ _ _ _ (condD (fun hc => by rw [B_size] at hc; omega) fun _ => ?_)
    have := h p
    simp only [runesF, fitF] at this
    rw [show decide ((n : Int) > 0) = decide (0 < n) from decide_eq_decide.2 (by omega)]
    exact this
  | succ f ih =>
    intro p n hf hn h
    refine v154_3 _ _ _ _ _ (condD (fun hc => ?_) fun hc => ?_)
    · rw [B_size] at hc
      rw [decode_eq l p hc]
      have hw := runeM_width l p
      simp only [runesF, if_pos hc, fitF] at h
      refine ASpec.call (kind_spec _ _) (Les.refl _) ⟨_, rfl, rfl, ?_⟩
      generalize kindM ((runeM l p).1 : Nat) = k at h ⊢
      have no : (3 < k ∨ (n = 0 ∧ 1 < k) ∨ n = 12) → Post (.bool false) [.siter (B l) (p + (runeM l p).2)] := by
        intro hh
        have := h (p + (runeM l p).2)
        rw [if_pos hh] at this
        exact this
      have yes : ¬ (3 < k ∨ (n = 0 ∧ 1 < k) ∨ n = 12) → AWP Try.prog 32 0 c154_3 [(3, .int .i64 (IntKind.wrap .i64 ((n : Int) + 1))), (8, .ptr 0 0)] [.siter (B l) (p + (runeM l p).2)] (q154_2 0 Post) := by
        intro hh
        rw [show IntKind.wrap .i64 ((n : Int) + 1) = ((n + 1 : Nat) : Int) by rw [wrap64 (by omega) (by omega)]; simp]
        refine ih (p + (runeM l p).2) (n + 1) (by omega) (by omega) (fun q => ?_)
        have := h q
        rw [if_neg hh] at this
        exact this
      refine condD (fun h1 => no (.inl h1)) fun h1 => condE (fun h2 => condD (fun h3 => no (.inr (.inl ⟨by omega, h3⟩))) fun h3 => condE (fun h4 => no (.inr (.inr (by omega)))) fun h4 => yes (by omega)) fun h2 => condE (fun h4 => no (.inr (.inr (by omega)))) fun h4 => yes (by omega)
    · rw [B_size] at hc
      have := h p
      simp only [runesF, if_neg hc, fitF] at this
      rw [show decide ((n : Int) > 0) = decide (0 < n) from decide_eq_decide.2 (by omega)]
      exact this

theorem fit_spec (hl : l.length ≤ 10 * big) (H : List AObj) : ASpec Try.prog 154 [.str (B l)] H (fun r H' => r = .bool (fitM l) ∧ H' = H) := by
  have k : ASpec Try.prog 154 [.str (B l)] [] (fun r H' => r = .bool (fitM l) ∧ H' = []) := by
    refine ASpec.sel (s154 _ _ (fit3 hl l.length 0 0 (by omega) (by omega) (fun q => ⟨[], [], .bool (fitM l), Sel.none, Le.refl _, rfl, rfl⟩)))
  exact ASpec.pureH H k _ _ rfl rfl

theorem fitF_short (hl : True) : ∀ (f p n : Nat), l.length - p ≤ f → n ≤ 12 → fitF n (runesF f l p) = true → l.length - p ≤ 2 * (12 - n) := by
  intro f
  induction f with
  | zero => intro p n hf hn h; omega
  | succ f ih =>
    intro p n hf hn h
    by_cases hc : p < l.length
    · simp only [runesF, if_pos hc, fitF] at h
      split at h
      · cases h
      rename_i hh
      have hw := runeM_small (l := l) (p := p) (by omega)
      have := ih (p + (runeM l p).2) (n + 1) (by have := runeM_width l p; omega) (by omega) h
      omega
    · omega

theorem fitM_short (h : fitM l = true) : l.length ≤ 24 := by
  have := fitF_short (l := l) trivial l.length 0 0 (by omega) (by omega) h
  omega

/-- the document's: by places in a list -/
def fitD (i : Nat) : List Int → Bool
  | [] => true
  | c :: r => if kindM c = 4 ∨ (i = 0 ∧ 1 < kindM c) then false else fitD (i + 1) r

theorem fitF_fitD : ∀ (r : List Int) (i : Nat), i ≤ 12 → fitF i r = (fitD i r && decide (1 ≤ i + r.length) && decide (i + r.length ≤ 12))
  | [], i, hi => by
    simp only [fitF, fitD, List.length_nil, Nat.add_zero, Bool.true_and]
    rw [Bool.eq_iff_iff]; simp; omega
  | c :: r, i, hi => by
    have hk := kindM_range c
    simp only [fitF, fitD, List.length_cons]
    by_cases h1 : kindM c = 4 ∨ (i = 0 ∧ 1 < kindM c)
    · rw [if_pos h1, if_pos (by omega)]; rfl
    · rw [if_neg h1]
      by_cases h2 : i = 12
      · rw [if_pos (by omega)]
        rw [Bool.eq_iff_iff]; simp; omega
      · rw [if_neg (by omega), fitF_fitD r (i + 1) (by omega), show i + 1 + r.length = i + (r.length + 1) by omega]

theorem rfit5 {ls : List Int} {Post : AV → List AObj → Prop} (hl : ls.length ≤ 1000000) : ∀ (m i : Nat), m + i = ls.length → Post (.bool (fitD i (ls.drop i) && (decide (1 ≤ ls.length) && decide (ls.length ≤ 12)))) [] →
    AWP Try.prog 42 0 c39_5 [(3, .sl 1 (.map encI 0 ls) .none), (4, .int .i64 i)] [] (q39_2 0 Post) := by
  intro m
  induction m with
  | zero =>
    intro i hm h
    refine v39_5 _ _ _ _ (condD (fun hc => by omega) fun _ => ?_)
    rw [List.drop_eq_nil_of_le (by omega)] at h
    simp only [fitD, Bool.true_and] at h
    refine condD (fun h1 => ?_) fun h1 => ?_
    · rw [decide_eq_true (show 1 ≤ ls.length by omega), Bool.true_and] at h
      rw [show decide ((ls.length : Int) ≤ 12) = decide (ls.length ≤ 12) from decide_eq_decide.2 (by omega)]
      exact h
    · rw [decide_eq_false (show ¬ 1 ≤ ls.length by omega), Bool.false_and] at h
      exact h
  | succ m ih =>
    intro i hm h
    refine v39_5 _ _ _ _ (condD (fun hc => needJ ⟨by omega, by omega⟩ ?_) fun hc => by omega)
    rw [Int.toNat_natCast]
    have hg : ls.drop i = ls.getD i 0 :: ls.drop (i + 1) := by
      rw [List.drop_eq_getElem_cons (by omega)]
      simp [List.getD, List.getElem?_eq_getElem (show i < ls.length by omega)]
    rw [hg] at h
    simp only [fitD] at h
    generalize ls.getD i 0 = c at h ⊢
    have hn : ¬ (kindM c = 4 ∨ (i = 0 ∧ 1 < kindM c)) → AWP Try.prog 42 0 c39_5 [(3, .sl 1 (.map encI 0 ls) .none), (4, .int .i64 (IntKind.wrap .i64 ((i : Int) + 1)))] [] (q39_2 0 Post) := by
      intro hh
      rw [if_neg hh] at h
      rw [show IntKind.wrap .i64 ((i : Int) + 1) = ((i + 1 : Nat) : Int) by rw [wrap64 (by omega) (by omega)]; simp]
      exact ih (i + 1) (by omega) h
    have hy : (kindM c = 4 ∨ (i = 0 ∧ 1 < kindM c)) → Post (.bool false) [] := by
      intro hh
      rw [if_pos hh] at h
      simpa using h
    refine ASpec.call (rkind_spec c []) (Les.refl _) ⟨_, rfl, rfl, condE (fun h1 => hy (.inl h1)) fun h1 => condE (fun h2 => needJ ⟨by omega, by omega⟩ ?_) fun h2 => hn (by omega)⟩
    refine ASpec.call (rkind_spec c []) (Les.refl _) ⟨_, rfl, rfl, condD (fun h3 => hy (.inr ⟨by omega, h3⟩)) fun h3 => hn (by omega)⟩

theorem runesF_len : ∀ (f p : Nat), (runesF f l p).length ≤ f
  | 0, p => by simp [runesF]
  | f + 1, p => by
    simp only [runesF]
    split
    · have := runesF_len f (p + (runeM l p).2)
      simp; omega
    · simp

theorem rfit_spec (hl : l.length ≤ 10 * big) (H : List AObj) : ASpec Try.prog 39 [.str (B l)] H (fun r H' => r = .bool (fitM l) ∧ H' = H) := by
  have k : ASpec Try.prog 39 [.str (B l)] [] (fun r H' => r = .bool (fitM l) ∧ H' = []) := by
    refine s39 _ _ ?_
    rw [B_size]
    refine condD (fun h1 => ?_) fun h1 => ?_
    · have : fitM l = false := by
        cases h : fitM l with
        | false => rfl
        | true => have := fitM_short h; omega
      rw [this]; exact ⟨rfl, rfl⟩
    · have hlen := runesF_len (l := l) l.length 0
      refine ASpec.call (runes_spec (by omega) []) (Les.refl _) ⟨_, rfl, rfl, rfit5 (ls := runesM l) (by unfold runesM; omega) (runesM l).length 0 (by omega) ?_⟩
      unfold fitM
      rw [fitF_fitD _ 0 (by omega), List.drop_zero, Nat.zero_add, Bool.and_assoc]
      exact ⟨rfl, rfl⟩
  exact ASpec.pureH H k _ _ rfl rfl

end
end S
end

section
/- Which spans, needs and manifests may be: the code's walks and the document's. -/

set_option linter.unusedVariables false
set_option linter.unusedSimpArgs false
set_option maxRecDepth 100000
open Go Go.Ab Go.Proofs V S T
namespace C

/-- the answer c, whatever lies in the heap -/
abbrev PB (c : Bool) : AV → List AObj → Prop := fun r H' => ∃ l H2 r2, Sel 0 l H' H2 ∧ Le r (AV.ren (selR l H'.length) r2) ∧ (r2 = .bool c ∧ H2 = [])
theorem pb {b c : Bool} {H' : List AObj} (h : b = c) : PB c (.bool b) H' := ⟨[], [], .bool c, Sel.none, h ▸ Le.refl _, rfl, rfl⟩

theorem dropD {α : Type} (l : List α) (d : α) (i : Nat) (h : i < l.length) : l.drop i = l.getD i d :: l.drop (i + 1) := by
  rw [List.drop_eq_getElem_cons h]
  simp [List.getD, List.getElem?_eq_getElem h]

theorem memD {α : Type} (l : List α) (d : α) (i : Nat) (h : i < l.length) : l.getD i d ∈ l := by
  simp [List.getD, List.getElem?_eq_getElem h]

theorem succ64 {i : Nat} (h : i ≤ 10000000) : IntKind.wrap .i64 ((i : Int) + 1) = ((i + 1 : Nat) : Int) := by rw [wrap64 (by omega) (by omega)]; simp
theorem pred64 {i : Nat} (h : i ≤ 10000000) (h1 : 0 < i) : IntKind.wrap .i64 ((i : Int) - 1) = ((i - 1 : Nat) : Int) := by rw [wrap64 (by omega) (by omega)]; omega

abbrev lim : Nat := 1000000

/-! ### spans -/

def chkS (e : Int) : List Span → Bool
  | [] => true
  | x :: r => if x.1 ≤ e ∨ x.2 ≤ x.1 ∨ 1000000000 < x.2 then false else chkS x.2 r
def spanOk (l : List Span) : Bool := chkS (-1) l

theorem chk3 {l : List Span} {c : Bool} (hl : l.length ≤ lim) : ∀ (m i : Nat) (e : Int), m + i = l.length → chkS e (l.drop i) = c →
    AWP Try.prog 31 0 c256_3 [(3, .int .i64 e), (6, .sl 2 (.map encS (0, 0) l) .none), (7, .int .i64 l.length), (8, .int .i64 i)] [] (q256_2 0 (PB c)) := by
  intro m
  induction m with
  | zero =>
    intro i e hm h
    refine v256_3 _ _ _ _ _ _ (condD (fun hc => by omega) fun _ => pb ?_)
    rw [List.drop_eq_nil_of_le (by omega)] at h
    exact h
  | succ m ih =>
    intro i e hm h
    rw [dropD l (0, 0) i (by omega)] at h
    simp only [chkS] at h
    refine v256_3 _ _ _ _ _ _ (condD (fun hc => needJ ⟨by omega, by omega⟩ ?_) fun hc => by omega)
    rw [Int.toNat_natCast]
    generalize l.getD i (0, 0) = x at h ⊢
    refine condD (fun h1 => pb ?_) fun h1 => condD (fun h2 => pb ?_) fun h2 => condD (fun h3 => pb ?_) fun h3 => ?_
    · rw [if_pos (.inl h1)] at h; exact h
    · rw [if_pos (.inr (.inl h2))] at h; exact h
    · rw [if_pos (.inr (.inr h3))] at h; exact h
    · rw [if_neg (by omega)] at h
      rw [succ64 (by unfold lim at hl; omega)]
      exact AWP.shape [] [(3, .int .i64 x.2), (6, .sl 2 (.map encS (0, 0) l) .none), (7, .int .i64 l.length), (8, .int .i64 (i + 1 : Nat))] [] Sel.none ⟨rfl, Le.refl _, rfl, Le.refl _, rfl, Le.refl _, rfl, Le.refl _, trivial⟩ (ih (i + 1) x.2 (by omega) h)

theorem spanCheck_spec (l : List Span) (hl : l.length ≤ lim) (H : List AObj) : ASpec Try.prog 256 [.sl 2 (.map encS (0, 0) l) .none] H (fun r H' => r = .bool (spanOk l) ∧ H' = H) :=
  ASpec.pureH H (ASpec.sel (s256 _ _ (chk3 hl l.length 0 (-1) (by omega) rfl))) _ _ rfl rfl

theorem rchk2 {l : List Span} {c : Bool} (hl : l.length ≤ lim) : ∀ (m i : Nat) (e : Int), m + i = l.length → (i = 0 → e = -1) → (0 < i → e = (l.getD (i - 1) (0, 0)).2 ∧ 0 ≤ e) → chkS e (l.drop i) = c →
    AWP Try.prog 55 0 c285_2 [(0, .sl 2 (.map encS (0, 0) l) .none), (3, .int .i64 i)] [] (q285_2 0 (PB c)) := by
  intro m
  induction m with
  | zero =>
    intro i e hm _ _ h
    refine v285_2 _ _ _ _ (condD (fun hc => by omega) fun _ => pb ?_)
    rw [List.drop_eq_nil_of_le (by omega)] at h
    exact h
  | succ m ih =>
    intro i e hm h0 he h
    have hin : (0 : Int) ≤ (i : Int) ∧ (i : Int) < (l.length : Int) := ⟨by omega, by omega⟩
    rw [dropD l (0, 0) i (by omega)] at h
    simp only [chkS] at h
    have hnext : ∀ x, x = l.getD i (0, 0) → ¬ (x.1 ≤ e ∨ x.2 ≤ x.1 ∨ 1000000000 < x.2) → AWP Try.prog 55 0 c285_2 [(0, .sl 2 (.map encS (0, 0) l) .none), (3, .int .i64 (IntKind.wrap .i64 ((i : Int) + 1)))] [] (q285_2 0 (PB c)) := by
      intro x hx hn
      rw [← hx, if_neg hn] at h
      rw [succ64 (by unfold lim at hl; omega)]
      have hge : -1 ≤ e := by
        rcases Nat.eq_zero_or_pos i with z | z
        · have := h0 z; omega
        · have := he z; omega
      exact ih (i + 1) x.2 (by omega) (fun hh => by omega) (fun _ => ⟨by rw [hx]; rfl, by omega⟩) h
    have hbad : ∀ x, x = l.getD i (0, 0) → (x.1 ≤ e ∨ x.2 ≤ x.1 ∨ 1000000000 < x.2) → PB c (.bool false) [] := by
      intro x hx hh
      rw [← hx, if_pos hh] at h
      exact pb h
    refine v285_2 _ _ _ _ (condD (fun hc => needJ hin ?_) fun hc => by omega)
    rw [Int.toNat_natCast]
    generalize hx : l.getD i (0, 0) = x at h ⊢
    refine condD (fun h1 => hbad x hx.symm (.inl ?_)) fun h1 => needJ hin (condD (fun h2 => hbad x hx.symm (.inr (.inr h2))) fun h2 => needJ hin (needJ hin (condD (fun h3 => hbad x hx.symm (.inr (.inl h3))) fun h3 => condD (fun h4 => needJ hin (needJ ?_ (condD (fun h5 => hbad x hx.symm (.inl ?_)) fun h5 => hnext x hx.symm ?_))) fun h4 => hnext x hx.symm ?_)))
    · rcases Nat.eq_zero_or_pos i with z | z
      · have := h0 z; omega
      · have := he z; omega
    · rw [pred64 (by unfold lim at hl; omega) (by omega)]; omega
    · rw [pred64 (by unfold lim at hl; omega) (by omega), Int.toNat_natCast] at h5
      have := he (by omega); omega
    · rw [pred64 (by unfold lim at hl; omega) (by omega), Int.toNat_natCast] at h5
      have := he (by omega); omega
    · have := h0 (by omega); omega

theorem rspanCheck_spec (l : List Span) (hl : l.length ≤ lim) (H : List AObj) : ASpec Try.prog 285 [.sl 2 (.map encS (0, 0) l) .none] H (fun r H' => r = .bool (spanOk l) ∧ H' = H) :=
  ASpec.pureH H (ASpec.sel (s285 _ _ (rchk2 hl l.length 0 (-1) (by omega) (fun _ => rfl) (fun h => by omega) rfl))) _ _ rfl rfl

/-! ### needs -/

def leB (a b : List UInt8) : Bool := Op.bytesLess a b || a == b

/-! ### manifests -/

theorem verFit_spec (x : Int) (H : List AObj) : ASpec Try.prog 231 [.int .i64 x] H (fun r H' => r = .bool (decide (0 ≤ x ∧ x < 1000000000)) ∧ H' = H) := by
  have k : ASpec Try.prog 231 [.int .i64 x] [] (fun r H' => r = .bool (decide (0 ≤ x ∧ x < 1000000000)) ∧ H' = []) := by
    refine s231 _ _ (condD (fun h => ⟨?_, rfl⟩) fun h => ⟨?_, rfl⟩)
    · congr 1; exact decide_eq_decide.2 (by omega)
    · rw [decide_eq_false (by omega)]
  exact ASpec.pureH H k _ _ rfl rfl

/-! ### are they large? -/

end C
end

section
/- Sets of places as spans: plain laws. -/

set_option linter.unusedVariables false
set_option linter.unusedSimpArgs false
open Go Go.Ab Go.Proofs V S T C
namespace Sp

def inS (s : Span) (p : Int) : Bool := decide (s.1 ≤ p ∧ p < s.2)
def hasS (l : List Span) (p : Int) : Bool := l.any (fun s => inS s p)

theorem hasS_nil (p : Int) : hasS [] p = false := rfl
theorem hasS_cons (x : Span) (l : List Span) (p : Int) : hasS (x :: l) p = (inS x p || hasS l p) := rfl
theorem hasS_append (a b : List Span) (p : Int) : hasS (a ++ b) p = (hasS a p || hasS b p) := by simp [hasS]
theorem inS_iff {s : Span} {p : Int} : inS s p = true ↔ s.1 ≤ p ∧ p < s.2 := by simp [inS]
theorem inS_false {s : Span} {p : Int} : inS s p = false ↔ ¬ (s.1 ≤ p ∧ p < s.2) := by simp [inS]

theorem chkS_cons {e : Int} {x : Span} {r : List Span} (h : chkS e (x :: r) = true) : e < x.1 ∧ x.1 < x.2 ∧ x.2 ≤ 1000000000 ∧ chkS x.2 r = true := by
  simp only [chkS] at h
  split at h
  · cases h
  · exact ⟨by omega, by omega, by omega, h⟩
theorem chkS_mk {e : Int} {x : Span} {r : List Span} (h1 : e < x.1) (h2 : x.1 < x.2) (h3 : x.2 ≤ 1000000000) (h4 : chkS x.2 r = true) : chkS e (x :: r) = true := by
  simp only [chkS]
  rw [if_neg (by omega)]; exact h4
theorem chkS_low : ∀ {e : Int} {l : List Span} {p : Int}, chkS e l = true → p ≤ e → hasS l p = false
  | _, [], _, _, _ => rfl
  | e, x :: r, p, h, hp => by
    obtain ⟨h1, h2, h3, h4⟩ := chkS_cons h
    rw [hasS_cons, chkS_low h4 (by omega), inS_false.2 (by omega)]; rfl
theorem chkS_top : ∀ {e : Int} {l : List Span} {p : Int}, chkS e l = true → 1000000000 ≤ p → hasS l p = false
  | _, [], _, _, _ => rfl
  | e, x :: r, p, h, hp => by
    obtain ⟨h1, h2, h3, h4⟩ := chkS_cons h
    rw [hasS_cons, chkS_top h4 hp, inS_false.2 (by omega)]; rfl
/-- sets that have the same places are one -/
theorem ext : ∀ {a b : List Span} {e e' : Int}, chkS e a = true → chkS e' b = true → (∀ p, hasS a p = hasS b p) → a = b
  | [], [], _, _, _, _, _ => rfl
  | [], y :: t, _, _, _, hb, h => by
    obtain ⟨h1, h2, h3, h4⟩ := chkS_cons hb
    have := h y.1
    rw [hasS_cons, inS_iff.2 (by omega)] at this
    cases this
  | x :: r, [], _, _, ha, _, h => by
    obtain ⟨h1, h2, h3, h4⟩ := chkS_cons ha
    have := h x.1
    rw [hasS_cons, inS_iff.2 (by omega)] at this
    cases this
  | x :: r, y :: t, e, e', ha, hb, h => by
    obtain ⟨a1, a2, a3, a4⟩ := chkS_cons ha
    obtain ⟨b1, b2, b3, b4⟩ := chkS_cons hb
    have key : ∀ p, p ≤ x.2 → p ≤ y.2 → inS x p = inS y p := by
      intro p h1 h2
      have := h p
      rw [hasS_cons, hasS_cons, chkS_low a4 h1, chkS_low b4 h2, Bool.or_false, Bool.or_false] at this
      exact this
    have f1 : x.1 = y.1 := by
      by_cases h1 : x.1 < y.1
      · have := key x.1 (by omega) (by omega)
        rw [inS_iff.2 (by omega), eq_comm, inS_iff] at this; omega
      · by_cases h2 : y.1 < x.1
        · have := key y.1 (by omega) (by omega)
          rw [eq_comm, inS_iff.2 (by omega), eq_comm, inS_iff] at this; omega
        · omega
    have f2 : x.2 = y.2 := by
      by_cases h1 : x.2 < y.2
      · have := key x.2 (by omega) (by omega)
        rw [eq_comm, inS_iff.2 (by omega), eq_comm, inS_iff] at this; omega
      · by_cases h2 : y.2 < x.2
        · have := key y.2 (by omega) (by omega)
          rw [inS_iff.2 (by omega), eq_comm, inS_iff] at this; omega
        · omega
    have hxy : x = y := Prod.ext f1 f2
    subst hxy
    rw [ext a4 b4 (fun p => ?_)]
    by_cases hp : p ≤ x.2
    · rw [chkS_low a4 hp, chkS_low b4 hp]
    · have := h p
      rw [hasS_cons, hasS_cons, inS_false.2 (by omega), Bool.false_or, Bool.false_or] at this
      exact this

/-! ### one more span behind -/

/-- the last span's end; 'e' of none -/
def lastS (e : Int) : List Span → Int
  | [] => e
  | x :: r => lastS x.2 r
theorem lastS_append (e : Int) (x : Span) : ∀ (l : List Span) (e : Int), lastS e (l ++ [x]) = x.2
  | [], e => rfl
  | y :: r, e => lastS_append e x r y.2
theorem chkS_append : ∀ {l : List Span} {e : Int} {x : Span}, chkS e l = true → lastS e l < x.1 → x.1 < x.2 → x.2 ≤ 1000000000 → chkS e (l ++ [x]) = true
  | [], e, x, _, h1, h2, h3 => chkS_mk h1 h2 h3 rfl
  | y :: r, e, x, h, h1, h2, h3 => by
    obtain ⟨a1, a2, a3, a4⟩ := chkS_cons h
    exact chkS_mk a1 a2 a3 (chkS_append a4 h1 h2 h3)
theorem chkS_front : ∀ {l : List Span} {e : Int} {x : Span}, chkS e (l ++ [x]) = true → chkS e l = true ∧ lastS e l < x.1 ∧ x.1 < x.2 ∧ x.2 ≤ 1000000000
  | [], e, x, h => by
    obtain ⟨a1, a2, a3, a4⟩ := chkS_cons h
    exact ⟨rfl, a1, a2, a3⟩
  | y :: r, e, x, h => by
    obtain ⟨a1, a2, a3, a4⟩ := chkS_cons h
    obtain ⟨b1, b2, b3, b4⟩ := chkS_front a4
    exact ⟨chkS_mk a1 a2 a3 b1, b2, b3, b4⟩

/-- what add does -/
def addS (l : List Span) (s : Span) : List Span :=
  if 0 < l.length ∧ s.1 ≤ (l.getD (l.length - 1) (0, 0)).2 then l.take (l.length - 1) ++ [((l.getD (l.length - 1) (0, 0)).1, max (l.getD (l.length - 1) (0, 0)).2 s.2)] else l ++ [s]

theorem split_last (l : List Span) (h : 0 < l.length) : l = l.take (l.length - 1) ++ [l.getD (l.length - 1) (0, 0)] := by
  have h1 := List.take_append_drop (l.length - 1) l
  rw [dropD l (0, 0) (l.length - 1) (by omega), List.drop_eq_nil_of_le (by omega)] at h1
  exact h1.symm

/-- a set that ends no later than a place, and one more span from there on -/
theorem addS_ok {l : List Span} {at_ to : Int} (h : chkS (-1) l = true) (he : lastS (-1) l ≤ at_) (h0 : 0 ≤ at_) (h1 : at_ < to) (h2 : to ≤ 1000000000) :
    chkS (-1) (addS l (at_, to)) = true ∧ lastS (-1) (addS l (at_, to)) = to ∧ ∀ p, hasS (addS l (at_, to)) p = (hasS l p || inS (at_, to) p) := by
  unfold addS
  split
  · rename_i hc
    have hl := split_last l hc.1
    generalize l.take (l.length - 1) = r at hl ⊢
    generalize l.getD (l.length - 1) (0, 0) = x at hl hc ⊢
    subst hl
    rw [lastS_append (-1)] at he
    obtain ⟨a1, a2, a3, a4⟩ := chkS_front h
    have hx : max x.2 to = to := by omega
    have hxa : x.2 = at_ := by have := hc.2; simp only at this; omega
    simp only [hx]
    refine ⟨chkS_append a1 a2 (by simp only; omega) h2, lastS_append (-1) _ _ _, fun p => ?_⟩
    rw [hasS_append, hasS_append, hasS_cons, hasS_cons, hasS_nil, Bool.or_false, Bool.or_false, Bool.or_assoc]
    congr 1
    rw [Bool.eq_iff_iff, Bool.or_eq_true, inS_iff, inS_iff, inS_iff]
    simp only; omega
  · rename_i hc
    refine ⟨chkS_append h ?_ h1 h2, lastS_append (-1) _ _ _, fun p => ?_⟩
    · cases hz : l with
      | nil => simp only [lastS]; omega
      | cons y t =>
        have hpos : 0 < l.length := by rw [hz]; simp
        have hl := split_last l hpos
        have : lastS (-1) l = (l.getD (l.length - 1) (0, 0)).2 := by
          conv => lhs; rw [hl]
          exact lastS_append (-1) _ _ _
        rw [← hz, this]
        simp only [hpos, true_and, Int.not_le] at hc
        exact hc
    · rw [hasS_append, hasS_cons, hasS_nil, Bool.or_false]

/-! ### where a set changes -/

/-- how many spans end at a place, or ahead of it -/
def aftS (p : Int) : List Span → Nat
  | [] => 0
  | x :: r => if x.2 ≤ p then aftS p r + 1 else 0
theorem aftS_le (p : Int) : ∀ l : List Span, aftS p l ≤ l.length
  | [] => Nat.le_refl _
  | x :: r => by
    simp only [aftS]
    split
    · have := aftS_le p r; simp; omega
    · simp
theorem aftS_lt (p : Int) : ∀ (l : List Span) (i : Nat), i < aftS p l → (l.getD i (0, 0)).2 ≤ p
  | [], i, h => by simp [aftS] at h
  | x :: r, i, h => by
    simp only [aftS] at h
    split at h
    · rename_i hx
      match i, h with
      | 0, _ => exact hx
      | i + 1, h => exact aftS_lt p r i (by omega)
    · omega
theorem chkS_rise : ∀ {l : List Span} {e : Int}, chkS e l = true → ∀ i, i < l.length → e < (l.getD i (0, 0)).1 ∧ (l.getD i (0, 0)).1 < (l.getD i (0, 0)).2 ∧ (l.getD i (0, 0)).2 ≤ 1000000000 ∧ ∀ j, j < i → (l.getD j (0, 0)).2 < (l.getD i (0, 0)).1
  | [], e, _, i, hi => by simp at hi
  | x :: r, e, h, i, hi => by
    obtain ⟨a1, a2, a3, a4⟩ := chkS_cons h
    match i, hi with
    | 0, _ => exact ⟨a1, a2, a3, fun j hj => by omega⟩
    | i + 1, hi =>
      obtain ⟨b1, b2, b3, b4⟩ := chkS_rise a4 i (by simpa using hi)
      simp only [List.getD_cons_succ]
      refine ⟨by omega, b2, b3, fun j hj => ?_⟩
      match j, hj with
      | 0, _ => exact b1
      | j + 1, hj => exact b4 j (by omega)
theorem aftS_at (p : Int) : ∀ (l : List Span), aftS p l < l.length → p < (l.getD (aftS p l) (0, 0)).2
  | [], h => by simp at h
  | x :: r, h => by
    simp only [aftS] at h ⊢
    split
    · rename_i hx
      rw [if_pos hx] at h
      exact aftS_at p r (by simpa using h)
    · rename_i hx
      simp only [List.getD_cons_zero]; omega
theorem aftS_ge {l : List Span} {e p : Int} (hs : chkS e l = true) {i : Nat} (h : aftS p l ≤ i) (hi : i < l.length) : p < (l.getD i (0, 0)).2 := by
  have h0 := aftS_at p l (by omega)
  rcases Nat.eq_or_lt_of_le h with e1 | e1
  · rw [← e1]; exact h0
  · obtain ⟨_, h2, _, h4⟩ := chkS_rise hs i hi
    have := h4 _ e1
    omega

theorem hasS_aft : ∀ {l : List Span} {e : Int} {p : Int}, chkS e l = true → (hasS l p = true ↔ aftS p l < l.length ∧ (l.getD (aftS p l) (0, 0)).1 ≤ p)
  | [], e, p, _ => by simp [hasS]
  | x :: r, e, p, h => by
    obtain ⟨a1, a2, a3, a4⟩ := chkS_cons h
    rw [hasS_cons, Bool.or_eq_true]
    by_cases hx : x.2 ≤ p
    · have e1 : aftS p (x :: r) = aftS p r + 1 := by simp only [aftS, if_pos hx]
      rw [e1, hasS_aft a4, inS_iff]
      simp only [List.length_cons, List.getD_cons_succ, Nat.add_lt_add_iff_right]
      constructor
      · rintro (h | h)
        · omega
        · exact h
      · exact .inr
    · have e1 : aftS p (x :: r) = 0 := by simp only [aftS, if_neg hx]
      rw [e1, inS_iff]
      simp only [List.length_cons, List.getD_cons_zero]
      constructor
      · rintro (h | h)
        · exact ⟨by omega, h.1⟩
        · by_cases h1 : x.1 ≤ p
          · exact ⟨by omega, h1⟩
          · rw [chkS_low a4 (by omega)] at h; cases h
      · rintro ⟨_, h1⟩; exact .inl ⟨h1, by omega⟩

/-- where the set changes next -/
def nextS (l : List Span) (p : Int) : Int :=
  if aftS p l = l.length then 1000000000 else if p < (l.getD (aftS p l) (0, 0)).1 then (l.getD (aftS p l) (0, 0)).1 else (l.getD (aftS p l) (0, 0)).2

theorem nextS_gt {l : List Span} {e p : Int} (hs : chkS e l = true) (hp : p < 1000000000) : p < nextS l p ∧ nextS l p ≤ 1000000000 := by
  unfold nextS
  split
  · exact ⟨hp, Int.le_refl _⟩
  · rename_i h
    have := aftS_le p l
    obtain ⟨h1, h2, h3, _⟩ := chkS_rise hs (aftS p l) (by omega)
    have h0 := aftS_at p l (by omega)
    split
    · omega
    · omega

theorem nextS_same : ∀ {l : List Span} {e p q : Int}, chkS e l = true → p ≤ q → q < nextS l p → hasS l q = hasS l p
  | [], e, p, q, _, _, _ => rfl
  | x :: r, e, p, q, h, h1, h2 => by
    obtain ⟨a1, a2, a3, a4⟩ := chkS_cons h
    rw [hasS_cons, hasS_cons]
    by_cases hx : x.2 ≤ p
    · have e2 : nextS (x :: r) p = nextS r p := by
        simp only [nextS, aftS, if_pos hx, List.length_cons, List.getD_cons_succ, Nat.add_right_cancel_iff]
      rw [e2] at h2
      rw [nextS_same a4 h1 h2, inS_false.2 (by omega), inS_false.2 (by omega)]
    · have e2 : nextS (x :: r) p = if p < x.1 then x.1 else x.2 := by
        simp only [nextS, aftS, if_neg hx, List.length_cons, List.getD_cons_zero]
        rw [if_neg (by omega)]
      rw [e2] at h2
      rw [chkS_low a4 (show p ≤ x.2 by omega)]
      split at h2
      · rw [chkS_low a4 (show q ≤ x.2 by omega), inS_false.2 (by omega), inS_false.2 (by omega)]
      · rw [chkS_low a4 (show q ≤ x.2 by omega), inS_iff.2 (by omega), inS_iff.2 (by omega)]

/-! ### the set of what a function keeps -/

/-- l has just what f keeps, below a place -/
def Kept (f : Int → Bool) (at_ : Int) (l : List Span) : Prop := chkS (-1) l = true ∧ lastS (-1) l ≤ at_ ∧ ∀ p, hasS l p = (decide (0 ≤ p ∧ p < at_) && f p)

theorem kept_nil (f : Int → Bool) : Kept f 0 [] := ⟨rfl, by simp [lastS], fun p => by
  rw [hasS_nil, decide_eq_false (by omega)]; rfl⟩

theorem kept_put {f : Int → Bool} {at_ to : Int} {l : List Span} (h : Kept f at_ l) (h0 : 0 ≤ at_) (h1 : at_ < to) (h2 : to ≤ 1000000000) (hf : ∀ q, at_ ≤ q → q < to → f q = true) : Kept f to (addS l (at_, to)) := by
  obtain ⟨a, b, c⟩ := h
  obtain ⟨x, y, z⟩ := addS_ok a b h0 h1 h2
  refine ⟨x, by omega, fun p => ?_⟩
  rw [z, c]
  by_cases hp : at_ ≤ p ∧ p < to
  · rw [inS_iff.2 hp, Bool.or_true, hf p hp.1 hp.2, decide_eq_true (by omega)]; rfl
  · rw [inS_false.2 hp, Bool.or_false]
    congr 1
    rw [Bool.eq_iff_iff, decide_eq_true_iff, decide_eq_true_iff]; omega
theorem kept_skip {f : Int → Bool} {at_ to : Int} {l : List Span} (h : Kept f at_ l) (h1 : at_ ≤ to) (hf : ∀ q, at_ ≤ q → q < to → f q = false) : Kept f to l := by
  obtain ⟨a, b, c⟩ := h
  refine ⟨a, by omega, fun p => ?_⟩
  rw [c]
  by_cases hp : at_ ≤ p ∧ p < to
  · rw [hf p hp.1 hp.2]; simp
  · congr 1
    rw [Bool.eq_iff_iff, decide_eq_true_iff, decide_eq_true_iff]; omega
theorem kept_one {f : Int → Bool} {l l' : List Span} (h : Kept f 1000000000 l) (h' : Kept f 1000000000 l') : l = l' := ext h.1 h'.1 (fun p => by rw [h.2.2, h'.2.2])
end Sp
end

section
/- Printed: what the code of functions 184, 264, 172, 270, 271, 273, 272, 276, 275, 274, 181, 326, 277 asks for, by the framework's own reading of it; each line is checked against the code. -/

set_option linter.unusedVariables false
set_option maxRecDepth 100000
set_option maxHeartbeats 4000000
open Go Go.Ab Go.Proofs
namespace W
noncomputable section

end
end W
end

section
/- Manifests as bytes: what the code puts, and the document. -/

set_option linter.unusedVariables false
set_option linter.unusedSimpArgs false
set_option maxRecDepth 100000
open Go Go.Ab Go.Proofs V S T C
namespace W

section
variable {Post : AV → List AObj → Prop}

noncomputable abbrev slS (l : List Span) : AV := .sl 2 (.map encS (0, 0) l) .none

/-! ### the document's -/

end
end W
end

section
/- Manifests out of bytes: what the code reads. -/

set_option linter.unusedVariables false
set_option linter.unusedSimpArgs false
set_option maxRecDepth 100000
open Go Go.Ab Go.Proofs V S T C
namespace W

/-! ### the model -/

/-! ### the walk -/

section
variable {bs : List UInt8} {p : Nat} {e : Int}

theorem leAppT {α : Type} {en : α → List AV} {d : α} (hr : ∀ ρ x, renL ρ (en x) = en x) {acc : List α} {x : α} {sz k j : Nat} {ρ : Nat → Nat} {ex : List AV} (hx : ex = en x) (hk : ρ j = k) :
    Le (.sl sz (.app (.map en d acc) (.raw [ex])) (.tok k)) (AV.ren ρ (.sl sz (.map en d (acc ++ [x])) (.tok j))) := by
  subst hk; subst hx
  refine Le.sl (s' := Seq.ren ρ (.map en d (acc ++ [x]))) ?_ (.inl rfl) (.inl rfl)
  simp [Ab.Seq.toList, Seq.ren, hr]

theorem leNone {α : Type} {en : α → List AV} {d : α} (hr : ∀ ρ x, renL ρ (en x) = en x) {acc : List α} {sz : Nat} {tip : Tip} {ρ : Nat → Nat} :
    Le (.sl sz (.map en d acc) tip) (AV.ren ρ (.sl sz (.map en d acc) .none)) :=
  Le.sl (s' := Seq.ren ρ (.map en d acc)) (by simp [Ab.Seq.toList, Seq.ren, hr]) (.inl rfl) (.inr rfl)

theorem renS (ρ : Nat → Nat) (x : Span) : renL ρ (encS x) = encS x := rfl
end

end W
end

section
/- WirePuts: the bytes of any manifest, and the manifest of any bytes, or what is wrong first, are the document's: the law's function returns true. -/

set_option linter.unusedVariables false
set_option linter.unusedSimpArgs false
set_option maxRecDepth 100000
open Go Go.Ab Go.Proofs V S T C
namespace W

/-! ### the document's model -/

/-! ### it is the code's -/

/-! ### the document's walk -/

section
variable {Post : AV → List AObj → Prop}

/-! ### are they alike? -/

theorem cons_dec {α : Type} [DecidableEq α] (x y : α) (a b : List α) : decide (x :: a = y :: b) = (decide (x = y) && decide (a = b)) := by
  rw [Bool.eq_iff_iff]; simp

/-! ### the law -/

end
end W
end

section
/- Sets of places: what the code and the document's code compute. -/

set_option linter.unusedVariables false
set_option linter.unusedSimpArgs false
set_option maxRecDepth 100000
open Go Go.Ab Go.Proofs V S T C
open W (slS leNone cons_dec renS)
open Sp
namespace Sg

abbrev PA (r0 : AV) : AV → List AObj → Prop := fun r H' => ∃ l H2 r2, Sel 0 l H' H2 ∧ Le r (AV.ren (selR l H'.length) r2) ∧ (r2 = r0 ∧ H2 = [])
theorem pa {r r0 : AV} {H' : List AObj} (h : Le r (AV.ren (selR [] H'.length) r0)) : PA r0 r H' := ⟨[], [], r0, Sel.none, h, rfl, rfl⟩
theorem condQ {a b : Bool} {A B : Prop} (h1 : a = b → A) (h2 : a ≠ b → B) : condP (a == b) A B := by
  by_cases h : a = b
  · rw [beq_iff_eq.2 h]; exact h1 h
  · rw [beq_eq_false_iff_ne.2 h]; exact h2 h

abbrev ok (l : List Span) : Prop := chkS (-1) l = true

theorem chkS_len : ∀ {l : List Span} {e : Int}, chkS e l = true → (l.length : Int) ≤ lastS e l - e
  | [], e, _ => by simp [lastS]
  | x :: r, e, h => by
    obtain ⟨h1, h2, h3, h4⟩ := chkS_cons h
    have := chkS_len h4
    simp only [lastS, List.length_cons]; omega
theorem lastS_top : ∀ {l : List Span} {e : Int}, chkS e l = true → e ≤ 1000000000 → lastS e l ≤ 1000000000
  | [], e, _, h => h
  | x :: r, e, h, _ => by
    obtain ⟨h1, h2, h3, h4⟩ := chkS_cons h
    simp only [lastS]
    exact lastS_top h4 h3
theorem ok_len {l : List Span} (h : ok l) : l.length ≤ 1000000001 := by
  have h1 := chkS_len h
  have h2 := lastS_top h (by omega)
  omega

theorem suc64 {i : Nat} (h : i ≤ 100000000000) : IntKind.wrap .i64 ((i : Int) + 1) = ((i + 1 : Nat) : Int) := by rw [wrap64 (by omega) (by omega)]; simp
theorem pre64 {i : Nat} (h : i ≤ 100000000000) (h1 : 0 < i) : IntKind.wrap .i64 ((i : Int) - 1) = ((i - 1 : Nat) : Int) := by rw [wrap64 (by omega) (by omega)]; omega
theorem mid64 {i j : Nat} (h : i + j ≤ 100000000000) : IntKind.wrap .i64 (Int.fdiv (IntKind.wrap .u64 (IntKind.wrap .i64 ((i : Int) + j))) 2) = (((i + j) / 2 : Nat) : Int) := by
  rw [wrap64 (x := (i : Int) + j) (by omega) (by omega)]
  have e : IntKind.wrap .u64 ((i : Int) + j) = ((i + j : Nat) : Int) := by
    simp only [IntKind.wrap, IntKind.bits, IntKind.signed]
    have e : (2 : Int) ^ 64 = 18446744073709551616 := by decide
    simp only [e, Bool.false_and]
    rw [if_neg (by simp)]
    omega
  rw [e, show Int.fdiv ((i + j : Nat) : Int) 2 = (((i + j) / 2 : Nat) : Int) by rw [Int.fdiv_eq_ediv_of_nonneg _ (by omega)]; omega]
  rw [wrap64 (by omega) (by omega)]

/-! ### where a place stands -/

theorem aftf_spec (x : Span) (p : Int) (H : List AObj) : ASpec Try.prog 367 [.agg (encS x), .int .i64 p] H (fun r H' => r = .int .i64 (if x.2 ≤ p then -1 else 1) ∧ H' = H) := by
  have k : ASpec Try.prog 367 [.agg (encS x), .int .i64 p] [] (fun r H' => r = .int .i64 (if x.2 ≤ p then -1 else 1) ∧ H' = []) :=
    ASpec.sel (s367 _ _ _ (condD (fun h => pa (by rw [if_pos h]; exact Le.refl _)) fun h => pa (by rw [if_neg h]; exact Le.refl _)))
  exact ASpec.pureH H k _ _ rfl rfl

theorem bsf3 {l : List Span} {p : Int} (hs : ok l) : ∀ (m i j : Nat), j - i ≤ m → i ≤ aftS p l → aftS p l ≤ j → j ≤ l.length →
    AWP Try.prog 49 0 c366_3 [(0, slS l), (1, .int .i64 p), (2, .fn 367 []), (8, .int .i64 l.length), (9, .int .i64 i), (10, .int .i64 j)] []
      (q366_2 0 (PA (.tup [.int .i64 (aftS p l : Nat), .bool false]))) := by
  have hl := ok_len hs
  have done : ∀ i : Nat, i = aftS p l → condP (decide ((i : Int) < (l.length : Int))) (needP (0 ≤ (i : Int) ∧ (i : Int) < (l.length : Int)) (ASpec Try.prog 367 [.agg (encS (l.getD (i : Int).toNat (0, 0))), .int .i64 p] []
      (fun r H' => ∃ x : Int, r = .int .i64 x ∧ H' = [] ∧ PA (.tup [.int .i64 (aftS p l : Nat), .bool false]) (.tup [.int .i64 i, .bool (x == 0)]) [])))
      (PA (.tup [.int .i64 (aftS p l : Nat), .bool false]) (.tup [.int .i64 i, .bool false]) []) := by
    rintro i rfl
    refine condD (fun h => needJ ⟨by omega, h⟩ ?_) fun h => pa (Le.refl _)
    refine ASpec.call (aftf_spec _ p _) (Les.refl _) ⟨_, rfl, rfl, pa ?_⟩
    have e : ((if (l.getD ((aftS p l : Nat) : Int).toNat (0, 0)).2 ≤ p then (-1 : Int) else 1) == 0) = false := by split <;> rfl
    rw [e]; exact Le.refl _
  intro m
  induction m with
  | zero =>
    intro i j h1 h2 h3 h4
    exact v366_3 _ _ _ _ _ _ _ (condD (fun hc => by omega) fun _ => done i (by omega))
  | succ m ih =>
    intro i j h1 h2 h3 h4
    refine v366_3 _ _ _ _ _ _ _ (condD (fun hc => needJ (by omega) ?_) fun _ => done i (by omega))
    rw [mid64 (by omega)]
    have hm1 : i ≤ (i + j) / 2 := by omega
    have hm2 : (i + j) / 2 < j := by omega
    refine needJ ⟨by omega, by omega⟩ ?_
    generalize (i + j) / 2 = h at hm1 hm2 ⊢
    rw [Int.toNat_natCast]
    refine ASpec.call (aftf_spec _ p _) (Les.refl _) ⟨_, rfl, rfl, ?_⟩
    by_cases hc : (l.getD h (0, 0)).2 ≤ p
    · rw [if_pos hc]
      refine condD (fun _ => ?_) fun hc => by omega
      rw [suc64 (by omega)]
      refine ih (h + 1) j (by omega) ?_ h3 h4
      rcases Nat.lt_or_ge h (aftS p l) with hk | hk
      · omega
      · have := aftS_ge hs hk (by omega); omega
    · rw [if_neg hc]
      refine condD (fun hc => by omega) fun _ => ?_
      refine ih i h (by omega) h2 ?_ (by omega)
      rcases Nat.lt_or_ge h (aftS p l) with hk | hk
      · exact (hc (aftS_lt p l h hk)).elim
      · exact hk

theorem after_spec (l : List Span) (p : Int) (hs : ok l) (H : List AObj) : ASpec Try.prog 318 [slS l, .int .i64 p] H (fun r H' => r = .int .i64 (aftS p l : Nat) ∧ H' = H) := by
  have k : ASpec Try.prog 318 [slS l, .int .i64 p] [] (fun r H' => r = .int .i64 (aftS p l : Nat) ∧ H' = []) := by
    have k2 : ASpec Try.prog 366 [slS l, .int .i64 p, .fn 367 []] [] (fun r H' => r = .tup [.int .i64 (aftS p l : Nat), .bool false] ∧ H' = []) :=
      ASpec.sel (s366 _ _ _ (bsf3 hs l.length 0 l.length (by omega) (by omega) (aftS_le p l) (by omega)))
    exact s318 _ _ _ (ASpec.call k2 (Les.refl _) ⟨(((aftS p l : Nat) : Int), false), rfl, rfl, rfl, rfl⟩)
  exact ASpec.pureH H k _ _ rfl rfl

theorem has_spec (l : List Span) (p : Int) (hs : ok l) (H : List AObj) : ASpec Try.prog 254 [slS l, .int .i64 p] H (fun r H' => r = .bool (hasS l p) ∧ H' = H) := by
  have k : ASpec Try.prog 254 [slS l, .int .i64 p] [] (fun r H' => r = .bool (hasS l p) ∧ H' = []) := by
    have e := hasS_aft (p := p) hs
    refine s254 _ _ _ (ASpec.call (after_spec l p hs _) (Les.refl _) ⟨_, rfl, rfl, condD (fun h => needJ ⟨by omega, h⟩ ⟨?_, rfl⟩) fun h => ⟨?_, rfl⟩⟩)
    · rw [Int.toNat_natCast]
      congr 1
      rw [Bool.eq_iff_iff, e, decide_eq_true_iff]
      exact ⟨fun h2 => ⟨by omega, h2⟩, fun h2 => h2.2⟩
    · congr 1
      symm
      cases hx : hasS l p with
      | false => rfl
      | true => have := (e.1 hx).1; omega
  exact ASpec.pureH H k _ _ rfl rfl

theorem next_spec (l : List Span) (p : Int) (hs : ok l) (H : List AObj) : ASpec Try.prog 368 [slS l, .int .i64 p] H (fun r H' => r = .int .i64 (nextS l p) ∧ H' = H) := by
  have k : ASpec Try.prog 368 [slS l, .int .i64 p] [] (fun r H' => r = .int .i64 (nextS l p) ∧ H' = []) := by
    have hle := aftS_le p l
    refine s368 _ _ _ (ASpec.call (after_spec l p hs _) (Les.refl _) ⟨_, rfl, rfl, condE (fun h => ⟨?_, rfl⟩) fun h => needJ ⟨by omega, by omega⟩ ?_⟩)
    · rw [nextS, if_pos (by omega)]
    · rw [Int.toNat_natCast]
      refine condD (fun h2 => needJ ⟨by omega, by omega⟩ ⟨?_, rfl⟩) fun h2 => needJ ⟨by omega, by omega⟩ ⟨?_, rfl⟩
      · rw [nextS, if_neg (by omega), if_pos (by omega)]
      · rw [nextS, if_neg (by omega), if_neg (by omega)]
  exact ASpec.pureH H k _ _ rfl rfl

/-! ### one more span -/

noncomputable abbrev arS (o : List Span) : AObj := .arr 2 (.map encS (0, 0) o)

theorem add_nil (s : Span) (H : List AObj) : ASpec Try.prog 369 [.sl 0 (.raw []) .nil, .agg (encS s)] H (fun r H' => r = .msl 2 H.length 0 1 ∧ H' = H ++ [arS [s]]) := by
  have k : ASpec Try.prog 369 [.sl 0 (.raw []) .nil, .agg (encS s)] [] (fun r H' => r = .msl 2 0 0 1 ∧ H' = [arS [s]]) := by
    refine ASpec.arrEnd (ASpec.sel (s369n _ _ (needJ (by omega) (needJ (by omega) ?_))))
    refine ⟨[1], [.arr 2 (.raw [encS s])], .msl 2 0 0 1, Sel.one 1 rfl rfl, Le.refl _, 0, 2, .raw [encS s], .map encS (0, 0) [s], rfl, rfl, rfl, rfl⟩
  exact ASpec.anyH H k _ _ _ rfl rfl rfl

theorem sel01 {a b : AObj} (h : AObj.ren (selR [0] 2) a = a := by rfl) : Sel 1 [0] [a, b] [a] := by
  refine ⟨by decide, rfl, Nat.le_refl _, fun i hi => ?_, fun i hi => .inl ?_⟩
  · match i, hi with
    | 0, _ => rfl
  · match i, hi with
    | 0, _ => simp [h]

theorem add_mem (o : List Span) (s : Span) (ho : o.length ≤ 2000000000) :
    ASpec Try.prog 369 [.msl 2 0 0 o.length, .agg (encS s)] [arS o] (fun r H' => (r = .msl 2 0 0 (addS o s).length ∧ H' = [arS (addS o s)] ∧ (addS o s).length = o.length) ∨ (r = .msl 2 1 0 (addS o s).length ∧ H' = [.gone, arS (addS o s)])) := by
  refine ASpec.sel (ASpec.arrEnd (s369m _ _ _ _ ?_))
  have app : ¬ (0 < o.length ∧ s.1 ≤ (o.getD (o.length - 1) (0, 0)).2) → ∃ id sz q q', ([.gone, .cells (encS s), .arr 2 (.app (.map encS (0, 0) o) (.raw [encS s]))] : List AObj)[id]? = some (.arr sz q) ∧ Seq.toList q' = q.toList ∧
      ∃ l H2 r2, Sel 1 l (([.gone, .cells (encS s), .arr 2 (.app (.map encS (0, 0) o) (.raw [encS s]))] : List AObj).set id (.arr sz q')) H2 ∧ Le (.msl 2 2 0 (o.length + 1)) (AV.ren (selR l (([.gone, .cells (encS s), .arr 2 (.app (.map encS (0, 0) o) (.raw [encS s]))] : List AObj).set id (.arr sz q')).length) r2) ∧
      ((r2 = .msl 2 0 0 (addS o s).length ∧ H2 = [arS (addS o s)] ∧ (addS o s).length = o.length) ∨ (r2 = .msl 2 1 0 (addS o s).length ∧ H2 = [.gone, arS (addS o s)])) := by
    intro hc
    have e : addS o s = o ++ [s] := by rw [addS, if_neg hc]
    refine ⟨2, 2, _, .map encS (0, 0) (o ++ [s]), rfl, by simp [Seq.toList], [0, 2], [.gone, arS (o ++ [s])], .msl 2 1 0 (o.length + 1), ?_, Le.refl _, .inr ⟨?_, ?_⟩⟩
    · refine ⟨by decide, rfl, by decide, fun i hi => ?_, fun i hi => ?_⟩
      · match i, hi with
        | 0, _ => rfl
      · match i, hi with
        | 0, _ => exact .inl rfl
        | 1, _ => exact .inl rfl
    · rw [e]; simp
    · rw [e]
  refine condD (fun h => ?_) fun h => ?_
  · by_cases hz : o.length = 0
    · rw [hz] at h
      have : IntKind.wrap .i64 (((0 : Nat) : Int) - 1) = -1 := by rw [wrap64 (by omega) (by omega)]; rfl
      rw [this] at h; omega
    rw [pre64 (by omega) (by omega), Int.toNat_natCast, Nat.zero_add]
    refine needJ ⟨by omega, by omega⟩ (needJ (by omega) (condD (fun h2 => needJ ⟨by omega, by omega⟩ (needJ (by omega) (needJ ⟨by omega, by omega⟩ (needJ (by omega) ?_)))) fun h2 => needJ ⟨rfl, by omega⟩ (app ?_)))
    · have e : addS o s = o.take (o.length - 1) ++ [((o.getD (o.length - 1) (0, 0)).1, max (o.getD (o.length - 1) (0, 0)).2 s.2)] := by rw [addS, if_pos ⟨by omega, h2⟩]
      have el : (addS o s).length = o.length := by rw [e]; simp; omega
      have em : (max (o.getD (o.length - 1) (0, 0)).2 s.2) = if s.2 > (o.getD (o.length - 1) (0, 0)).2 then s.2 else (o.getD (o.length - 1) (0, 0)).2 := by
        rw [Int.max_def]
        by_cases hx : s.2 > (o.getD (o.length - 1) (0, 0)).2
        · rw [if_pos hx, if_pos (by omega)]
        · rw [if_neg hx]
          by_cases hy : (o.getD (o.length - 1) (0, 0)).2 ≤ s.2
          · rw [if_pos hy]; omega
          · rw [if_neg hy]
      have es : o.set (o.length - 1) ((o.getD (o.length - 1) (0, 0)).1, max (o.getD (o.length - 1) (0, 0)).2 s.2) = addS o s := by
        rw [e, List.set_eq_take_append_cons_drop, if_pos (by omega), show o.length - 1 + 1 = o.length by omega, List.drop_length]
      refine ⟨0, 2, _, .map encS (0, 0) (addS o s), rfl, ?_, [0], [arS (addS o s)], .msl 2 0 0 o.length, sel01, Le.refl _, .inl ⟨by rw [el], rfl, el⟩⟩
      rw [← es, em]
      simp only [Seq.toList, List.map_set]
      rfl
    · rintro ⟨_, h3⟩; exact h2 h3
  · have hz : o.length = 0 := by
      by_cases hz : o.length = 0
      · exact hz
      · rw [pre64 (by omega) (by omega)] at h; omega
    exact needJ ⟨rfl, by omega⟩ (app (by omega))

/-! ### what two sets both have -/

abbrev andF (a b : List Span) (p : Int) : Bool := hasS a p && hasS b p

theorem and_next {a b : List Span} (ha : ok a) (hb : ok b) {p : Int} (hp : p < 1000000000) {to : Int} (ht : to = if nextS b p < nextS a p then nextS b p else nextS a p) :
    p < to ∧ to ≤ 1000000000 ∧ ∀ q, p ≤ q → q < to → andF a b q = andF a b p := by
  have h1 := nextS_gt ha hp
  have h2 := nextS_gt hb hp
  refine ⟨by rw [ht]; split <;> omega, by rw [ht]; split <;> omega, fun q hq1 hq2 => ?_⟩
  have hqa : q < nextS a p := by rw [ht] at hq2; split at hq2 <;> omega
  have hqb : q < nextS b p := by rw [ht] at hq2; split at hq2 <;> omega
  simp only [andF]
  rw [nextS_same ha hq1 hqa, nextS_same hb hq1 hqb]

theorem meet_ex {a b : List Span} (ha : ok a) (hb : ok b) : ∀ (m : Nat) (p : Int) (o : List Span), (1000000000 - p).toNat ≤ m → 0 ≤ p → p ≤ 1000000000 → Kept (andF a b) p o → ∃ o', Kept (andF a b) 1000000000 o'
  | 0, p, o, hm, h0, h1, hk => by
    have : p = 1000000000 := by omega
    subst this; exact ⟨o, hk⟩
  | m + 1, p, o, hm, h0, h1, hk => by
    by_cases hp : p < 1000000000
    · obtain ⟨n1, n2, n3⟩ := and_next ha hb hp rfl
      by_cases hf : andF a b p = true
      · exact meet_ex ha hb m _ _ (by omega) (by omega) n2 (kept_put hk h0 n1 n2 (fun q hq1 hq2 => by rw [n3 q hq1 hq2]; exact hf))
      · exact meet_ex ha hb m _ _ (by omega) (by omega) n2 (kept_skip hk (by omega) (fun q hq1 hq2 => by rw [n3 q hq1 hq2]; simpa using hf))
    · have : p = 1000000000 := by omega
      subst this; exact ⟨o, hk⟩

open Classical in
noncomputable def meetS (a b : List Span) : List Span := if h : ∃ o, Kept (andF a b) 1000000000 o then choose h else []
theorem meet_eq {a b o : List Span} (h : Kept (andF a b) 1000000000 o) : meetS a b = o := by
  have hex : ∃ o, Kept (andF a b) 1000000000 o := ⟨o, h⟩
  rw [meetS, dif_pos hex]
  exact kept_one (Classical.choose_spec hex) h
theorem meet_kept {a b : List Span} (ha : ok a) (hb : ok b) : Kept (andF a b) 1000000000 (meetS a b) := by
  obtain ⟨o, h⟩ := meet_ex ha hb 1000000000 0 [] (by omega) (by omega) (by omega) (kept_nil _)
  rw [meet_eq h]; exact h
theorem meet_ok {a b : List Span} (ha : ok a) (hb : ok b) : ok (meetS a b) := (meet_kept ha hb).1
theorem meet_has {a b : List Span} (ha : ok a) (hb : ok b) (p : Int) : hasS (meetS a b) p = (hasS a p && hasS b p) := by
  rw [(meet_kept ha hb).2.2]
  by_cases hp : 0 ≤ p ∧ p < 1000000000
  · rw [decide_eq_true hp]; rfl
  · rw [decide_eq_false hp, Bool.false_and]
    by_cases h0 : p ≤ -1
    · rw [chkS_low ha h0]; rfl
    · rw [chkS_top ha (by omega)]; rfl

theorem freezeS {n : Nat} {k : Nat} {o : List Span} (hn : n ≤ 1) : ReSt n [(k, .msl 2 0 0 o.length)] [arS o] [(k, slS o)] [.gone] := by
  refine ReSt.freeze (H := [arS o]) (id := 0) (sz := 2) (q := .map encS (0, 0) o) rfl hn (fun d => ?_)
  by_cases hd : d = k
  · subst hd
    refine .inr (.inr ⟨0, o.length, .map encS (0, 0) o, ?_, by simp [Seq.toList], ?_, by simp [Seq.toList, ← List.map_take]⟩)
    · simp [Ab.get]
    · simp [Ab.get]
  · left
    simp only [Ab.get]
    have e : Nat.beq k d = false := by
      cases hx : Nat.beq k d with
      | false => rfl
      | true => exact absurd (Nat.eq_of_beq_eq_true hx).symm hd
    rw [e]; rfl

theorem leS0 {ρ : Nat → Nat} : Le (.sl 0 (.raw []) .nil) (AV.ren ρ (slS [])) := Le.sl (s' := Seq.ren ρ (.map encS (0, 0) [])) rfl (.inr ⟨rfl, fun _ h => by cases h⟩) (.inr rfl)

theorem and_spec (x y : Bool) (H : List AObj) : ASpec Try.prog 320 [.bool x, .bool y] H (fun r H' => r = .bool (x && y) ∧ H' = H) :=
  ASpec.pureH (r0 := .bool (x && y)) H (s320 x y _ (condB (fun h => by rw [h]; exact ⟨rfl, rfl⟩) fun h => by rw [h]; exact ⟨rfl, rfl⟩)) _ _ rfl rfl

section
variable {a b : List Span} (ha : ok a) (hb : ok b)
include ha hb

theorem kept3m : ∀ (m : Nat) (p : Int) (o : List Span), (1000000000 - p).toNat ≤ m → 0 ≤ p → p ≤ 1000000000 → Kept (andF a b) p o →
    AWP Try.prog 34 0 c319_3 [(0, slS a), (1, slS b), (2, .fn 320 []), (7, .msl 2 0 0 o.length), (8, .int .i64 p)] [arS o] (q319_2 0 (PA (slS (meetS a b)))) := by
  have done : ∀ (p : Int) (o : List Span), ¬ p < 1000000000 → p ≤ 1000000000 → Kept (andF a b) p o → AWP Try.prog 34 0 c319_8 [(7, .msl 2 0 0 o.length)] [arS o] (q319_0 0 (PA (slS (meetS a b)))) := by
    intro p o h1 h2 hk
    have : p = 1000000000 := by omega
    subst this
    refine AWP.re (freezeS (by omega)) (AWP.shape [] [(7, slS o)] [] Sel.none ⟨rfl, Le.refl _, trivial⟩ (v319_8s _ _ _ (pa ?_)))
    rw [meet_eq hk]; exact Le.refl _
  intro m
  induction m with
  | zero =>
    intro p o hm h0 h1 hk
    exact v319_3m _ _ _ _ _ _ _ (condD (fun h => by omega) fun h => done p o h h1 hk)
  | succ m ih =>
    intro p o hm h0 h1 hk
    have hol := ok_len hk.1
    refine v319_3m _ _ _ _ _ _ _ (condD (fun hp => ?_) fun h => done p o h h1 hk)
    obtain ⟨n1, n2, n3⟩ := and_next ha hb hp rfl
    refine ASpec.call (next_spec a p ha _) (Les.refl _) ⟨_, rfl, rfl, ?_⟩
    refine ASpec.call (next_spec b p hb _) (Les.refl _) ⟨_, rfl, rfl, ?_⟩
    refine ASpec.call (has_spec a p ha _) (Les.refl _) ⟨_, rfl, rfl, ?_⟩
    refine ASpec.call (has_spec b p hb _) (Les.refl _) ⟨_, rfl, rfl, ?_⟩
    refine ASpec.call (and_spec _ _ _) (Les.refl _) ⟨_, rfl, rfl, ?_⟩
    generalize (if nextS b p < nextS a p then nextS b p else nextS a p) = to at n1 n2 n3 ⊢
    refine condB (fun hf => ?_) fun hf => ?_
    · have hk' := kept_put hk h0 n1 n2 (fun q hq1 hq2 => by rw [n3 q hq1 hq2]; exact hf)
      have nxt := ih to (addS o (p, to)) (by omega) (by omega) n2 hk'
      refine (add_mem o (p, to) (by omega)).mono fun r H' hh => .inr ?_
      rcases hh with ⟨e1, e2, e3⟩ | ⟨e1, e2⟩
      · subst e1 e2
        refine .inl ⟨addS o (p, to), by rw [e3], rfl, ?_⟩
        rw [e3] at nxt; exact nxt
      · subst e1 e2
        refine .inr ⟨addS o (p, to), rfl, rfl, ?_⟩
        exact AWP.shape [1] [(0, slS a), (1, slS b), (2, .fn 320 []), (7, .msl 2 0 0 (addS o (p, to)).length), (8, .int .i64 to)] [arS (addS o (p, to))] (Sel.one 1 rfl rfl)
          ⟨rfl, Le.refl _, rfl, Le.refl _, rfl, Le.refl _, rfl, Le.refl _, rfl, Le.refl _, trivial⟩ nxt
    · exact ih to o (by omega) (by omega) n2 (kept_skip hk (by omega) (fun q hq1 hq2 => by rw [n3 q hq1 hq2]; exact hf))

theorem kept3n : ∀ (m : Nat) (p : Int), (1000000000 - p).toNat ≤ m → 0 ≤ p → p ≤ 1000000000 → Kept (andF a b) p [] →
    AWP Try.prog 34 0 c319_3 [(0, slS a), (1, slS b), (2, .fn 320 []), (7, .sl 0 (.raw []) .nil), (8, .int .i64 p)] [] (q319_2 0 (PA (slS (meetS a b)))) := by
  have done : ∀ (p : Int), ¬ p < 1000000000 → p ≤ 1000000000 → Kept (andF a b) p [] → AWP Try.prog 34 0 c319_8 [(7, .sl 0 (.raw []) .nil)] [] (q319_0 0 (PA (slS (meetS a b)))) := by
    intro p h1 h2 hk
    have : p = 1000000000 := by omega
    subst this
    refine v319_8n _ _ (pa ?_)
    rw [meet_eq hk]; exact leS0
  intro m
  induction m with
  | zero =>
    intro p hm h0 h1 hk
    exact v319_3n _ _ _ _ _ (condD (fun h => by omega) fun h => done p h h1 hk)
  | succ m ih =>
    intro p hm h0 h1 hk
    refine v319_3n _ _ _ _ _ (condD (fun hp => ?_) fun h => done p h h1 hk)
    obtain ⟨n1, n2, n3⟩ := and_next ha hb hp rfl
    refine ASpec.call (next_spec a p ha _) (Les.refl _) ⟨_, rfl, rfl, ?_⟩
    refine ASpec.call (next_spec b p hb _) (Les.refl _) ⟨_, rfl, rfl, ?_⟩
    refine ASpec.call (has_spec a p ha _) (Les.refl _) ⟨_, rfl, rfl, ?_⟩
    refine ASpec.call (has_spec b p hb _) (Les.refl _) ⟨_, rfl, rfl, ?_⟩
    refine ASpec.call (and_spec _ _ _) (Les.refl _) ⟨_, rfl, rfl, ?_⟩
    generalize (if nextS b p < nextS a p then nextS b p else nextS a p) = to at n1 n2 n3 ⊢
    refine condB (fun hf => ?_) fun hf => ?_
    · have hk' := kept_put hk h0 n1 n2 (fun q hq1 hq2 => by rw [n3 q hq1 hq2]; exact hf)
      have nxt := kept3m ha hb m to (addS [] (p, to)) (by omega) (by omega) n2 hk'
      exact ASpec.call (add_nil (p, to) []) (Les.refl _) (.inl ⟨(p, to), rfl, rfl, nxt⟩)
    · exact ih to (by omega) (by omega) n2 (kept_skip hk (by omega) (fun q hq1 hq2 => by rw [n3 q hq1 hq2]; exact hf))

theorem meet_spec (H : List AObj) : ASpec Try.prog 258 [slS a, slS b] H (fun r H' => r = slS (meetS a b) ∧ H' = H) := by
  have k : ASpec Try.prog 258 [slS a, slS b] [] (fun r H' => r = slS (meetS a b) ∧ H' = []) := by
    have k2 : ASpec Try.prog 319 [slS a, slS b, .fn 320 []] [] (fun r H' => r = slS (meetS a b) ∧ H' = []) :=
      ASpec.sel (s319 _ _ _ (kept3n ha hb 1000000000 0 (by omega) (by omega) (by omega) (kept_nil _)))
    exact s258 _ _ _ (ASpec.call k2 (Les.refl _) ⟨_, rfl, rfl, rfl, rfl⟩)
  exact ASpec.pureH H k _ _ rfl rfl
end

/-! ### within -/

/-- has the second set all that the first one has? -/
def subS (a b : List Span) : Bool := a.all fun s => decide (aftS s.1 b < b.length ∧ (b.getD (aftS s.1 b) (0, 0)).1 ≤ s.1 ∧ s.2 ≤ (b.getD (aftS s.1 b) (0, 0)).2)

theorem within2 {a b : List Span} (hb : ok b) (hal : a.length ≤ 2000000000) {c : Bool} : ∀ (m i : Nat), m + i = a.length → subS (a.drop i) b = c →
    AWP Try.prog 43 0 c259_2 [(1, slS b), (8, slS a), (9, .int .i64 a.length), (10, .int .i64 i)] [] (q259_2 0 (PB c)) := by
  intro m
  induction m with
  | zero =>
    intro i hm h
    refine v259_2 _ _ _ _ _ _ (condD (fun hc => by omega) fun _ => pb ?_)
    rw [List.drop_eq_nil_of_le (by omega)] at h
    exact h
  | succ m ih =>
    intro i hm h
    rw [dropD a (0, 0) i (by omega)] at h
    refine v259_2 _ _ _ _ _ _ (condD (fun hc => needJ ⟨by omega, by omega⟩ ?_) fun hc => by omega)
    rw [Int.toNat_natCast]
    generalize a.getD i (0, 0) = x at h ⊢
    have hle := aftS_le x.1 b
    have no : ∀ {H' : List AObj}, ¬ (aftS x.1 b < b.length ∧ (b.getD (aftS x.1 b) (0, 0)).1 ≤ x.1 ∧ x.2 ≤ (b.getD (aftS x.1 b) (0, 0)).2) → PB c (.bool false) H' := by
      intro H' hh
      refine pb ?_
      rw [← h, subS, List.all_cons, decide_eq_false hh, Bool.false_and]
    refine ASpec.call (after_spec b x.1 hb _) (Les.refl _) ⟨_, rfl, rfl, condE (fun h1 => no (by omega)) fun h1 => needJ ⟨by omega, by omega⟩ ?_⟩
    rw [Int.toNat_natCast]
    refine condD (fun h2 => no (by omega)) fun h2 => needJ ⟨by omega, by omega⟩ (condD (fun h3 => no (by omega)) fun h3 => ?_)
    rw [suc64 (by omega)]
    refine AWP.shape [] [(1, slS b), (8, slS a), (9, .int .i64 a.length), (10, .int .i64 (i + 1 : Nat))] [] Sel.none ⟨rfl, Le.refl _, rfl, Le.refl _, rfl, Le.refl _, rfl, Le.refl _, trivial⟩ (ih (i + 1) (by omega) ?_)
    rw [← h, subS, subS, List.all_cons, decide_eq_true (⟨by omega, by omega, by omega⟩ : aftS x.1 b < b.length ∧ (b.getD (aftS x.1 b) (0, 0)).1 ≤ x.1 ∧ x.2 ≤ (b.getD (aftS x.1 b) (0, 0)).2), Bool.true_and]

theorem within_spec (a b : List Span) (ha : ok a) (hb : ok b) (H : List AObj) : ASpec Try.prog 259 [slS a, slS b] H (fun r H' => r = .bool (subS a b) ∧ H' = H) :=
  ASpec.pureH (r0 := .bool (subS a b)) H (ASpec.sel (s259 _ _ _ (within2 hb (by have := ok_len ha; omega) a.length 0 (by omega) rfl))) _ _ rfl rfl

/-- within: each place of the first set is one of the second -/
theorem subS_iff {a b : List Span} (ha : ok a) (hb : ok b) : subS a b = true ↔ ∀ p, hasS a p = true → hasS b p = true := by
  constructor
  · intro h p hp
    simp only [hasS, List.any_eq_true] at hp
    obtain ⟨s, hs, hsp⟩ := hp
    rw [inS_iff] at hsp
    have := List.all_eq_true.1 h s hs
    simp only [decide_eq_true_eq] at this
    obtain ⟨h1, h2, h3⟩ := this
    simp only [hasS, List.any_eq_true]
    exact ⟨_, memD b (0, 0) _ h1, inS_iff.2 ⟨by omega, by omega⟩⟩
  · intro h
    refine List.all_eq_true.2 fun s hs => ?_
    obtain ⟨i, hi, e⟩ := List.getElem_of_mem hs
    have hr := chkS_rise ha i hi
    rw [List.getD_eq_getElem?_getD, List.getElem?_eq_getElem hi] at hr
    simp only [Option.getD_some, e] at hr
    obtain ⟨r1, r2, r3, _⟩ := hr
    have hin : ∀ q, s.1 ≤ q → q < s.2 → hasS b q = true := fun q h1 h2 => h q (by simp only [hasS, List.any_eq_true]; exact ⟨s, hs, inS_iff.2 ⟨h1, h2⟩⟩)
    obtain ⟨k1, k2⟩ := (hasS_aft hb).1 (hin s.1 (by omega) r2)
    refine decide_eq_true ⟨k1, k2, ?_⟩
    have hat := aftS_at s.1 b k1
    by_cases hc : s.2 ≤ (b.getD (aftS s.1 b) (0, 0)).2
    · exact hc
    · exfalso
      have h1 := hin (b.getD (aftS s.1 b) (0, 0)).2 (by omega) (by omega)
      have hn : hasS b (b.getD (aftS s.1 b) (0, 0)).2 = false := by
        have key : ∀ {l : List Span} {e : Int}, chkS e l = true → ∀ i, i < l.length → hasS l (l.getD i (0, 0)).2 = false := by
          intro l
          induction l with
          | nil => intro e _ i hi; simp at hi
          | cons x r ih =>
            intro e hl i hi
            obtain ⟨a1, a2, a3, a4⟩ := chkS_cons hl
            match i, hi with
            | 0, _ =>
              simp only [List.getD_cons_zero]
              rw [hasS_cons, chkS_low a4 (Int.le_refl _), inS_false.2 (by omega)]; rfl
            | i + 1, hi =>
              simp only [List.getD_cons_succ]
              have hx := chkS_rise a4 i (by simpa using hi)
              rw [hasS_cons, ih a4 i (by simpa using hi), inS_false.2 (by omega)]; rfl
        exact key hb _ k1
      rw [hn] at h1; cases h1
end Sg
end

section
/- Sets of places: the document's code. -/

set_option linter.unusedVariables false
set_option linter.unusedSimpArgs false
set_option maxRecDepth 100000
open Go Go.Ab Go.Proofs V S T C
open W (slS leNone cons_dec renS)
open Sp
namespace Sg

noncomputable abbrev slI (l : List Int) : AV := .sl 1 (.map encI 0 l) .none

/-! ### has -/

theorem rhas2 {l : List Span} (hs : ok l) {p : Int} {c : Bool} : ∀ (m i : Nat), m + i = l.length → hasS (l.drop i) p = c →
    AWP Try.prog 34 0 c331_2 [(0, slS l), (1, .int .i64 p), (5, .int .i64 i)] [] (q331_2 0 (PB c)) := by
  have hl := ok_len hs
  intro m
  induction m with
  | zero =>
    intro i hm h
    refine v331_2 _ _ _ _ _ (condD (fun hc => by omega) fun _ => pb ?_)
    rw [List.drop_eq_nil_of_le (by omega)] at h
    exact h
  | succ m ih =>
    intro i hm h
    have hin : (0 : Int) ≤ (i : Int) ∧ (i : Int) < (l.length : Int) := ⟨by omega, by omega⟩
    obtain ⟨r1, r2, r3, _⟩ := chkS_rise hs i (by omega)
    rw [dropD l (0, 0) i (by omega), hasS_cons] at h
    refine v331_2 _ _ _ _ _ (condD (fun hc => needJ hin ?_) fun hc => by omega)
    rw [Int.toNat_natCast]
    generalize l.getD i (0, 0) = x at h r1 r2 r3 ⊢
    refine condD (fun h1 => needJ hin (condD (fun h2 => condD (fun h3 => pb ?_) fun h3 => by omega) fun h2 => ?_)) fun h1 => ?_
    · rw [inS_iff.2 ⟨h1, h2⟩, Bool.true_or] at h
      rw [← h, decide_eq_true (by omega)]
    · rw [inS_false.2 (by omega), Bool.false_or] at h
      rw [suc64 (by omega)]
      exact ih (i + 1) (by omega) h
    · rw [inS_false.2 (by omega), Bool.false_or] at h
      rw [suc64 (by omega)]
      exact ih (i + 1) (by omega) h

theorem rhas_spec (l : List Span) (p : Int) (hs : ok l) (H : List AObj) : ASpec Try.prog 331 [slS l, .int .i64 p] H (fun r H' => r = .bool (hasS l p) ∧ H' = H) :=
  ASpec.pureH (r0 := .bool (hasS l p)) H (ASpec.sel (s331 _ _ _ (rhas2 hs l.length 0 (by omega) rfl))) _ _ rfl rfl

/-! ### cuts -/

def clip (p : Int) : Int := min (max p 0) 1000000000
def insS (p : Int) : List Int → List Int
  | [] => [p]
  | x :: r => if p ≤ x then (if p = x then p :: r else p :: x :: r) else x :: insS p r

theorem insS_len (p : Int) : ∀ l : List Int, (insS p l).length ≤ l.length + 1
  | [] => Nat.le_refl _
  | x :: r => by
    simp only [insS]
    repeat' split
    · simp
    · simp
    · have := insS_len p r; simp; omega
theorem insS_mem (p q : Int) : ∀ l : List Int, q ∈ insS p l ↔ q = p ∨ q ∈ l
  | [] => by simp [insS]
  | x :: r => by
    simp only [insS]
    repeat' split
    · rename_i h; subst h; simp
    · simp
    · simp only [List.mem_cons, insS_mem p q r]
      constructor
      · rintro (h | h | h)
        · exact .inr (.inl h)
        · exact .inl h
        · exact .inr (.inr h)
      · rintro (h | h | h)
        · exact .inr (.inl h)
        · exact .inl h
        · exact .inr (.inr h)
theorem insS_rise (p : Int) : ∀ l : List Int, l.Pairwise (· < ·) → (insS p l).Pairwise (· < ·)
  | [], _ => by simp [insS]
  | x :: r, h => by
    rw [List.pairwise_cons] at h
    simp only [insS]
    repeat' split
    · rename_i h1 h2; subst h2
      rw [List.pairwise_cons]; exact h
    · rename_i h1 h2
      rw [List.pairwise_cons, List.pairwise_cons]
      refine ⟨fun y hy => ?_, h⟩
      rcases List.mem_cons.1 hy with rfl | hy
      · omega
      · have := h.1 y hy; omega
    · rename_i h1
      rw [List.pairwise_cons]
      refine ⟨fun y hy => ?_, insS_rise p r h.2⟩
      rcases (insS_mem p y r).1 hy with rfl | hy
      · omega
      · exact h.1 y hy

abbrev PI (R : List Int) : AV → List AObj → Prop := PA (slI R)
theorem renI (ρ : Nat → Nat) (x : Int) : renL ρ (encI x) = encI x := rfl

/-- what is left to be copied -/
def restS (z : Bool) (p : Int) (l : List Int) : List Int := if z = true then l else insS p l

theorem put12 {p : Int} {o R : List Int} {z : Bool} (ho : o.length ≤ 100000000000) (h : o ++ restS z p [] = R) :
    AWP Try.prog 51 0 c392_12 [(1, .int .i64 p), (5, .sl 1 (.map encI 0 o) (.tok 0)), (6, .bool z)] [.tok] (q392_0 0 (PI R)) := by
  refine v392_12 _ _ _ _ _ (condBn (fun hz => needJ (by omega) ?_) fun hz => ?_)
  · subst hz
    simp only [restS, Bool.false_eq_true, if_false, insS] at h
    subst h
    refine pa ?_
    exact Le.trans (leAppE (x := p) (Les.refl _)) (leNone renI)
  · subst hz
    simp only [restS, if_true, List.append_nil] at h
    subst h
    exact pa (leNone renI)

theorem put5 {l : List Int} {p : Int} (hl : l.length ≤ 20000000000) {R : List Int} : ∀ (m i : Nat) (o : List Int) (z : Bool), m + i = l.length → o.length ≤ i + z.toNat → o ++ restS z p (l.drop i) = R →
    AWP Try.prog 51 0 c392_5 [(0, slI l), (1, .int .i64 p), (5, .sl 1 (.map encI 0 o) (.tok 0)), (6, .bool z), (7, .int .i64 i)] [.tok] (q392_2 0 (PI R)) := by
  intro m
  induction m with
  | zero =>
    intro i o z hm ho h
    have : z.toNat ≤ 1 := by cases z <;> simp
    rw [List.drop_eq_nil_of_le (by omega)] at h
    exact v392_5 _ _ _ _ _ _ _ (condD (fun hc => by omega) fun _ => put12 (by omega) h)
  | succ m ih =>
    intro i o z hm ho h
    have hz1 : z.toNat ≤ 1 := by cases z <;> simp
    have hin : (0 : Int) ≤ (i : Int) ∧ (i : Int) < (l.length : Int) := ⟨by omega, by omega⟩
    have eleven : ∀ (o : List Int) (z : Bool), o.length ≤ i + z.toNat → o ++ (l.getD i 0 :: restS z p (l.drop (i + 1))) = R → AWP Try.prog 51 0 c392_11 [(0, slI l), (1, .int .i64 p), (5, .sl 1 (.map encI 0 o) (.tok 0)), (6, .bool z), (7, .int .i64 i)] [.tok] (q392_5 0 (PI R)) := by
      intro o z ho h
      have hz1 : z.toNat ≤ 1 := by cases z <;> simp
      refine v392_11 _ _ _ _ _ _ _ (needJ hin (needJ (by omega) ?_))
      rw [suc64 (by omega), Int.toNat_natCast]
      refine AWP.shape [1] [(0, slI l), (1, .int .i64 p), (5, .sl 1 (.map encI 0 (o ++ [l.getD i 0])) (.tok 0)), (6, .bool z), (7, .int .i64 (i + 1 : Nat))] [.tok] (Sel.one 1 rfl rfl)
        ⟨rfl, Le.refl _, rfl, Le.refl _, rfl, ?_, rfl, Le.refl _, rfl, Le.refl _, trivial⟩ (ih (i + 1) _ z (by omega) (by simp; omega) (by rw [← h]; simp))
      exact W.leAppT renI rfl rfl
    rw [dropD l 0 i (by omega)] at h
    refine v392_5 _ _ _ _ _ _ _ (condD (fun _ => condBn (fun hz => needJ hin ?_) fun hz => ?_) fun hc => by omega)
    · subst hz
      simp only [Bool.toNat_false, Nat.add_zero] at ho
      rw [Int.toNat_natCast]
      simp only [restS, Bool.false_eq_true, if_false, insS] at h
      refine condD (fun h1 => needJ (by omega) (needJ hin (condE (fun h2 => ?_) fun h2 => ?_))) fun h1 => ?_
      · rw [if_pos h1, if_pos h2] at h
        rw [suc64 (by omega)]
        refine AWP.shape [1] [(0, slI l), (1, .int .i64 p), (5, .sl 1 (.map encI 0 (o ++ [p])) (.tok 0)), (6, .bool true), (7, .int .i64 (i + 1 : Nat))] [.tok] (Sel.one 1 rfl rfl)
          ⟨rfl, Le.refl _, rfl, Le.refl _, rfl, ?_, rfl, Le.refl _, rfl, Le.refl _, trivial⟩ (ih (i + 1) _ true (by omega) (by simp; omega) (by rw [← h]; simp [restS]))
        exact W.leAppT renI rfl rfl
      · rw [if_pos h1, if_neg h2] at h
        refine AWP.shape [1] [(0, slI l), (1, .int .i64 p), (5, .sl 1 (.map encI 0 (o ++ [p])) (.tok 0)), (6, .bool true), (7, .int .i64 i)] [.tok] (Sel.one 1 rfl rfl)
          ⟨rfl, Le.refl _, rfl, Le.refl _, rfl, ?_, rfl, Le.refl _, rfl, Le.refl _, trivial⟩ (eleven _ true (by simp; omega) (by rw [← h]; simp [restS]))
        exact W.leAppT renI rfl rfl
      · rw [if_neg h1] at h
        exact eleven o false (by simp; omega) (by rw [← h]; simp [restS])
    · subst hz
      exact eleven o true ho (by rw [← h]; simp [restS])

theorem put_spec (l : List Int) (p : Int) (hl : l.length ≤ 20000000000) (H : List AObj) : ASpec Try.prog 392 [slI l, .int .i64 p] H (fun r H' => r = slI (insS (clip p) l) ∧ H' = H) := by
  have k : ASpec Try.prog 392 [slI l, .int .i64 p] [] (fun r H' => r = slI (insS (clip p) l) ∧ H' = []) := by
    have e : (if 1000000000 < (if 0 > p then 0 else p) then 1000000000 else if 0 > p then 0 else p) = clip p := by
      unfold clip
      rw [Int.max_def, Int.min_def]
      repeat' split
      all_goals omega
    refine ASpec.sel (s392 _ _ _ ?_)
    rw [e]
    refine AWP.re (ReSt.tok (H := []) (k := 5) (q' := .map encI 0 []) (sz' := 1) (s2 := [(0, slI l), (1, .int .i64 (clip p)), (5, .sl 1 (.map encI 0 []) (.tok 0)), (6, .bool false), (7, .int .i64 (0 : Nat))]) rfl (.inl rfl) rfl (.inr rfl) (fun d hd => ?_) rfl) ?_
    · simp only [Ab.get]
      have e : Nat.beq 5 d = false := by
        cases hx : Nat.beq 5 d with
        | false => rfl
        | true => exact absurd (Nat.eq_of_beq_eq_true hx).symm hd
      rw [e]; rfl
    · exact put5 hl l.length 0 [] false (by omega) (by simp) rfl
  exact ASpec.pureH H k _ _ rfl rfl

def cutF (l : List Int) : List Span → List Int
  | [] => l
  | s :: r => cutF (insS (clip s.2) (insS (clip s.1) l)) r
def cutsS (a b : List Span) : List Int := cutF (cutF [0, 1000000000] a) b

theorem cutF_len : ∀ (a : List Span) (l : List Int), (cutF l a).length ≤ l.length + 2 * a.length
  | [], l => by simp [cutF]
  | s :: r, l => by
    have h1 := cutF_len r (insS (clip s.2) (insS (clip s.1) l))
    have h2 := insS_len (clip s.2) (insS (clip s.1) l)
    have h3 := insS_len (clip s.1) l
    simp only [cutF, List.length_cons]; omega

theorem cuts7 {b : List Span} (hb : b.length ≤ 2000000000) {R : List Int} : ∀ (m i : Nat) (l : List Int), m + i = b.length → l.length ≤ 10000000000 + 2 * i → cutF l (b.drop i) = R →
    AWP Try.prog 48 0 c370_7 [(1, slS b), (5, slI l), (7, .int .i64 i)] [] (q370_4 0 (PI R)) := by
  intro m
  induction m with
  | zero =>
    intro i l hm hl h
    refine v370_7 _ _ _ _ _ (condD (fun hc => by omega) fun _ => pa ?_)
    rw [List.drop_eq_nil_of_le (by omega)] at h
    have h : l = R := h
    rw [h]; exact Le.refl _
  | succ m ih =>
    intro i l hm hl h
    have hin : (0 : Int) ≤ (i : Int) ∧ (i : Int) < (b.length : Int) := ⟨by omega, by omega⟩
    rw [dropD b (0, 0) i (by omega)] at h
    refine v370_7 _ _ _ _ _ (condD (fun _ => needJ hin (needJ hin ?_)) fun hc => by omega)
    rw [Int.toNat_natCast]
    generalize b.getD i (0, 0) = x at h ⊢
    have l1 := insS_len (clip x.1) l
    have l2 := insS_len (clip x.2) (insS (clip x.1) l)
    refine ASpec.call (put_spec l x.1 (by omega) _) (Les.refl _) ⟨_, rfl, rfl, ⟨rfl, rfl⟩, ?_⟩
    refine ASpec.call (put_spec _ x.2 (by omega) _) (Les.refl _) ⟨_, rfl, rfl, ?_⟩
    rw [suc64 (by omega)]
    exact ih (i + 1) _ (by omega) (by omega) h

theorem cuts3 {a b : List Span} (ha : a.length ≤ 2000000000) (hb : b.length ≤ 2000000000) {R : List Int} : ∀ (m i : Nat) (l : List Int), m + i = a.length → l.length ≤ 2 + 2 * i → cutF (cutF l (a.drop i)) b = R →
    AWP Try.prog 48 0 c370_3 [(0, slS a), (1, slS b), (5, slI l), (6, .int .i64 i)] [] (q370_2 0 (PI R)) := by
  intro m
  induction m with
  | zero =>
    intro i l hm hl h
    refine v370_3 _ _ _ _ _ _ (condD (fun hc => by omega) fun _ => v370_6 _ _ _ _ ?_)
    rw [List.drop_eq_nil_of_le (by omega)] at h
    exact cuts7 hb b.length 0 l (by omega) (by omega) h
  | succ m ih =>
    intro i l hm hl h
    have hin : (0 : Int) ≤ (i : Int) ∧ (i : Int) < (a.length : Int) := ⟨by omega, by omega⟩
    rw [dropD a (0, 0) i (by omega)] at h
    refine v370_3 _ _ _ _ _ _ (condD (fun _ => needJ hin (needJ hin ?_)) fun hc => by omega)
    rw [Int.toNat_natCast]
    generalize a.getD i (0, 0) = x at h ⊢
    have l1 := insS_len (clip x.1) l
    have l2 := insS_len (clip x.2) (insS (clip x.1) l)
    refine ASpec.call (put_spec l x.1 (by omega) _) (Les.refl _) ⟨_, rfl, rfl, ⟨rfl, rfl⟩, ?_⟩
    refine ASpec.call (put_spec _ x.2 (by omega) _) (Les.refl _) ⟨_, rfl, rfl, ?_⟩
    rw [suc64 (by omega)]
    exact ih (i + 1) _ (by omega) (by omega) h

theorem cuts_spec (a b : List Span) (ha : a.length ≤ 2000000000) (hb : b.length ≤ 2000000000) (H : List AObj) : ASpec Try.prog 370 [slS a, slS b] H (fun r H' => r = slI (cutsS a b) ∧ H' = H) := by
  have k : ASpec Try.prog 370 [slS a, slS b] [] (fun r H' => r = slI (cutsS a b) ∧ H' = []) := by
    refine ASpec.sel (s370 _ _ _ ?_)
    refine AWP.spell [(0, slS a), (1, slS b), (5, slI [0, 1000000000]), (6, .int .i64 (0 : Nat))] ⟨rfl, Le.refl _, rfl, Le.refl _, rfl, Le.sl rfl (.inl rfl) (.inr rfl), rfl, Le.refl _, trivial⟩ ?_
    exact cuts3 ha hb a.length 0 _ (by omega) (by simp) rfl
  exact ASpec.pureH H k _ _ rfl rfl

/-- what the cuts are good for -/
structure Good (l : List Int) : Prop where
  rise : l.Pairwise (· < ·)
  low : ∀ q ∈ l, 0 ≤ q ∧ q ≤ 1000000000
  zero : (0 : Int) ∈ l
  top : (1000000000 : Int) ∈ l
def Ends (a : List Span) (l : List Int) : Prop := ∀ s ∈ a, s.1 ∈ l ∧ s.2 ∈ l

theorem good0 : Good [0, 1000000000] := ⟨by simp, by simp, by simp, by simp⟩
theorem clip_in (p : Int) : 0 ≤ clip p ∧ clip p ≤ 1000000000 := by unfold clip; omega
theorem clip_id {p : Int} (h0 : 0 ≤ p) (h1 : p ≤ 1000000000) : clip p = p := by unfold clip; omega
theorem Good.ins {l : List Int} (h : Good l) (p : Int) : Good (insS (clip p) l) := by
  refine ⟨insS_rise _ _ h.rise, fun q hq => ?_, (insS_mem _ _ _).2 (.inr h.zero), (insS_mem _ _ _).2 (.inr h.top)⟩
  rcases (insS_mem _ _ _).1 hq with rfl | hq
  · exact clip_in p
  · exact h.low q hq
theorem cutF_good : ∀ (a : List Span) (l : List Int), Good l → Good (cutF l a)
  | [], l, h => h
  | s :: r, l, h => cutF_good r _ ((h.ins s.1).ins s.2)
theorem cutF_mem : ∀ (a : List Span) (l : List Int) (q : Int), q ∈ l → q ∈ cutF l a
  | [], l, q, h => h
  | s :: r, l, q, h => cutF_mem r _ q ((insS_mem _ _ _).2 (.inr ((insS_mem _ _ _).2 (.inr h))))
theorem cutF_ends : ∀ (a : List Span) (l : List Int) (e : Int), -1 ≤ e → chkS e a = true → Ends a (cutF l a)
  | [], l, e, _, _, s, hs => by simp at hs
  | x :: r, l, e, he, h, s, hs => by
    obtain ⟨h1, h2, h3, h4⟩ := chkS_cons h
    rcases List.mem_cons.1 hs with rfl | hs
    · refine ⟨cutF_mem r _ _ ?_, cutF_mem r _ _ ?_⟩
      · rw [clip_id (p := s.1) (by omega) (by omega)]
        exact (insS_mem _ _ _).2 (.inr ((insS_mem _ _ _).2 (.inl rfl)))
      · rw [clip_id (p := s.2) (by omega) (by omega)]
        exact (insS_mem _ _ _).2 (.inl rfl)
    · exact cutF_ends r _ x.2 (by omega) h4 s hs
theorem cuts_ends {a b : List Span} (ha : ok a) (hb : ok b) : Ends a (cutsS a b) ∧ Ends b (cutsS a b) := by
  refine ⟨fun s hs => ?_, cutF_ends b _ (-1) (by omega) hb⟩
  obtain ⟨h1, h2⟩ := cutF_ends a [0, 1000000000] (-1) (by omega) ha s hs
  exact ⟨cutF_mem b _ _ h1, cutF_mem b _ _ h2⟩
theorem cuts_good (a b : List Span) : Good (cutsS a b) := cutF_good b _ (cutF_good a _ good0)

theorem Good.lt {l : List Int} (h : Good l) {i j : Nat} (hi : i < j) (hj : j < l.length) : l.getD i 0 < l.getD j 0 := by
  have := List.pairwise_iff_getElem.1 h.rise i j (by omega) hj hi
  simpa [List.getD_eq_getElem?_getD, List.getElem?_eq_getElem (show i < l.length by omega), List.getElem?_eq_getElem hj] using this
theorem Good.mem {l : List Int} (h : Good l) {q : Int} (hq : q ∈ l) : ∃ i, i < l.length ∧ l.getD i 0 = q := by
  obtain ⟨i, hi, e⟩ := List.getElem_of_mem hq
  exact ⟨i, hi, by simp [List.getD_eq_getElem?_getD, List.getElem?_eq_getElem hi, e]⟩
theorem Good.first {l : List Int} (h : Good l) : 0 < l.length ∧ l.getD 0 0 = 0 := by
  obtain ⟨i, hi, e⟩ := h.mem h.zero
  have h0 := (h.low _ (memD l 0 0 (by omega))).1
  refine ⟨by omega, ?_⟩
  rcases Nat.eq_zero_or_pos i with rfl | hp
  · exact e
  · have := h.lt hp hi; omega
theorem Good.last {l : List Int} (h : Good l) : l.getD (l.length - 1) 0 = 1000000000 := by
  obtain ⟨i, hi, e⟩ := h.mem h.top
  have h0 := (h.low _ (memD l 0 (l.length - 1) (by omega))).2
  rcases Nat.lt_or_ge i (l.length - 1) with hp | hp
  · have := h.lt hp (by omega); omega
  · have : i = l.length - 1 := by omega
    rw [← this]; exact e
/-- between two cuts nothing changes -/
theorem ends_same {a : List Span} {l : List Int} (h : Good l) (he : Ends a l) {i : Nat} (hi : i + 1 < l.length) {q : Int} (h1 : l.getD i 0 ≤ q) (h2 : q < l.getD (i + 1) 0) : hasS a q = hasS a (l.getD i 0) := by
  have no : ∀ x ∈ l, x ≤ l.getD i 0 ∨ l.getD (i + 1) 0 ≤ x := by
    intro x hx
    obtain ⟨j, hj, e⟩ := h.mem hx
    rcases Nat.lt_trichotomy j i with hji | hji | hji
    · have := h.lt hji (by omega); omega
    · subst hji; omega
    · rcases Nat.lt_or_ge (i + 1) j with hk | hk
      · have := h.lt hk hj; omega
      · have : j = i + 1 := by omega
        subst this; omega
  simp only [hasS]
  rw [Bool.eq_iff_iff, List.any_eq_true, List.any_eq_true]
  constructor
  · rintro ⟨s, hs, hsq⟩
    rw [inS_iff] at hsq
    obtain ⟨e1, e2⟩ := he s hs
    have n1 := no _ e1
    have n2 := no _ e2
    exact ⟨s, hs, inS_iff.2 ⟨by omega, by omega⟩⟩
  · rintro ⟨s, hs, hsq⟩
    rw [inS_iff] at hsq
    obtain ⟨e1, e2⟩ := he s hs
    have n1 := no _ e1
    have n2 := no _ e2
    exact ⟨s, hs, inS_iff.2 ⟨by omega, by omega⟩⟩

theorem told_spec (op : Int) (x y : Bool) (H : List AObj) : ASpec Try.prog 371 [.int .i64 op, .bool x, .bool y] H (fun r H' => r = .bool (if op = 0 then x || y else if op = 1 then x && y else !x) ∧ H' = H) := by
  have k : ASpec Try.prog 371 [.int .i64 op, .bool x, .bool y] [] (fun r H' => r = .bool (if op = 0 then x || y else if op = 1 then x && y else !x) ∧ H' = []) := by
    refine s371 _ _ _ _ (condE (fun h => ?_) fun h => condE (fun h1 => ?_) fun h1 => ?_)
    · rw [if_pos h]; exact condB (fun h => by rw [h]; exact ⟨rfl, rfl⟩) fun h => by rw [h]; exact ⟨rfl, rfl⟩
    · rw [if_neg h, if_pos h1]; exact condB (fun h => by rw [h]; exact ⟨rfl, rfl⟩) fun h => by rw [h]; exact ⟨rfl, rfl⟩
    · rw [if_neg h, if_neg h1]; exact ⟨rfl, rfl⟩
  exact ASpec.pureH H k _ _ rfl rfl

def opF (op : Int) (a b : List Span) (p : Int) : Bool := if op = 0 then hasS a p || hasS b p else if op = 1 then hasS a p && hasS b p else !hasS a p

theorem op_same {op : Int} {a b : List Span} {l : List Int} (hg : Good l) (he : Ends a l ∧ Ends b l) {i : Nat} (hi : i + 1 < l.length) {q : Int} (h1 : l.getD i 0 ≤ q) (h2 : q < l.getD (i + 1) 0) : opF op a b q = opF op a b (l.getD i 0) := by
  simp only [opF]
  rw [ends_same hg he.1 hi h1 h2, ends_same hg he.2 hi h1 h2]

section
variable {op : Int} {a b : List Span} (ha : ok a) (hb : ok b) {l : List Int} (hg : Good l) (he : Ends a l ∧ Ends b l) (hl : l.length ≤ 10000000000)
include ha hb hg he hl

theorem do4m {R : List Span} (hR : ∀ o, Kept (opF op a b) 1000000000 o → o = R) : ∀ (m i : Nat) (o : List Span), m + i = l.length → i < l.length → Kept (opF op a b) (l.getD i 0) o →
    AWP Try.prog 81 0 c321_4 [(0, .int .i64 op), (1, slS a), (2, slS b), (7, .msl 2 0 0 o.length), (8, slI l), (9, .int .i64 i)] [arS o] (q321_2 0 (PA (slS R))) := by
  intro m
  induction m with
  | zero => intro i o hm hi hk; omega
  | succ m ih =>
    intro i o hm hi hk
    have hin : (0 : Int) ≤ (i : Int) ∧ (i : Int) < (l.length : Int) := ⟨by omega, by omega⟩
    have hol := ok_len hk.1
    refine v321_4m _ _ _ _ _ _ _ _ _ ?_
    rw [suc64 (by omega)]
    refine condD (fun hc => needJ hin (needJ hin ?_)) fun hc => ?_
    · rw [Int.toNat_natCast]
      have hi2 : i + 1 < l.length := by omega
      have hlt : l.getD i 0 < l.getD (i + 1) 0 := hg.lt (Nat.lt_succ_self i) hi2
      have l0 := (hg.low _ (memD l 0 i (by omega))).1
      have l1 := (hg.low _ (memD l 0 (i + 1) hi2)).2
      refine ASpec.call (rhas_spec a _ ha _) (Les.refl _) ⟨_, rfl, rfl, ⟨rfl, rfl⟩, ?_⟩
      refine ASpec.call (rhas_spec b _ hb _) (Les.refl _) ⟨_, rfl, rfl, ?_⟩
      refine ASpec.call (told_spec op _ _ _) (Les.refl _) ⟨_, rfl, rfl, ?_⟩
      have hsame : ∀ q, l.getD i 0 ≤ q → q < l.getD (i + 1) 0 → opF op a b q = opF op a b (l.getD i 0) := fun q h1 h2 => op_same hg he hi2 h1 h2
      refine condBn (fun hf => ?_) fun hf => ?_
      · have hf : opF op a b (l.getD i 0) = false := hf
        exact ih (i + 1) o (by omega) hi2 (kept_skip hk (by omega) (fun q h1 h2 => by rw [hsame q h1 h2]; exact hf))
      · have hf : opF op a b (l.getD i 0) = true := hf
        have hk' := kept_put hk l0 hlt l1 (fun q h1 h2 => by rw [hsame q h1 h2]; exact hf)
        have nxt := ih (i + 1) (addS o (l.getD i 0, l.getD (i + 1) 0)) (by omega) hi2 hk'
        have hin2 : (0 : Int) ≤ ((i + 1 : Nat) : Int) ∧ ((i + 1 : Nat) : Int) < (l.length : Int) := ⟨by omega, by omega⟩
        have app : ¬ (0 < o.length ∧ l.getD i 0 ≤ (o.getD (o.length - 1) (0, 0)).2) → AWP Try.prog 81 0 c321_4 [(0, .int .i64 op), (1, slS a), (2, slS b), (7, .msl 2 1 0 (o.length + 1)), (8, slI l), (9, .int .i64 (i + 1 : Nat))]
            [.gone, .arr 2 (.app (.map encS (0, 0) o) (.raw [[.int .i64 (l.getD i 0), .int .i64 (l.getD (i + 1) 0)]]))] (q321_2 0 (PA (slS R))) := by
          intro hc
          have e : addS o (l.getD i 0, l.getD (i + 1) 0) = o ++ [(l.getD i 0, l.getD (i + 1) 0)] := by rw [addS, if_neg hc]
          rw [e] at nxt
          refine AWP.re (ReSt.arr (id := 1) (q' := .map encS (0, 0) (o ++ [(l.getD i 0, l.getD (i + 1) 0)])) rfl (by simp [Seq.toList]; rfl)) ?_
          refine AWP.shape [1] [(0, .int .i64 op), (1, slS a), (2, slS b), (7, .msl 2 0 0 (o ++ [(l.getD i 0, l.getD (i + 1) 0)]).length), (8, slI l), (9, .int .i64 (i + 1 : Nat))] [arS (o ++ [(l.getD i 0, l.getD (i + 1) 0)])] (Sel.one 1 rfl rfl)
            ⟨rfl, Le.refl _, rfl, Le.refl _, rfl, Le.refl _, rfl, ?_, rfl, Le.refl _, rfl, Le.refl _, trivial⟩ nxt
          rw [List.length_append]; exact Le.refl _
        refine v321_7m _ _ _ _ _ _ _ _ _ ?_
        rw [suc64 (by omega), Int.toNat_natCast, Int.toNat_natCast]
        refine condD (fun h => ?_) fun h => needJ hin (needJ hin2 (needJ ⟨rfl, by omega⟩ (app ?_)))
        · by_cases hz : o.length = 0
          · rw [hz] at h
            have : IntKind.wrap .i64 (((0 : Nat) : Int) - 1) = -1 := by rw [wrap64 (by omega) (by omega)]; rfl
            rw [this] at h; omega
          rw [pre64 (by omega) (by omega), Int.toNat_natCast, Nat.zero_add]
          have hlast : lastS (-1) o = (o.getD (o.length - 1) (0, 0)).2 := by
            conv => lhs; rw [split_last o (by omega)]
            exact lastS_append (-1) _ _ _
          have hle := hk.2.1
          refine needJ ⟨by omega, by omega⟩ (needJ (by omega) (needJ hin (condE (fun h2 => needJ ⟨by omega, by omega⟩ (needJ (by omega) (needJ hin2 (needJ ⟨by omega, by omega⟩ (needJ (by omega) ?_))))) fun h2 => needJ hin (needJ hin2 (needJ ⟨rfl, by omega⟩ (app ?_))))))
          · have e : addS o (l.getD i 0, l.getD (i + 1) 0) = o.take (o.length - 1) ++ [((o.getD (o.length - 1) (0, 0)).1, l.getD (i + 1) 0)] := by
              rw [addS, if_pos ⟨by omega, by simp only; omega⟩]
              simp only
              rw [Int.max_eq_right (show (o.getD (o.length - 1) (0, 0)).2 ≤ l.getD (i + 1) 0 by omega)]
            have el : (addS o (l.getD i 0, l.getD (i + 1) 0)).length = o.length := by rw [e]; simp; omega
            have es : o.set (o.length - 1) ((o.getD (o.length - 1) (0, 0)).1, l.getD (i + 1) 0) = addS o (l.getD i 0, l.getD (i + 1) 0) := by
              rw [e, List.set_eq_take_append_cons_drop, if_pos (by omega), show o.length - 1 + 1 = o.length by omega, List.drop_length]
            rw [el] at nxt
            refine AWP.re (ReSt.arr (id := 0) (q' := .map encS (0, 0) (addS o (l.getD i 0, l.getD (i + 1) 0))) rfl ?_) nxt
            rw [← es]
            simp only [Seq.toList, List.map_set]
            rfl
          · rintro ⟨_, h3⟩; omega
        · rintro ⟨h3, _⟩
          rw [pre64 (by omega) (by omega)] at h; omega
    · have hlast := hg.last
      have : i = l.length - 1 := by omega
      rw [this, hlast] at hk
      refine AWP.re (freezeS (by omega)) (AWP.shape [] [(7, slS o)] [] Sel.none ⟨rfl, Le.refl _, trivial⟩ (v321_11s _ _ _ (pa ?_)))
      rw [hR o hk]; exact Le.refl _

theorem do4n {R : List Span} (hR : ∀ o, Kept (opF op a b) 1000000000 o → o = R) : ∀ (m i : Nat), m + i = l.length → i < l.length → Kept (opF op a b) (l.getD i 0) [] →
    AWP Try.prog 81 0 c321_4 [(0, .int .i64 op), (1, slS a), (2, slS b), (7, .sl 0 (.raw []) .nil), (8, slI l), (9, .int .i64 i)] [] (q321_2 0 (PA (slS R))) := by
  intro m
  induction m with
  | zero => intro i hm hi hk; omega
  | succ m ih =>
    intro i hm hi hk
    have hin : (0 : Int) ≤ (i : Int) ∧ (i : Int) < (l.length : Int) := ⟨by omega, by omega⟩
    refine v321_4n _ _ _ _ _ _ _ ?_
    rw [suc64 (by omega)]
    refine condD (fun hc => needJ hin (needJ hin ?_)) fun hc => ?_
    · rw [Int.toNat_natCast]
      have hi2 : i + 1 < l.length := by omega
      have hlt : l.getD i 0 < l.getD (i + 1) 0 := hg.lt (Nat.lt_succ_self i) hi2
      have l0 := (hg.low _ (memD l 0 i (by omega))).1
      have l1 := (hg.low _ (memD l 0 (i + 1) hi2)).2
      refine ASpec.call (rhas_spec a _ ha _) (Les.refl _) ⟨_, rfl, rfl, ⟨rfl, rfl⟩, ?_⟩
      refine ASpec.call (rhas_spec b _ hb _) (Les.refl _) ⟨_, rfl, rfl, ?_⟩
      refine ASpec.call (told_spec op _ _ _) (Les.refl _) ⟨_, rfl, rfl, ?_⟩
      have hsame : ∀ q, l.getD i 0 ≤ q → q < l.getD (i + 1) 0 → opF op a b q = opF op a b (l.getD i 0) := fun q h1 h2 => op_same hg he hi2 h1 h2
      refine condBn (fun hf => ?_) fun hf => ?_
      · have hf : opF op a b (l.getD i 0) = false := hf
        exact ih (i + 1) (by omega) hi2 (kept_skip hk (by omega) (fun q h1 h2 => by rw [hsame q h1 h2]; exact hf))
      · have hf : opF op a b (l.getD i 0) = true := hf
        have hk' := kept_put hk l0 hlt l1 (fun q h1 h2 => by rw [hsame q h1 h2]; exact hf)
        have nxt := do4m ha hb hg he hl hR m (i + 1) (addS [] (l.getD i 0, l.getD (i + 1) 0)) (by omega) hi2 hk'
        refine v321_7n _ _ _ _ _ _ _ ?_
        rw [suc64 (by omega), Int.toNat_natCast, Int.toNat_natCast]
        exact needJ hin (needJ ⟨by omega, by omega⟩ (needJ (by omega) (needJ (by omega) (AWP.re (ReSt.arr (id := 0) (q' := .map encS (0, 0) [(l.getD i 0, l.getD (i + 1) 0)]) rfl rfl) nxt))))
    · have hlast := hg.last
      have : i = l.length - 1 := by omega
      rw [this, hlast] at hk
      refine v321_11n _ _ (pa ?_)
      rw [← hR [] hk]; exact leS0
end

theorem rdo_spec {op : Int} (a b : List Span) (ha : ok a) (hb : ok b) {R : List Span} (hR : ∀ o, Kept (opF op a b) 1000000000 o → o = R) (H : List AObj) : ASpec Try.prog 321 [.int .i64 op, slS a, slS b] H (fun r H' => r = slS R ∧ H' = H) := by
  have k : ASpec Try.prog 321 [.int .i64 op, slS a, slS b] [] (fun r H' => r = slS R ∧ H' = []) := by
    have h1 := ok_len ha
    have h2 := ok_len hb
    have h3 := cutF_len a [0, 1000000000]
    have h4 := cutF_len b (cutF [0, 1000000000] a)
    refine ASpec.sel (s321 _ _ _ _ (ASpec.call (cuts_spec a b (by omega) (by omega) _) (Les.refl _) ⟨_, rfl, rfl, ?_⟩))
    have hg := cuts_good a b
    refine do4n ha hb hg (cuts_ends ha hb) ?_ hR (cutsS a b).length 0 (by omega) hg.first.1 ?_
    · unfold cutsS; simp only [List.length_cons, List.length_nil] at h3; omega
    · rw [hg.first.2]; exact kept_nil _
  exact ASpec.pureH H k _ _ rfl rfl

theorem rmeet_spec (a b : List Span) (ha : ok a) (hb : ok b) (H : List AObj) : ASpec Try.prog 260 [slS a, slS b] H (fun r H' => r = slS (meetS a b) ∧ H' = H) := by
  have k : ASpec Try.prog 260 [slS a, slS b] [] (fun r H' => r = slS (meetS a b) ∧ H' = []) :=
    s260 _ _ _ (ASpec.call (rdo_spec (op := 1) a b ha hb (fun o ho => (meet_eq (a := a) (b := b) ho).symm) _) (Les.refl _) ⟨_, rfl, rfl, rfl, rfl⟩)
  exact ASpec.pureH H k _ _ rfl rfl

/-! ### are they alike? -/

theorem same4 {a b : List Span} {c : Bool} (hl : a.length ≤ 2000000000) (he : a.length = b.length) : ∀ (m i : Nat), m + i = a.length → decide (a.drop i = b.drop i) = c →
    AWP Try.prog 26 0 C.c163_4 [(0, slS a), (1, slS b), (5, .int .i64 i)] [] (C.q163_2 0 (PB c)) := by
  intro m
  induction m with
  | zero =>
    intro i hm h
    refine C.v163_4 _ _ _ _ _ (condD (fun hc => by omega) fun _ => pb ?_)
    rw [List.drop_eq_nil_of_le (by omega), List.drop_eq_nil_of_le (by omega)] at h
    rw [← h]; simp
  | succ m ih =>
    intro i hm h
    rw [dropD a (0, 0) i (by omega), dropD b (0, 0) i (by omega), cons_dec] at h
    refine C.v163_4 _ _ _ _ _ (condD (fun hc => needJ ⟨by omega, by omega⟩ (needJ ⟨by omega, by omega⟩ ?_)) fun hc => by omega)
    rw [Int.toNat_natCast]
    generalize a.getD i (0, 0) = x at h ⊢
    generalize b.getD i (0, 0) = y at h ⊢
    have e : (x.1 == y.1 && (x.2 == y.2 && true)) = decide (x = y) := by
      obtain ⟨x1, x2⟩ := x
      obtain ⟨y1, y2⟩ := y
      rw [Bool.eq_iff_iff]; simp
    rw [e]
    refine condBn (fun h1 => pb ?_) fun h1 => ?_
    · rw [h1, Bool.false_and] at h; exact h
    · rw [h1, Bool.true_and] at h
      rw [suc64 (by omega)]
      exact ih (i + 1) (by omega) h

theorem same_spec (a b : List Span) (hl : a.length ≤ 2000000000) (H : List AObj) : ASpec Try.prog 163 [slS a, slS b] H (fun r H' => r = .bool (decide (a = b)) ∧ H' = H) := by
  have k : ASpec Try.prog 163 [slS a, slS b] [] (fun r H' => r = .bool (decide (a = b)) ∧ H' = []) := by
    refine ASpec.sel (C.s163 _ _ _ (condNe (fun h => pb ?_) fun h => same4 hl (by omega) a.length 0 (by omega) rfl))
    symm
    rw [decide_eq_false]
    rintro rfl; exact h rfl
  exact ASpec.pureH H k _ _ rfl rfl

theorem rwithin_spec (a b : List Span) (ha : ok a) (hb : ok b) (H : List AObj) : ASpec Try.prog 162 [slS a, slS b] H (fun r H' => r = .bool (decide (meetS a b = a)) ∧ H' = H) := by
  have k : ASpec Try.prog 162 [slS a, slS b] [] (fun r H' => r = .bool (decide (meetS a b = a)) ∧ H' = []) := by
    have h1 := ok_len (meet_ok ha hb)
    refine s162 _ _ _ (ASpec.call (rmeet_spec a b ha hb _) (Les.refl _) ⟨_, rfl, rfl, ?_⟩)
    exact ASpec.call (same_spec _ a (by omega) _) (Les.refl _) ⟨_, rfl, rfl, rfl, rfl⟩
  exact ASpec.pureH H k _ _ rfl rfl

theorem meet_sub {a b : List Span} (ha : ok a) (hb : ok b) : meetS a b = a ↔ ∀ p, hasS a p = true → hasS b p = true := by
  constructor
  · intro h p hp
    have := meet_has ha hb p
    rw [h, hp, Bool.true_and] at this
    exact this.symm
  · intro h
    refine ext (meet_ok ha hb) ha (fun p => ?_)
    rw [meet_has ha hb]
    cases hp : hasS a p with
    | false => rfl
    | true => rw [h p hp]; rfl
end Sg
end

section
/- Terms: what the code and the document's code compute. -/

set_option linter.unusedVariables false
set_option linter.unusedSimpArgs false
set_option maxRecDepth 100000
open Go Go.Ab Go.Proofs V S T C
open W (slS leNone cons_dec renS)
open Sp
namespace Tm
open Sg (ok meetS meet_spec meet_ok meet_has subS subS_iff within_spec rwithin_spec meet_sub has_spec same_spec leS0 pa PA)
/-- a term that may be looked at -/
def okT (t : Term) : Prop := ok t.2.1
noncomputable abbrev agT (t : Term) : AV := .agg (encT t)
def fullT (n : List UInt8) : Term := (n, [(0, 1000000000)], true)
noncomputable def meetT (a b : Term) : Term := if a.1 = b.1 then (a.1, meetS a.2.1 b.2.1, a.2.2 && b.2.2) else noT
def emptyT (t : Term) : Bool := !t.2.2 && decide (t.2.1 = [])
noncomputable def withinT (a b : Term) : Bool := decide (a.1 = b.1) && ((!a.2.2 || b.2.2) && subS a.2.1 b.2.1)
def hasT (t : Term) (v : Int) (c : Bool) : Bool := if c = true then hasS t.2.1 v else t.2.2

theorem nameEq (a b : List UInt8) : ((B a).toList == (B b).toList) = decide (a = b) := by rw [B_beq, Bool.eq_iff_iff]; simp

theorem ok_full (n : List UInt8) : okT (fullT n) := by show chkS (-1) [(0, 1000000000)] = true; decide
theorem ok_noT : okT noT := rfl
theorem ok_meet {a b : Term} (ha : okT a) (hb : okT b) : okT (meetT a b) := by
  unfold meetT
  split
  · exact meet_ok ha hb
  · exact ok_noT

theorem all_spec (H : List AObj) : ASpec Try.prog 289 [] H (fun r H' => r = slS [(0, 1000000000)] ∧ H' = H) := by
  have k : ASpec Try.prog 289 [] [] (fun r H' => r = slS [(0, 1000000000)] ∧ H' = []) :=
    ASpec.sel (Sg.s289 _ (pa (Le.sl (s' := Seq.ren _ (.map encS (0, 0) [(0, 1000000000)])) rfl (.inl rfl) (.inr rfl))))
  exact ASpec.pureH H k _ _ rfl rfl

def oneS (v : Int) : List Span := if 0 ≤ v ∧ v < 1000000000 then [(v, v + 1)] else []
theorem one_spec (v : Int) (H : List AObj) : ASpec Try.prog 157 [.int .i64 v] H (fun r H' => r = slS (oneS v) ∧ H' = H) := by
  have k : ASpec Try.prog 157 [.int .i64 v] [] (fun r H' => r = slS (oneS v) ∧ H' = []) := by
    refine ASpec.sel (Sg.s157 _ _ (condD (fun h => pa ?_) fun h1 => condD (fun h => pa ?_) fun h2 => pa ?_))
    · rw [oneS, if_neg (by omega)]; exact leS0
    · rw [oneS, if_neg (by omega)]; exact leS0
    · rw [oneS, if_pos (by omega), wrap64 (by omega) (by omega)]
      exact Le.sl (s' := Seq.ren _ (.map encS (0, 0) [(v, v + 1)])) rfl (.inl rfl) (.inr rfl)
  exact ASpec.pureH H k _ _ rfl rfl

theorem full_spec (n : List UInt8) (H : List AObj) : ASpec Try.prog 200 [.str (B n)] H (fun r H' => r = agT (fullT n) ∧ H' = H) := by
  have k : ASpec Try.prog 200 [.str (B n)] [] (fun r H' => r = agT (fullT n) ∧ H' = []) :=
    ASpec.sel (Sg.s200 _ _ (ASpec.call (all_spec _) (Les.refl _) ⟨_, rfl, rfl, pa (Le.refl _)⟩))
  exact ASpec.pureH H k _ _ rfl rfl

theorem both_spec (a b : Term) (c : Bool) (ha : okT a) (hb : okT b) (H : List AObj) :
    ASpec Try.prog 257 [agT a, agT b, .fn (258 : FuncId) [], .bool c] H (fun r H' => r = agT (if a.1 = b.1 then (a.1, meetS a.2.1 b.2.1, c) else noT) ∧ H' = H) := by
  have k : ASpec Try.prog 257 [agT a, agT b, .fn (258 : FuncId) [], .bool c] [] (fun r H' => r = agT (if a.1 = b.1 then (a.1, meetS a.2.1 b.2.1, c) else noT) ∧ H' = []) := by
    refine ASpec.sel (Sg.s257 _ _ _ _ (condBn (fun h => ?_) fun h => ?_))
    · rw [nameEq] at h
      rw [if_neg (of_decide_eq_false h)]
      exact pa (Le.agg ⟨Le.refl _, leS0, Le.refl _, trivial⟩)
    · rw [nameEq] at h
      rw [if_pos (of_decide_eq_true h)]
      exact ASpec.call (meet_spec ha hb _) (Les.refl _) ⟨_, rfl, rfl, ⟨rfl, rfl⟩, pa (Le.refl _)⟩
  exact ASpec.pureH H k _ _ rfl rfl

theorem meetT_spec (a b : Term) (ha : okT a) (hb : okT b) (H : List AObj) : ASpec Try.prog 160 [agT a, agT b] H (fun r H' => r = agT (meetT a b) ∧ H' = H) := by
  have k : ASpec Try.prog 160 [agT a, agT b] [] (fun r H' => r = agT (meetT a b) ∧ H' = []) := by
    refine ASpec.sel (Sg.s160 _ _ _ (condB (fun h => ?_) fun h => ?_))
    · refine ASpec.call (both_spec a b b.2.2 ha hb _) (Les.refl _) ⟨_, rfl, rfl, pa ?_⟩
      rw [meetT, h, Bool.true_and]; exact Le.refl _
    · refine ASpec.call (both_spec a b false ha hb _) (Les.refl _) ⟨_, rfl, rfl, pa ?_⟩
      rw [meetT, h, Bool.false_and]; exact Le.refl _
  exact ASpec.pureH H k _ _ rfl rfl

theorem emptyT_len (t : Term) : ((t.2.1.length : Int) == 0) = decide (t.2.1 = []) := by
  rw [Bool.eq_iff_iff]
  simp [List.length_eq_zero_iff]

theorem empty_spec (t : Term) (H : List AObj) : ASpec Try.prog 159 [agT t] H (fun r H' => r = .bool (emptyT t) ∧ H' = H) := by
  have k : ASpec Try.prog 159 [agT t] [] (fun r H' => r = .bool (emptyT t) ∧ H' = []) := by
    refine ASpec.sel (Sg.s159 _ _ (condBn (fun h => pa ?_) fun h => pa ?_))
    · rw [emptyT_len, emptyT, h, Bool.not_false, Bool.true_and]; exact Le.refl _
    · rw [emptyT, h, Bool.not_true, Bool.false_and]; exact Le.refl _
  exact ASpec.pureH H k _ _ rfl rfl

theorem rempty_spec (t : Term) (H : List AObj) : ASpec Try.prog 34 [agT t] H (fun r H' => r = .bool (emptyT t) ∧ H' = H) := by
  have k : ASpec Try.prog 34 [agT t] [] (fun r H' => r = .bool (emptyT t) ∧ H' = []) := by
    refine ASpec.sel (Sg.s34 _ _ (condBn (fun h => pa ?_) fun h => pa ?_))
    · rw [emptyT_len, emptyT, h, Bool.not_false, Bool.true_and]; exact Le.refl _
    · rw [emptyT, h, Bool.not_true, Bool.false_and]; exact Le.refl _
  exact ASpec.pureH H k _ _ rfl rfl

theorem within_specT (a b : Term) (ha : okT a) (hb : okT b) (H : List AObj) : ASpec Try.prog 161 [agT a, agT b] H (fun r H' => r = .bool (withinT a b) ∧ H' = H) := by
  have k : ASpec Try.prog 161 [agT a, agT b] [] (fun r H' => r = .bool (withinT a b) ∧ H' = []) := by
    refine ASpec.sel (Sg.s161 _ _ _ (condB (fun h => condBn (fun h1 => ?_) fun h1 => condB (fun h2 => ?_) fun h2 => pa ?_) fun h => pa ?_))
    · rw [nameEq] at h
      refine ASpec.call (within_spec _ _ ha hb _) (Les.refl _) ⟨_, rfl, rfl, pa ?_⟩
      rw [withinT, h, h1]; exact Le.refl _
    · rw [nameEq] at h
      refine ASpec.call (within_spec _ _ ha hb _) (Les.refl _) ⟨_, rfl, rfl, pa ?_⟩
      rw [withinT, h, h1, h2]; exact Le.refl _
    · rw [nameEq] at h
      rw [withinT, h, h1, h2]; exact Le.refl _
    · rw [nameEq] at h
      rw [withinT, h]; exact Le.refl _
  exact ASpec.pureH H k _ _ rfl rfl

theorem has_specT (t : Term) (v : Int) (c : Bool) (ht : okT t) (H : List AObj) : ASpec Try.prog 155 [agT t, .int .i64 v, .bool c] H (fun r H' => r = .bool (hasT t v c) ∧ H' = H) := by
  have k : ASpec Try.prog 155 [agT t, .int .i64 v, .bool c] [] (fun r H' => r = .bool (hasT t v c) ∧ H' = []) := by
    refine ASpec.sel (Sg.s155 _ _ _ _ (condBn (fun h => pa ?_) fun h => ?_))
    · rw [hasT, if_neg (by rw [h]; simp)]; exact Le.refl _
    · refine ASpec.call (has_spec _ _ ht _) (Les.refl _) ⟨_, rfl, rfl, pa ?_⟩
      rw [hasT, if_pos h]; exact Le.refl _
  exact ASpec.pureH H k _ _ rfl rfl

/-- may a term be? -/
def chkT (t : Term) : Bool := fitM t.1 && spanOk t.2.1
theorem check_spec (t : Term) (h1 : t.1.length ≤ lim) (h2 : t.2.1.length ≤ lim) (H : List AObj) : ASpec Try.prog 158 [agT t] H (fun r H' => r = .bool (chkT t) ∧ H' = H) := by
  unfold lim at h1
  have k : ASpec Try.prog 158 [agT t] [] (fun r H' => r = .bool (chkT t) ∧ H' = []) := by
    refine ASpec.sel (Sg.s158 _ _ (ASpec.call (fit_spec (l := t.1) (by unfold big; omega) _) (Les.refl _) ⟨_, rfl, rfl, condB (fun h => ?_) fun h => pa ?_⟩))
    · refine ASpec.call (spanCheck_spec _ h2 _) (Les.refl _) ⟨_, rfl, rfl, pa ?_⟩
      rw [chkT, h, Bool.true_and]; exact Le.refl _
    · rw [chkT, h, Bool.false_and]; exact Le.refl _
  exact ASpec.pureH H k _ _ rfl rfl

/-- more than is looked at -/
def largeT (t : Term) : Bool := decide (60 < t.2.1.length) || decide (200 < t.1.length)
theorem large_spec (t : Term) (H : List AObj) : ASpec Try.prog 153 [agT t] H (fun r H' => r = .bool (largeT t) ∧ H' = H) := by
  have k : ASpec Try.prog 153 [agT t] [] (fun r H' => r = .bool (largeT t) ∧ H' = []) := by
    refine ASpec.sel (Sg.s153 _ _ (condD (fun h => pa ?_) fun h => pa ?_))
    · rw [largeT, decide_eq_true (by omega), Bool.true_or]; exact Le.refl _
    · rw [largeT, show decide (60 < t.2.1.length) = false from decide_eq_false (by omega), Bool.false_or, B_size]
      have e : decide ((t.1.length : Int) > 200) = decide (200 < t.1.length) := by rw [decide_eq_decide]; omega
      rw [e]; exact Le.refl _
  exact ASpec.pureH H k _ _ rfl rfl

/-- within, by the document -/
theorem rwithin_specT (a b : Term) (ha : okT a) (hb : okT b) (H : List AObj) : ASpec Try.prog 33 [agT a, agT b] H (fun r H' => r = .bool (withinT a b) ∧ H' = H) := by
  have hsub : decide (meetS a.2.1 b.2.1 = a.2.1) = subS a.2.1 b.2.1 := by
    rw [Bool.eq_iff_iff, decide_eq_true_eq, meet_sub ha hb, subS_iff ha hb]
  have k : ASpec Try.prog 33 [agT a, agT b] [] (fun r H' => r = .bool (withinT a b) ∧ H' = []) := by
    refine ASpec.sel (Sg.s33 _ _ _ (condB (fun h => ?_) fun h => pa ?_))
    · rw [nameEq] at h
      refine ASpec.call (rwithin_spec _ _ ha hb _) (Les.refl _) ⟨_, rfl, rfl, ?_⟩
      rw [hsub]
      refine condB (fun h1 => condB (fun h2 => pa ?_) fun h2 => pa ?_) fun h1 => pa ?_
      · rw [withinT, h, h1, h2, Bool.or_true]; exact Le.refl _
      · rw [withinT, h, h1, h2, Bool.or_false, Bool.and_true, Bool.true_and]; exact Le.refl _
      · rw [withinT, h1, Bool.and_false, Bool.and_false]; exact Le.refl _
    · rw [nameEq] at h
      rw [withinT, h]; exact Le.refl _
  exact ASpec.pureH H k _ _ rfl rfl

theorem rsame_specT (a b : Term) (ha : a.2.1.length ≤ 2000000000) (H : List AObj) : ASpec Try.prog 36 [agT a, agT b] H (fun r H' => r = .bool (decide (a = b)) ∧ H' = H) := by
  have k : ASpec Try.prog 36 [agT a, agT b] [] (fun r H' => r = .bool (decide (a = b)) ∧ H' = []) := by
    refine ASpec.sel (Sg.s36 _ _ _ (condB (fun h => Sg.condQ (fun h1 => ?_) fun h1 => pa ?_) fun h => pa ?_))
    · rw [nameEq] at h
      refine ASpec.call (same_spec _ _ ha _) (Les.refl _) ⟨_, rfl, rfl, pa ?_⟩
      have e : decide (a.2.1 = b.2.1) = decide (a = b) := by
        obtain ⟨a1, a2, a3⟩ := a
        obtain ⟨b1, b2, b3⟩ := b
        have h := of_decide_eq_true h
        simp only at h h1 ⊢
        subst h h1
        rw [decide_eq_decide]; simp
      rw [e]; exact Le.refl _
    · rw [decide_eq_false (by rintro rfl; exact h1 rfl)]; exact Le.refl _
    · rw [nameEq] at h
      rw [decide_eq_false (by rintro rfl; exact (of_decide_eq_false h) rfl)]; exact Le.refl _
  exact ASpec.pureH H k _ _ rfl rfl

end Tm
end

section
/- A trail: what its functions do. -/

set_option linter.unusedVariables false
set_option linter.unusedSimpArgs false
set_option maxRecDepth 100000
open Go Go.Ab Go.Proofs V S T C
open W (slS)
open Sp
namespace Tl
open Tm (okT agT fullT meetT meetT_spec ok_meet ok_full full_spec emptyT empty_spec withinT within_specT hasT has_specT chkT nameEq oneS one_spec)
section
variable {H : List AObj} {p a b : Nat} {E E' : List TE} {L L' : List Int}

abbrev At (H : List AObj) (p a b : Nat) (E : List TE) (L : List Int) : Prop :=
  H[p]? = some (tO E L a b) ∧ H[a]? = some .tok ∧ H[b]? = some .tok ∧ p ≠ a ∧ p ≠ b ∧ a ≠ b

theorem hobjs (h : At H p a b E L) : ∀ i (hi : i < (HT E L).length), H[[p, a, b].getD i 0]? = some (AObj.ren (callR [p, a, b] H.length) (HT E L)[i]) := by
  intro i hi
  match i, hi with
  | 0, _ => exact h.1
  | 1, _ => exact h.2.1
  | 2, _ => exact h.2.2.1
theorem nd (h : At H p a b E L) : [p, a, b].Nodup := by
  obtain ⟨_, _, _, h1, h2, h3⟩ := h
  simp [h1, h2, h3]

theorem liftG {f : FuncId} {args args' : List AV} {r0 r' : AV} {Hl2 Hx : List AObj} (h : At H p a b E L) (k : ASpec Try.prog f args (HT E L) (fun r H' => r = r0 ∧ H' = Hl2))
    (ha : args.map (AV.ren (callR [p, a, b] H.length)) = args') (hr : AV.ren (callR [p, a, b] H.length) r0 = r') (hx : graftH (callR [p, a, b] H.length) [p, a, b] H Hl2 = Hx) :
    ASpec Try.prog f args' H (fun r H' => r = r' ∧ H' = Hx) := ASpec.subH [p, a, b] H Hx k args' r' (nd h) rfl ha hr (hobjs h) hx

noncomputable abbrev hTt (H : List AObj) (p a b : Nat) (E : List TE) (L : List Int) : List AObj := ((H.set a .gone).set b .gone).set p (tO E L H.length (H.length + 1)) ++ [.tok, .tok]

theorem gSame (h : At H p a b E L) : graftH (callR [p, a, b] H.length) [p, a, b] H (HT E L) = H := by
  have e : graftH (callR [p, a, b] H.length) [p, a, b] H (HT E L) = ((H.set p (tO E L a b)).set a .tok).set b .tok ++ [] := rfl
  rw [e, set_same h.1, set_same h.2.1, set_same h.2.2.1, List.append_nil]

theorem gT (h : At H p a b E L) : graftH (callR [p, a, b] H.length) [p, a, b] H [tO E' L' 3 4, .gone, .gone, .tok, .tok] = hTt H p a b E' L' := by
  have e : graftH (callR [p, a, b] H.length) [p, a, b] H [tO E' L' 3 4, .gone, .gone, .tok, .tok] = ((H.set p (tO E' L' H.length (H.length + 1))).set a .gone).set b .gone ++ [.tok, .tok] := rfl
  obtain ⟨_, _, h3, n1, n2, n3⟩ := h
  rw [e, hTt, List.set_comm _ _ n1, List.set_comm _ _ n2]

theorem atL (E : List TE) (L : List Int) (q : List AObj) : At (tO E L 1 2 :: .tok :: .tok :: q) 0 1 2 E L := ⟨rfl, rfl, rfl, by decide, by decide, by decide⟩

/-- ahead of a call, an object's cells are spelled otherwise -/
theorem ASpec.inCell {P : Program} {f : FuncId} {args : List AV} {Post : AV → List AObj → Prop} (id : Nat) {cs : List AV} (cs' : List AV) (ho : H[id]? = some (.cells cs)) (h : Les cs cs') (k : ASpec P f args (H.set id (.cells cs')) Post) : ASpec P f args H Post := by
  intro M loc w vs ht hr hv
  have hl := h.len
  obtain ⟨r1, r2⟩ := hr.respell id (.cells cs) (.cells cs') ho (by intro h; cases h) (by intro h; cases h) (fun hO => by
    obtain ⟨b, vs, T, fr, e1, e2, e3, e4, e5, hs, e6⟩ := hO
    exact ⟨b, vs, T, fr, e1, e2, e3, e4, e5, by omega, fun i hi => h.get i (by omega) hi _ _ _ _ (e6 i (by omega))⟩)
  refine (k M loc w vs (ht.step hr r2) r1 hv).mono fun e w' ⟨v, r, H', M', loc', he, hP, q1, q2, q3⟩ => ⟨v, r, H', M', loc', he, hP, q1, q2, StepN.trans r2 q3 (by simp)⟩

/-- at the end of a call -/
theorem ASpec.cellEnd {P : Program} {f : FuncId} {args : List AV} {Post : AV → List AObj → Prop}
    (h : ASpec P f args H (fun r H' => ∃ id cs cs', H'[id]? = some (.cells cs) ∧ Les cs cs' ∧ Post r (H'.set id (.cells cs')))) : ASpec P f args H Post := by
  intro M loc w vs ht hr hv
  refine (h M loc w vs ht hr hv).mono fun e w' hh => ?_
  obtain ⟨v, r, H', M', loc', he, ⟨id, cs, cs', ho, hq, hP⟩, r1, r2, r3⟩ := hh
  have hl := hq.len
  obtain ⟨k1, k2⟩ := r1.respell id (.cells cs) (.cells cs') ho (by intro h; cases h) (by intro h; cases h) (fun hO => by
    obtain ⟨b, vs, T, fr, e1, e2, e3, e4, e5, hs, e6⟩ := hO
    exact ⟨b, vs, T, fr, e1, e2, e3, e4, e5, by omega, fun i hi => hq.get i (by omega) hi _ _ _ _ (e6 i (by omega))⟩)
  exact ⟨v, r, _, M', loc', he, hP, k1, r2.keeps (k2.keeps r1), StepN.trans r3 k2 r3.len⟩

/-! ### looks -/

theorem level_spec (h : At H p a b E L) : ASpec Try.prog 30 [.ptr p 0] H (fun r H' => r = .int .i64 L.length ∧ H' = H) := by
  have k : ASpec Try.prog 30 [.ptr 0 0] (HT E L) (fun r H' => r = .int .i64 L.length ∧ H' = HT E L) := s30 _ _ _ ⟨rfl, rfl⟩
  exact liftG h k rfl rfl (gSame h)
theorem len_spec (h : At H p a b E L) : ASpec Try.prog 80 [.ptr p 0] H (fun r H' => r = .int .i64 E.length ∧ H' = H) := by
  have k : ASpec Try.prog 80 [.ptr 0 0] (HT E L) (fun r H' => r = .int .i64 E.length ∧ H' = HT E L) := s80 _ _ _ ⟨rfl, rfl⟩
  exact liftG h k rfl rfl (gSame h)

noncomputable def knowF (s : List UInt8) (o : Term) : List TE → Term
  | [] => o
  | e :: r => if e.1.1 = s then knowF s (meetT o e.1) r else knowF s o r
def okTE (E : List TE) : Prop := E.length ≤ lim ∧ ∀ e ∈ E, okT e.1

theorem know_ok : ∀ {E : List TE} {s : List UInt8} {o : Term}, (∀ e ∈ E, okT e.1) → okT o → okT (knowF s o E)
  | [], _, _, _, h => h
  | e :: r, s, o, hE, h => by
    simp only [knowF]
    split
    · exact know_ok (fun x hx => hE x (by simp [hx])) (ok_meet h (hE e (by simp)))
    · exact know_ok (fun x hx => hE x (by simp [hx])) h

theorem getD_mem {α : Type} {l : List α} {d : α} {i : Nat} (h : i < l.length) : l.getD i d ∈ l := by
  rw [List.getD_eq_getElem?_getD, List.getElem?_eq_getElem h]; exact List.getElem_mem h

theorem know5 {l : List TE} (hl : okTE l) {s : List UInt8} {R : Term} : ∀ (m i : Nat) (o : Term), m + i = l.length → okT o → knowF s o (l.drop i) = R →
    AWP Try.prog 44 3 c86_5 [(2, .str (B s)), (6, .ptr 3 0), (7, .ptr 4 0), (27, .sl 5 (.map encTE noTE l) .none), (28, .int .i64 l.length), (29, .int .i64 i)] (HT E L ++ [.cells [.str ⟨#[]⟩, .sl 0 (.raw []) .nil, .bool false], .cells (encT o)])
      (q86_2 3 (fun r H' => ∃ q H2 r2, Sel (HT E L).length q H' H2 ∧ Le r (AV.ren (selR q H'.length) r2) ∧ (r2 = agT R ∧ H2 = HT E L))) := by
  have hl1 := hl.1
  unfold lim at hl1
  intro m
  induction m with
  | zero =>
    intro i o hm ho h
    refine v86_5 _ _ _ _ _ _ _ _ _ (condD (fun hc => by omega) fun _ => ?_)
    rw [List.drop_eq_nil_of_le (by omega)] at h
    have h' : o = R := h
    subst h'
    refine ⟨[0, 1, 2], HT E L, agT o, ⟨by decide, rfl, by show 3 ≤ 3; omega, fun j hj => ?_, fun j hj => ?_⟩, Le.refl _, rfl, rfl⟩
    · match j, hj with
      | 0, _ | 1, _ | 2, _ => rfl
    · match j, hj with
      | 0, _ | 1, _ | 2, _ => exact .inl rfl
  | succ m ih =>
    intro i o hm ho h
    refine v86_5 _ _ _ _ _ _ _ _ _ (condD (fun hc => needJ ⟨by omega, by omega⟩ ?_) fun hc => by omega)
    rw [Int.toNat_natCast]
    have hx := hl.2 _ (getD_mem (d := noTE) (show i < l.length by omega))
    rw [dropD l noTE i (by omega)] at h
    generalize l.getD i noTE = x at h hx ⊢
    simp only [knowF] at h
    refine condB (fun h1 => ?_) fun h1 => ?_
    · rw [nameEq] at h1
      rw [if_pos (of_decide_eq_true h1)] at h
      refine ASpec.call (meetT_spec o x.1 ho hx _) (Les.refl _) ⟨meetT o x.1, rfl, rfl, ?_⟩
      rw [succ64 (by omega)]
      refine AWP.shape [0, 1, 2, 3, 4] [(2, .str (B s)), (6, .ptr 3 0), (7, .ptr 4 0), (27, .sl 5 (.map encTE noTE l) .none), (28, .int .i64 l.length), (29, .int .i64 (i + 1 : Nat))] (HT E L ++ [.cells [.str ⟨#[]⟩, .sl 0 (.raw []) .nil, .bool false], .cells (encT (meetT o x.1))])
        ⟨by decide, rfl, by show 3 ≤ 5; omega, fun j hj => ?_, fun j hj => ?_⟩ ⟨rfl, Le.refl _, rfl, Le.refl _, rfl, Le.refl _, rfl, Le.refl _, rfl, Le.refl _, rfl, Le.refl _, trivial⟩ (ih (i + 1) _ (by omega) (ok_meet ho hx) h)
      · match j, hj with
        | 0, _ | 1, _ | 2, _ => rfl
      · match j, hj with
        | 0, _ | 1, _ | 2, _ | 3, _ | 4, _ => exact .inl rfl
    · rw [nameEq] at h1
      rw [if_neg (of_decide_eq_false h1)] at h
      rw [succ64 (by omega)]
      refine AWP.shape [0, 1, 2, 3, 4] [(2, .str (B s)), (6, .ptr 3 0), (7, .ptr 4 0), (27, .sl 5 (.map encTE noTE l) .none), (28, .int .i64 l.length), (29, .int .i64 (i + 1 : Nat))] (HT E L ++ [.cells [.str ⟨#[]⟩, .sl 0 (.raw []) .nil, .bool false], .cells (encT o)])
        ⟨by decide, rfl, by show 3 ≤ 5; omega, fun j hj => ?_, fun j hj => ?_⟩ ⟨rfl, Le.refl _, rfl, Le.refl _, rfl, Le.refl _, rfl, Le.refl _, rfl, Le.refl _, rfl, Le.refl _, trivial⟩ (ih (i + 1) _ (by omega) ho h)
      · match j, hj with
        | 0, _ | 1, _ | 2, _ => rfl
      · match j, hj with
        | 0, _ | 1, _ | 2, _ | 3, _ | 4, _ => exact .inl rfl

noncomputable def knowM (E : List TE) (s : List UInt8) : Term := knowF s (fullT s) E
theorem knowM_ok (h : okTE E) (s : List UInt8) : okT (knowM E s) := know_ok h.2 (ok_full s)

theorem knowAt_spec (h : At H p a b E L) (hE : okTE E) (s : List UInt8) : ASpec Try.prog 86 [.ptr p 0, .int .i64 E.length, .str (B s)] H (fun r H' => r = agT (knowM E s) ∧ H' = H) := by
  have k : ASpec Try.prog 86 [.ptr 0 0, .int .i64 E.length, .str (B s)] (HT E L) (fun r H' => r = agT (knowM E s) ∧ H' = HT E L) := by
    refine ASpec.sel (s86 _ _ _ _ _ (ASpec.call (full_spec s _) (Les.refl _) ⟨fullT s, rfl, rfl, needJ (by split <;> split <;> omega) ?_⟩))
    have e1 : (if (if ((E.length : Int)) < E.length then (E.length : Int) else E.length) > 0 then (if ((E.length : Int)) < E.length then (E.length : Int) else E.length) else 0) = E.length := by split <;> split <;> omega
    rw [e1, Int.toNat_natCast, List.take_length, List.drop_zero]
    exact know5 hE E.length 0 (fullT s) (by omega) (ok_full s) rfl
  exact liftG h k rfl rfl (gSame h)

theorem know_spec (h : At H p a b E L) (hE : okTE E) (s : List UInt8) : ASpec Try.prog 29 [.ptr p 0, .str (B s)] H (fun r H' => r = agT (knowM E s) ∧ H' = H) := by
  have k : ASpec Try.prog 29 [.ptr 0 0, .str (B s)] (HT E L) (fun r H' => r = agT (knowM E s) ∧ H' = HT E L) := by
    refine ASpec.sel (s29 _ _ _ _ (ASpec.call (len_spec (atL E L _)) (Les.refl _) ⟨_, rfl, rfl, ?_⟩))
    refine ASpec.call (knowAt_spec (atL E L _) hE s) (Les.refl _) ⟨knowM E s, rfl, rfl, ?_⟩
    refine ⟨[0, 1, 2], HT E L, agT (knowM E s), ⟨by decide, rfl, by show 3 ≤ 3; omega, fun j hj => ?_, fun j hj => ?_⟩, Le.refl _, rfl, rfl⟩
    · match j, hj with
      | 0, _ | 1, _ | 2, _ => rfl
    · match j, hj with
      | 0, _ | 1, _ | 2, _ => exact .inl rfl
  exact liftG h k rfl rfl (gSame h)

end
end Tl
end
