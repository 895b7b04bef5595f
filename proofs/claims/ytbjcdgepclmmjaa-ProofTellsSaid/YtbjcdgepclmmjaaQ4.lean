/- Q4: several of this proof's own texts, one behind the other: what each proves stands at its head. -/
import Derived.Test.YtbjcdgepclmmjaaProg
import Derived.Test.YtbjcdgepclmmjaaQ3
section
/- Printed: what the code of functions 226, 123, 152, 25, 24, 18, 20, 23, 21, 22, 228, 309, 125, 3, 19 asks for, by the framework's own reading of it; each line is checked against the code. -/

set_option linter.unusedVariables false
set_option maxRecDepth 100000
set_option maxHeartbeats 4000000
open Go Go.Ab Go.Proofs
namespace Pf
noncomputable section

noncomputable def retP : List (Nat × Ret) := [
  (226, ⟨Bool, fun _ _ x => .bool x, fun _ H _ => H⟩), (123, ⟨Bool, fun _ _ x => .bool x, fun _ H _ => H⟩), (152, ⟨Bool, fun _ _ x => .bool x, fun _ H _ => H⟩), (25, ⟨Bool, fun _ _ x => .bool x, fun _ H _ => H⟩), (24, ⟨Bool, fun _ _ x => .bool x, fun _ H _ => H⟩), (18, ⟨Bool, fun _ _ x => .bool x, fun _ H _ => H⟩), (19, ⟨Unit, fun _ _ _ => .bool true, fun _ H _ => H⟩),
  (20, ⟨List UInt8, fun _ _ x => .sl 1 (.map encB 0 x) .none, fun _ H _ => H⟩),
  (21, ⟨List T.St × Int, fun _ _ x => .tup [.sl 6 (.map T.encSt T.noSt x.1) .none, .int .i64 x.2], fun _ H _ => H⟩),
  (22, ⟨List T.St × Int, fun _ _ x => .tup [.sl 6 (.map T.encSt T.noSt x.1) .none, .int .i64 x.2], fun _ H _ => H⟩),
  (23, ⟨ByteArray, fun _ _ x => .str x, fun _ H _ => H⟩),
  (125, ⟨List T.St, fun _ _ x => .sl 6 (.map T.encSt T.noSt x) .none, fun _ H _ => H⟩),
  (228, ⟨Unit, fun _ H _ => .fn 309 [.ptr H.length 0], fun a H _ => H ++ [.cells [a.getD 0 .bad]]⟩),
  (yieldKey, ⟨List Bool, fun _ _ _ => .bool true, fun _ H x => H.set 0 (.arr 1 (.map T.encBo false x))⟩)]
noncomputable def rets : FuncId → List Ret := lookupR (retP ++ C.retC ++ V.retL)

-- 226
noncomputable def l226 : Nat → List Nat
  | 2 => [1, 2, 5]
  | 3 => [1, 2, 5, 6]
  | _ => []
noncomputable def u226 : Nat → Bool
  | 2 => true
  | 3 => true
  | _ => false
noncomputable def m226 : Nat → Bool
  | _ => false
noncomputable def g226 : Cfg := { N := 85, live := l226, cut := u226, mu := m226, ret := rets }
noncomputable def c226 : Go.Code := Go.Ab.bodyOf Go.Proofs.Try.f226
noncomputable def q226_0 : Nat → (AV → List AObj → Prop) → AQ := fun (n : Nat) (Post : AV → List AObj → Prop) => endQ Try.prog (resultsOf Try.f226) Post
noncomputable def c226_2 : Go.Code := codeSnd (codeSnd c226)
theorem s226 : ∀ (x : T.St) (i : Int) (Post : AV → List AObj → Prop),
  condP (ByteArray.toList { data := List.toArray (Prod.fst (Prod.snd (Prod.snd (Prod.snd x)))) } == ByteArray.toList { data := #[] })
      (AWP Try.prog 85 0 c226_2 [(1, AV.int IntKind.i64 i), (2, AV.ptr 0 0), (5, AV.bool (Prod.fst (Prod.snd (Prod.snd x)) == (0 : Int)))]
        [AObj.cells
        [AV.int IntKind.i64 (Prod.fst x), AV.str { data := List.toArray (Prod.fst (Prod.snd x)) }, AV.int IntKind.i64 (Prod.fst (Prod.snd (Prod.snd x))),
        AV.str { data := List.toArray (Prod.fst (Prod.snd (Prod.snd (Prod.snd x)))) }, AV.int IntKind.i64 (Prod.fst (Prod.snd (Prod.snd (Prod.snd (Prod.snd x))))),
        AV.int IntKind.i64 (Prod.snd (Prod.snd (Prod.snd (Prod.snd (Prod.snd x)))))]]
        (q226_0 0 Post))
      (AWP Try.prog 85 0 c226_2 [(1, AV.int IntKind.i64 i), (2, AV.ptr 0 0), (5, AV.bool false)]
        [AObj.cells
        [AV.int IntKind.i64 (Prod.fst x), AV.str { data := List.toArray (Prod.fst (Prod.snd x)) }, AV.int IntKind.i64 (Prod.fst (Prod.snd (Prod.snd x))),
        AV.str { data := List.toArray (Prod.fst (Prod.snd (Prod.snd (Prod.snd x)))) }, AV.int IntKind.i64 (Prod.fst (Prod.snd (Prod.snd (Prod.snd (Prod.snd x))))),
        AV.int IntKind.i64 (Prod.snd (Prod.snd (Prod.snd (Prod.snd (Prod.snd x)))))]]
        (q226_0 0 Post)) →
    ASpec Try.prog 226 [AV.agg (T.encSt x), AV.int IntKind.i64 i] [] Post := fun x i Post h => Go.Ab.ASpec.of_vc g226 Go.Proofs.Try.func226 (by kernel_rfl) (by kernel_rfl) (by kernel_rfl) (Go.Ab.kc (by kernel_rfl) h)
noncomputable def c226_3 : Go.Code := codeSnd c226_2
theorem v226_2 : ∀ (x : T.St) (i : Int) (p : Bool) (n : Nat) (Post : AV → List AObj → Prop),
  condP (Prod.fst (Prod.snd (Prod.snd (Prod.snd (Prod.snd x)))) == (0 : Int))
      (AWP Try.prog 85 n c226_3
        [(1, AV.int IntKind.i64 i), (2, AV.ptr 0 0), (5, AV.bool p), (6, AV.bool (Prod.snd (Prod.snd (Prod.snd (Prod.snd (Prod.snd x)))) == (0 : Int)))]
        [AObj.cells
        [AV.int IntKind.i64 (Prod.fst x), AV.str { data := List.toArray (Prod.fst (Prod.snd x)) }, AV.int IntKind.i64 (Prod.fst (Prod.snd (Prod.snd x))),
        AV.str { data := List.toArray (Prod.fst (Prod.snd (Prod.snd (Prod.snd x)))) }, AV.int IntKind.i64 (Prod.fst (Prod.snd (Prod.snd (Prod.snd (Prod.snd x))))),
        AV.int IntKind.i64 (Prod.snd (Prod.snd (Prod.snd (Prod.snd (Prod.snd x)))))]]
        (q226_0 n Post))
      (AWP Try.prog 85 n c226_3 [(1, AV.int IntKind.i64 i), (2, AV.ptr 0 0), (5, AV.bool p), (6, AV.bool false)]
        [AObj.cells
        [AV.int IntKind.i64 (Prod.fst x), AV.str { data := List.toArray (Prod.fst (Prod.snd x)) }, AV.int IntKind.i64 (Prod.fst (Prod.snd (Prod.snd x))),
        AV.str { data := List.toArray (Prod.fst (Prod.snd (Prod.snd (Prod.snd x)))) }, AV.int IntKind.i64 (Prod.fst (Prod.snd (Prod.snd (Prod.snd (Prod.snd x))))),
        AV.int IntKind.i64 (Prod.snd (Prod.snd (Prod.snd (Prod.snd (Prod.snd x)))))]]
        (q226_0 n Post)) →
    AWP Try.prog 85 n c226_2 [(1, AV.int IntKind.i64 i), (2, AV.ptr 0 0), (5, AV.bool p)] [AObj.cells (T.encSt x)] (q226_0 n Post) := fun x i p n Post h => Go.Ab.awp_sound g226 n _ _ _ _ (Go.Ab.kc (by kernel_rfl) h)
theorem v226_3 : ∀ (x : T.St) (i : Int) (p q : Bool) (n : Nat) (Post : AV → List AObj → Prop),
  condP (Prod.fst x == (1 : Int))
      (condP (Prod.fst x == (1 : Int))
        (ASpec Try.prog 154 [AV.str { data := List.toArray (Prod.fst (Prod.snd x)) }]
        [AObj.cells
        [AV.int IntKind.i64 (Prod.fst x), AV.str { data := List.toArray (Prod.fst (Prod.snd x)) }, AV.int IntKind.i64 (Prod.fst (Prod.snd (Prod.snd x))),
        AV.str { data := List.toArray (Prod.fst (Prod.snd (Prod.snd (Prod.snd x)))) }, AV.int IntKind.i64 (Prod.fst (Prod.snd (Prod.snd (Prod.snd (Prod.snd x))))),
        AV.int IntKind.i64 (Prod.snd (Prod.snd (Prod.snd (Prod.snd (Prod.snd x)))))]]
        fun (r : AV) (H' : List AObj) =>
        ∃ (x_1 : Bool),
        r = AV.bool x_1 ∧
        H' =
        [AObj.cells
        [AV.int IntKind.i64 (Prod.fst x), AV.str { data := List.toArray (Prod.fst (Prod.snd x)) }, AV.int IntKind.i64 (Prod.fst (Prod.snd (Prod.snd x))),
        AV.str { data := List.toArray (Prod.fst (Prod.snd (Prod.snd (Prod.snd x)))) }, AV.int IntKind.i64 (Prod.fst (Prod.snd (Prod.snd (Prod.snd (Prod.snd x))))),
        AV.int IntKind.i64 (Prod.snd (Prod.snd (Prod.snd (Prod.snd (Prod.snd x)))))]] ∧
        condP x_1
        (condP p
        (Post (AV.bool q)
        [AObj.cells
        [AV.int IntKind.i64 (Prod.fst x), AV.str { data := List.toArray (Prod.fst (Prod.snd x)) }, AV.int IntKind.i64 (Prod.fst (Prod.snd (Prod.snd x))),
        AV.str { data := List.toArray (Prod.fst (Prod.snd (Prod.snd (Prod.snd x)))) }, AV.int IntKind.i64 (Prod.fst (Prod.snd (Prod.snd (Prod.snd (Prod.snd x))))),
        AV.int IntKind.i64 (Prod.snd (Prod.snd (Prod.snd (Prod.snd (Prod.snd x)))))]])
        (Post (AV.bool false)
        [AObj.cells
        [AV.int IntKind.i64 (Prod.fst x), AV.str { data := List.toArray (Prod.fst (Prod.snd x)) }, AV.int IntKind.i64 (Prod.fst (Prod.snd (Prod.snd x))),
        AV.str { data := List.toArray (Prod.fst (Prod.snd (Prod.snd (Prod.snd x)))) }, AV.int IntKind.i64 (Prod.fst (Prod.snd (Prod.snd (Prod.snd (Prod.snd x))))),
        AV.int IntKind.i64 (Prod.snd (Prod.snd (Prod.snd (Prod.snd (Prod.snd x)))))]]))
        (Post (AV.bool false)
        [AObj.cells
        [AV.int IntKind.i64 (Prod.fst x), AV.str { data := List.toArray (Prod.fst (Prod.snd x)) }, AV.int IntKind.i64 (Prod.fst (Prod.snd (Prod.snd x))),
        AV.str { data := List.toArray (Prod.fst (Prod.snd (Prod.snd (Prod.snd x)))) }, AV.int IntKind.i64 (Prod.fst (Prod.snd (Prod.snd (Prod.snd (Prod.snd x))))),
        AV.int IntKind.i64 (Prod.snd (Prod.snd (Prod.snd (Prod.snd (Prod.snd x)))))]]))
        (condP (Prod.fst x == (3 : Int))
        (ASpec Try.prog 154 [AV.str { data := List.toArray (Prod.fst (Prod.snd x)) }]
        [AObj.cells
        [AV.int IntKind.i64 (Prod.fst x), AV.str { data := List.toArray (Prod.fst (Prod.snd x)) }, AV.int IntKind.i64 (Prod.fst (Prod.snd (Prod.snd x))),
        AV.str { data := List.toArray (Prod.fst (Prod.snd (Prod.snd (Prod.snd x)))) }, AV.int IntKind.i64 (Prod.fst (Prod.snd (Prod.snd (Prod.snd (Prod.snd x))))),
        AV.int IntKind.i64 (Prod.snd (Prod.snd (Prod.snd (Prod.snd (Prod.snd x)))))]]
        fun (r : AV) (H' : List AObj) =>
        ∃ (x_1 : Bool),
        r = AV.bool x_1 ∧
        H' =
        [AObj.cells
        [AV.int IntKind.i64 (Prod.fst x), AV.str { data := List.toArray (Prod.fst (Prod.snd x)) }, AV.int IntKind.i64 (Prod.fst (Prod.snd (Prod.snd x))),
        AV.str { data := List.toArray (Prod.fst (Prod.snd (Prod.snd (Prod.snd x)))) }, AV.int IntKind.i64 (Prod.fst (Prod.snd (Prod.snd (Prod.snd (Prod.snd x))))),
        AV.int IntKind.i64 (Prod.snd (Prod.snd (Prod.snd (Prod.snd (Prod.snd x)))))]] ∧
        condP x_1
        (ASpec Try.prog 154 [AV.str { data := List.toArray (Prod.fst (Prod.snd (Prod.snd (Prod.snd x)))) }]
        [AObj.cells
        [AV.int IntKind.i64 (Prod.fst x), AV.str { data := List.toArray (Prod.fst (Prod.snd x)) }, AV.int IntKind.i64 (Prod.fst (Prod.snd (Prod.snd x))),
        AV.str { data := List.toArray (Prod.fst (Prod.snd (Prod.snd (Prod.snd x)))) }, AV.int IntKind.i64 (Prod.fst (Prod.snd (Prod.snd (Prod.snd (Prod.snd x))))),
        AV.int IntKind.i64 (Prod.snd (Prod.snd (Prod.snd (Prod.snd (Prod.snd x)))))]]
        fun (r : AV) (H' : List AObj) =>
        ∃ (x_2 : Bool),
        r = AV.bool x_2 ∧
        H' =
        [AObj.cells
        [AV.int IntKind.i64 (Prod.fst x), AV.str { data := List.toArray (Prod.fst (Prod.snd x)) }, AV.int IntKind.i64 (Prod.fst (Prod.snd (Prod.snd x))),
        AV.str { data := List.toArray (Prod.fst (Prod.snd (Prod.snd (Prod.snd x)))) }, AV.int IntKind.i64 (Prod.fst (Prod.snd (Prod.snd (Prod.snd (Prod.snd x))))),
        AV.int IntKind.i64 (Prod.snd (Prod.snd (Prod.snd (Prod.snd (Prod.snd x)))))]] ∧
        condP x_2
        (condP (decide (Prod.fst (Prod.snd (Prod.snd x)) ≥ (0 : Int)))
        (condP (decide (Prod.fst (Prod.snd (Prod.snd x)) < (1000000000 : Int)))
        (Post (AV.bool q)
        [AObj.cells
        [AV.int IntKind.i64 (Prod.fst x), AV.str { data := List.toArray (Prod.fst (Prod.snd x)) }, AV.int IntKind.i64 (Prod.fst (Prod.snd (Prod.snd x))),
        AV.str { data := List.toArray (Prod.fst (Prod.snd (Prod.snd (Prod.snd x)))) }, AV.int IntKind.i64 (Prod.fst (Prod.snd (Prod.snd (Prod.snd (Prod.snd x))))),
        AV.int IntKind.i64 (Prod.snd (Prod.snd (Prod.snd (Prod.snd (Prod.snd x)))))]])
        (Post (AV.bool false)
        [AObj.cells
        [AV.int IntKind.i64 (Prod.fst x), AV.str { data := List.toArray (Prod.fst (Prod.snd x)) }, AV.int IntKind.i64 (Prod.fst (Prod.snd (Prod.snd x))),
        AV.str { data := List.toArray (Prod.fst (Prod.snd (Prod.snd (Prod.snd x)))) }, AV.int IntKind.i64 (Prod.fst (Prod.snd (Prod.snd (Prod.snd (Prod.snd x))))),
        AV.int IntKind.i64 (Prod.snd (Prod.snd (Prod.snd (Prod.snd (Prod.snd x)))))]]))
        (Post (AV.bool false)
        [AObj.cells
        [AV.int IntKind.i64 (Prod.fst x), AV.str { data := List.toArray (Prod.fst (Prod.snd x)) }, AV.int IntKind.i64 (Prod.fst (Prod.snd (Prod.snd x))),
        AV.str { data := List.toArray (Prod.fst (Prod.snd (Prod.snd (Prod.snd x)))) }, AV.int IntKind.i64 (Prod.fst (Prod.snd (Prod.snd (Prod.snd (Prod.snd x))))),
        AV.int IntKind.i64 (Prod.snd (Prod.snd (Prod.snd (Prod.snd (Prod.snd x)))))]]))
        (Post (AV.bool false)
        [AObj.cells
        [AV.int IntKind.i64 (Prod.fst x), AV.str { data := List.toArray (Prod.fst (Prod.snd x)) }, AV.int IntKind.i64 (Prod.fst (Prod.snd (Prod.snd x))),
        AV.str { data := List.toArray (Prod.fst (Prod.snd (Prod.snd (Prod.snd x)))) }, AV.int IntKind.i64 (Prod.fst (Prod.snd (Prod.snd (Prod.snd (Prod.snd x))))),
        AV.int IntKind.i64 (Prod.snd (Prod.snd (Prod.snd (Prod.snd (Prod.snd x)))))]]))
        (Post (AV.bool false)
        [AObj.cells
        [AV.int IntKind.i64 (Prod.fst x), AV.str { data := List.toArray (Prod.fst (Prod.snd x)) }, AV.int IntKind.i64 (Prod.fst (Prod.snd (Prod.snd x))),
        AV.str { data := List.toArray (Prod.fst (Prod.snd (Prod.snd (Prod.snd x)))) }, AV.int IntKind.i64 (Prod.fst (Prod.snd (Prod.snd (Prod.snd (Prod.snd x))))),
        AV.int IntKind.i64 (Prod.snd (Prod.snd (Prod.snd (Prod.snd (Prod.snd x)))))]]))
        (condP (Prod.fst x == (4 : Int))
        (ASpec Try.prog 154 [AV.str { data := List.toArray (Prod.fst (Prod.snd x)) }]
        [AObj.cells
        [AV.int IntKind.i64 (Prod.fst x), AV.str { data := List.toArray (Prod.fst (Prod.snd x)) }, AV.int IntKind.i64 (Prod.fst (Prod.snd (Prod.snd x))),
        AV.str { data := List.toArray (Prod.fst (Prod.snd (Prod.snd (Prod.snd x)))) }, AV.int IntKind.i64 (Prod.fst (Prod.snd (Prod.snd (Prod.snd (Prod.snd x))))),
        AV.int IntKind.i64 (Prod.snd (Prod.snd (Prod.snd (Prod.snd (Prod.snd x)))))]]
        fun (r : AV) (H' : List AObj) =>
        ∃ (x_1 : Bool),
        r = AV.bool x_1 ∧
        H' =
        [AObj.cells
        [AV.int IntKind.i64 (Prod.fst x), AV.str { data := List.toArray (Prod.fst (Prod.snd x)) }, AV.int IntKind.i64 (Prod.fst (Prod.snd (Prod.snd x))),
        AV.str { data := List.toArray (Prod.fst (Prod.snd (Prod.snd (Prod.snd x)))) }, AV.int IntKind.i64 (Prod.fst (Prod.snd (Prod.snd (Prod.snd (Prod.snd x))))),
        AV.int IntKind.i64 (Prod.snd (Prod.snd (Prod.snd (Prod.snd (Prod.snd x)))))]] ∧
        condP x_1
        (condP p
        (condP
        (decide
        ((if Prod.snd (Prod.snd (Prod.snd (Prod.snd (Prod.snd x)))) < Prod.fst (Prod.snd (Prod.snd (Prod.snd (Prod.snd x)))) then
        Prod.snd (Prod.snd (Prod.snd (Prod.snd (Prod.snd x))))
        else Prod.fst (Prod.snd (Prod.snd (Prod.snd (Prod.snd x))))) ≥
        (0 : Int)))
        (Post
        (AV.bool
        (decide
        ((if Prod.snd (Prod.snd (Prod.snd (Prod.snd (Prod.snd x)))) > Prod.fst (Prod.snd (Prod.snd (Prod.snd (Prod.snd x)))) then
        Prod.snd (Prod.snd (Prod.snd (Prod.snd (Prod.snd x))))
        else Prod.fst (Prod.snd (Prod.snd (Prod.snd (Prod.snd x))))) <
        i)))
        [AObj.cells
        [AV.int IntKind.i64 (Prod.fst x), AV.str { data := List.toArray (Prod.fst (Prod.snd x)) }, AV.int IntKind.i64 (Prod.fst (Prod.snd (Prod.snd x))),
        AV.str { data := List.toArray (Prod.fst (Prod.snd (Prod.snd (Prod.snd x)))) }, AV.int IntKind.i64 (Prod.fst (Prod.snd (Prod.snd (Prod.snd (Prod.snd x))))),
        AV.int IntKind.i64 (Prod.snd (Prod.snd (Prod.snd (Prod.snd (Prod.snd x)))))]])
        (Post (AV.bool false)
        [AObj.cells
        [AV.int IntKind.i64 (Prod.fst x), AV.str { data := List.toArray (Prod.fst (Prod.snd x)) }, AV.int IntKind.i64 (Prod.fst (Prod.snd (Prod.snd x))),
        AV.str { data := List.toArray (Prod.fst (Prod.snd (Prod.snd (Prod.snd x)))) }, AV.int IntKind.i64 (Prod.fst (Prod.snd (Prod.snd (Prod.snd (Prod.snd x))))),
        AV.int IntKind.i64 (Prod.snd (Prod.snd (Prod.snd (Prod.snd (Prod.snd x)))))]]))
        (Post (AV.bool false)
        [AObj.cells
        [AV.int IntKind.i64 (Prod.fst x), AV.str { data := List.toArray (Prod.fst (Prod.snd x)) }, AV.int IntKind.i64 (Prod.fst (Prod.snd (Prod.snd x))),
        AV.str { data := List.toArray (Prod.fst (Prod.snd (Prod.snd (Prod.snd x)))) }, AV.int IntKind.i64 (Prod.fst (Prod.snd (Prod.snd (Prod.snd (Prod.snd x))))),
        AV.int IntKind.i64 (Prod.snd (Prod.snd (Prod.snd (Prod.snd (Prod.snd x)))))]]))
        (Post (AV.bool false)
        [AObj.cells
        [AV.int IntKind.i64 (Prod.fst x), AV.str { data := List.toArray (Prod.fst (Prod.snd x)) }, AV.int IntKind.i64 (Prod.fst (Prod.snd (Prod.snd x))),
        AV.str { data := List.toArray (Prod.fst (Prod.snd (Prod.snd (Prod.snd x)))) }, AV.int IntKind.i64 (Prod.fst (Prod.snd (Prod.snd (Prod.snd (Prod.snd x))))),
        AV.int IntKind.i64 (Prod.snd (Prod.snd (Prod.snd (Prod.snd (Prod.snd x)))))]]))
        (Post (AV.bool false)
        [AObj.cells
        [AV.int IntKind.i64 (Prod.fst x), AV.str { data := List.toArray (Prod.fst (Prod.snd x)) }, AV.int IntKind.i64 (Prod.fst (Prod.snd (Prod.snd x))),
        AV.str { data := List.toArray (Prod.fst (Prod.snd (Prod.snd (Prod.snd x)))) }, AV.int IntKind.i64 (Prod.fst (Prod.snd (Prod.snd (Prod.snd (Prod.snd x))))),
        AV.int IntKind.i64 (Prod.snd (Prod.snd (Prod.snd (Prod.snd (Prod.snd x)))))]]))))
      (condP (Prod.fst x == (2 : Int))
        (ASpec Try.prog 154 [AV.str { data := List.toArray (Prod.fst (Prod.snd x)) }]
        [AObj.cells
        [AV.int IntKind.i64 (Prod.fst x), AV.str { data := List.toArray (Prod.fst (Prod.snd x)) }, AV.int IntKind.i64 (Prod.fst (Prod.snd (Prod.snd x))),
        AV.str { data := List.toArray (Prod.fst (Prod.snd (Prod.snd (Prod.snd x)))) }, AV.int IntKind.i64 (Prod.fst (Prod.snd (Prod.snd (Prod.snd (Prod.snd x))))),
        AV.int IntKind.i64 (Prod.snd (Prod.snd (Prod.snd (Prod.snd (Prod.snd x)))))]]
        fun (r : AV) (H' : List AObj) =>
        ∃ (x_1 : Bool),
        r = AV.bool x_1 ∧
        H' =
        [AObj.cells
        [AV.int IntKind.i64 (Prod.fst x), AV.str { data := List.toArray (Prod.fst (Prod.snd x)) }, AV.int IntKind.i64 (Prod.fst (Prod.snd (Prod.snd x))),
        AV.str { data := List.toArray (Prod.fst (Prod.snd (Prod.snd (Prod.snd x)))) }, AV.int IntKind.i64 (Prod.fst (Prod.snd (Prod.snd (Prod.snd (Prod.snd x))))),
        AV.int IntKind.i64 (Prod.snd (Prod.snd (Prod.snd (Prod.snd (Prod.snd x)))))]] ∧
        condP x_1
        (condP p
        (Post (AV.bool q)
        [AObj.cells
        [AV.int IntKind.i64 (Prod.fst x), AV.str { data := List.toArray (Prod.fst (Prod.snd x)) }, AV.int IntKind.i64 (Prod.fst (Prod.snd (Prod.snd x))),
        AV.str { data := List.toArray (Prod.fst (Prod.snd (Prod.snd (Prod.snd x)))) }, AV.int IntKind.i64 (Prod.fst (Prod.snd (Prod.snd (Prod.snd (Prod.snd x))))),
        AV.int IntKind.i64 (Prod.snd (Prod.snd (Prod.snd (Prod.snd (Prod.snd x)))))]])
        (Post (AV.bool false)
        [AObj.cells
        [AV.int IntKind.i64 (Prod.fst x), AV.str { data := List.toArray (Prod.fst (Prod.snd x)) }, AV.int IntKind.i64 (Prod.fst (Prod.snd (Prod.snd x))),
        AV.str { data := List.toArray (Prod.fst (Prod.snd (Prod.snd (Prod.snd x)))) }, AV.int IntKind.i64 (Prod.fst (Prod.snd (Prod.snd (Prod.snd (Prod.snd x))))),
        AV.int IntKind.i64 (Prod.snd (Prod.snd (Prod.snd (Prod.snd (Prod.snd x)))))]]))
        (Post (AV.bool false)
        [AObj.cells
        [AV.int IntKind.i64 (Prod.fst x), AV.str { data := List.toArray (Prod.fst (Prod.snd x)) }, AV.int IntKind.i64 (Prod.fst (Prod.snd (Prod.snd x))),
        AV.str { data := List.toArray (Prod.fst (Prod.snd (Prod.snd (Prod.snd x)))) }, AV.int IntKind.i64 (Prod.fst (Prod.snd (Prod.snd (Prod.snd (Prod.snd x))))),
        AV.int IntKind.i64 (Prod.snd (Prod.snd (Prod.snd (Prod.snd (Prod.snd x)))))]]))
        (condP (Prod.fst x == (3 : Int))
        (ASpec Try.prog 154 [AV.str { data := List.toArray (Prod.fst (Prod.snd x)) }]
        [AObj.cells
        [AV.int IntKind.i64 (Prod.fst x), AV.str { data := List.toArray (Prod.fst (Prod.snd x)) }, AV.int IntKind.i64 (Prod.fst (Prod.snd (Prod.snd x))),
        AV.str { data := List.toArray (Prod.fst (Prod.snd (Prod.snd (Prod.snd x)))) }, AV.int IntKind.i64 (Prod.fst (Prod.snd (Prod.snd (Prod.snd (Prod.snd x))))),
        AV.int IntKind.i64 (Prod.snd (Prod.snd (Prod.snd (Prod.snd (Prod.snd x)))))]]
        fun (r : AV) (H' : List AObj) =>
        ∃ (x_1 : Bool),
        r = AV.bool x_1 ∧
        H' =
        [AObj.cells
        [AV.int IntKind.i64 (Prod.fst x), AV.str { data := List.toArray (Prod.fst (Prod.snd x)) }, AV.int IntKind.i64 (Prod.fst (Prod.snd (Prod.snd x))),
        AV.str { data := List.toArray (Prod.fst (Prod.snd (Prod.snd (Prod.snd x)))) }, AV.int IntKind.i64 (Prod.fst (Prod.snd (Prod.snd (Prod.snd (Prod.snd x))))),
        AV.int IntKind.i64 (Prod.snd (Prod.snd (Prod.snd (Prod.snd (Prod.snd x)))))]] ∧
        condP x_1
        (ASpec Try.prog 154 [AV.str { data := List.toArray (Prod.fst (Prod.snd (Prod.snd (Prod.snd x)))) }]
        [AObj.cells
        [AV.int IntKind.i64 (Prod.fst x), AV.str { data := List.toArray (Prod.fst (Prod.snd x)) }, AV.int IntKind.i64 (Prod.fst (Prod.snd (Prod.snd x))),
        AV.str { data := List.toArray (Prod.fst (Prod.snd (Prod.snd (Prod.snd x)))) }, AV.int IntKind.i64 (Prod.fst (Prod.snd (Prod.snd (Prod.snd (Prod.snd x))))),
        AV.int IntKind.i64 (Prod.snd (Prod.snd (Prod.snd (Prod.snd (Prod.snd x)))))]]
        fun (r : AV) (H' : List AObj) =>
        ∃ (x_2 : Bool),
        r = AV.bool x_2 ∧
        H' =
        [AObj.cells
        [AV.int IntKind.i64 (Prod.fst x), AV.str { data := List.toArray (Prod.fst (Prod.snd x)) }, AV.int IntKind.i64 (Prod.fst (Prod.snd (Prod.snd x))),
        AV.str { data := List.toArray (Prod.fst (Prod.snd (Prod.snd (Prod.snd x)))) }, AV.int IntKind.i64 (Prod.fst (Prod.snd (Prod.snd (Prod.snd (Prod.snd x))))),
        AV.int IntKind.i64 (Prod.snd (Prod.snd (Prod.snd (Prod.snd (Prod.snd x)))))]] ∧
        condP x_2
        (condP (decide (Prod.fst (Prod.snd (Prod.snd x)) ≥ (0 : Int)))
        (condP (decide (Prod.fst (Prod.snd (Prod.snd x)) < (1000000000 : Int)))
        (Post (AV.bool q)
        [AObj.cells
        [AV.int IntKind.i64 (Prod.fst x), AV.str { data := List.toArray (Prod.fst (Prod.snd x)) }, AV.int IntKind.i64 (Prod.fst (Prod.snd (Prod.snd x))),
        AV.str { data := List.toArray (Prod.fst (Prod.snd (Prod.snd (Prod.snd x)))) }, AV.int IntKind.i64 (Prod.fst (Prod.snd (Prod.snd (Prod.snd (Prod.snd x))))),
        AV.int IntKind.i64 (Prod.snd (Prod.snd (Prod.snd (Prod.snd (Prod.snd x)))))]])
        (Post (AV.bool false)
        [AObj.cells
        [AV.int IntKind.i64 (Prod.fst x), AV.str { data := List.toArray (Prod.fst (Prod.snd x)) }, AV.int IntKind.i64 (Prod.fst (Prod.snd (Prod.snd x))),
        AV.str { data := List.toArray (Prod.fst (Prod.snd (Prod.snd (Prod.snd x)))) }, AV.int IntKind.i64 (Prod.fst (Prod.snd (Prod.snd (Prod.snd (Prod.snd x))))),
        AV.int IntKind.i64 (Prod.snd (Prod.snd (Prod.snd (Prod.snd (Prod.snd x)))))]]))
        (Post (AV.bool false)
        [AObj.cells
        [AV.int IntKind.i64 (Prod.fst x), AV.str { data := List.toArray (Prod.fst (Prod.snd x)) }, AV.int IntKind.i64 (Prod.fst (Prod.snd (Prod.snd x))),
        AV.str { data := List.toArray (Prod.fst (Prod.snd (Prod.snd (Prod.snd x)))) }, AV.int IntKind.i64 (Prod.fst (Prod.snd (Prod.snd (Prod.snd (Prod.snd x))))),
        AV.int IntKind.i64 (Prod.snd (Prod.snd (Prod.snd (Prod.snd (Prod.snd x)))))]]))
        (Post (AV.bool false)
        [AObj.cells
        [AV.int IntKind.i64 (Prod.fst x), AV.str { data := List.toArray (Prod.fst (Prod.snd x)) }, AV.int IntKind.i64 (Prod.fst (Prod.snd (Prod.snd x))),
        AV.str { data := List.toArray (Prod.fst (Prod.snd (Prod.snd (Prod.snd x)))) }, AV.int IntKind.i64 (Prod.fst (Prod.snd (Prod.snd (Prod.snd (Prod.snd x))))),
        AV.int IntKind.i64 (Prod.snd (Prod.snd (Prod.snd (Prod.snd (Prod.snd x)))))]]))
        (Post (AV.bool false)
        [AObj.cells
        [AV.int IntKind.i64 (Prod.fst x), AV.str { data := List.toArray (Prod.fst (Prod.snd x)) }, AV.int IntKind.i64 (Prod.fst (Prod.snd (Prod.snd x))),
        AV.str { data := List.toArray (Prod.fst (Prod.snd (Prod.snd (Prod.snd x)))) }, AV.int IntKind.i64 (Prod.fst (Prod.snd (Prod.snd (Prod.snd (Prod.snd x))))),
        AV.int IntKind.i64 (Prod.snd (Prod.snd (Prod.snd (Prod.snd (Prod.snd x)))))]]))
        (condP (Prod.fst x == (4 : Int))
        (ASpec Try.prog 154 [AV.str { data := List.toArray (Prod.fst (Prod.snd x)) }]
        [AObj.cells
        [AV.int IntKind.i64 (Prod.fst x), AV.str { data := List.toArray (Prod.fst (Prod.snd x)) }, AV.int IntKind.i64 (Prod.fst (Prod.snd (Prod.snd x))),
        AV.str { data := List.toArray (Prod.fst (Prod.snd (Prod.snd (Prod.snd x)))) }, AV.int IntKind.i64 (Prod.fst (Prod.snd (Prod.snd (Prod.snd (Prod.snd x))))),
        AV.int IntKind.i64 (Prod.snd (Prod.snd (Prod.snd (Prod.snd (Prod.snd x)))))]]
        fun (r : AV) (H' : List AObj) =>
        ∃ (x_1 : Bool),
        r = AV.bool x_1 ∧
        H' =
        [AObj.cells
        [AV.int IntKind.i64 (Prod.fst x), AV.str { data := List.toArray (Prod.fst (Prod.snd x)) }, AV.int IntKind.i64 (Prod.fst (Prod.snd (Prod.snd x))),
        AV.str { data := List.toArray (Prod.fst (Prod.snd (Prod.snd (Prod.snd x)))) }, AV.int IntKind.i64 (Prod.fst (Prod.snd (Prod.snd (Prod.snd (Prod.snd x))))),
        AV.int IntKind.i64 (Prod.snd (Prod.snd (Prod.snd (Prod.snd (Prod.snd x)))))]] ∧
        condP x_1
        (condP p
        (condP
        (decide
        ((if Prod.snd (Prod.snd (Prod.snd (Prod.snd (Prod.snd x)))) < Prod.fst (Prod.snd (Prod.snd (Prod.snd (Prod.snd x)))) then
        Prod.snd (Prod.snd (Prod.snd (Prod.snd (Prod.snd x))))
        else Prod.fst (Prod.snd (Prod.snd (Prod.snd (Prod.snd x))))) ≥
        (0 : Int)))
        (Post
        (AV.bool
        (decide
        ((if Prod.snd (Prod.snd (Prod.snd (Prod.snd (Prod.snd x)))) > Prod.fst (Prod.snd (Prod.snd (Prod.snd (Prod.snd x)))) then
        Prod.snd (Prod.snd (Prod.snd (Prod.snd (Prod.snd x))))
        else Prod.fst (Prod.snd (Prod.snd (Prod.snd (Prod.snd x))))) <
        i)))
        [AObj.cells
        [AV.int IntKind.i64 (Prod.fst x), AV.str { data := List.toArray (Prod.fst (Prod.snd x)) }, AV.int IntKind.i64 (Prod.fst (Prod.snd (Prod.snd x))),
        AV.str { data := List.toArray (Prod.fst (Prod.snd (Prod.snd (Prod.snd x)))) }, AV.int IntKind.i64 (Prod.fst (Prod.snd (Prod.snd (Prod.snd (Prod.snd x))))),
        AV.int IntKind.i64 (Prod.snd (Prod.snd (Prod.snd (Prod.snd (Prod.snd x)))))]])
        (Post (AV.bool false)
        [AObj.cells
        [AV.int IntKind.i64 (Prod.fst x), AV.str { data := List.toArray (Prod.fst (Prod.snd x)) }, AV.int IntKind.i64 (Prod.fst (Prod.snd (Prod.snd x))),
        AV.str { data := List.toArray (Prod.fst (Prod.snd (Prod.snd (Prod.snd x)))) }, AV.int IntKind.i64 (Prod.fst (Prod.snd (Prod.snd (Prod.snd (Prod.snd x))))),
        AV.int IntKind.i64 (Prod.snd (Prod.snd (Prod.snd (Prod.snd (Prod.snd x)))))]]))
        (Post (AV.bool false)
        [AObj.cells
        [AV.int IntKind.i64 (Prod.fst x), AV.str { data := List.toArray (Prod.fst (Prod.snd x)) }, AV.int IntKind.i64 (Prod.fst (Prod.snd (Prod.snd x))),
        AV.str { data := List.toArray (Prod.fst (Prod.snd (Prod.snd (Prod.snd x)))) }, AV.int IntKind.i64 (Prod.fst (Prod.snd (Prod.snd (Prod.snd (Prod.snd x))))),
        AV.int IntKind.i64 (Prod.snd (Prod.snd (Prod.snd (Prod.snd (Prod.snd x)))))]]))
        (Post (AV.bool false)
        [AObj.cells
        [AV.int IntKind.i64 (Prod.fst x), AV.str { data := List.toArray (Prod.fst (Prod.snd x)) }, AV.int IntKind.i64 (Prod.fst (Prod.snd (Prod.snd x))),
        AV.str { data := List.toArray (Prod.fst (Prod.snd (Prod.snd (Prod.snd x)))) }, AV.int IntKind.i64 (Prod.fst (Prod.snd (Prod.snd (Prod.snd (Prod.snd x))))),
        AV.int IntKind.i64 (Prod.snd (Prod.snd (Prod.snd (Prod.snd (Prod.snd x)))))]]))
        (Post (AV.bool false)
        [AObj.cells
        [AV.int IntKind.i64 (Prod.fst x), AV.str { data := List.toArray (Prod.fst (Prod.snd x)) }, AV.int IntKind.i64 (Prod.fst (Prod.snd (Prod.snd x))),
        AV.str { data := List.toArray (Prod.fst (Prod.snd (Prod.snd (Prod.snd x)))) }, AV.int IntKind.i64 (Prod.fst (Prod.snd (Prod.snd (Prod.snd (Prod.snd x))))),
        AV.int IntKind.i64 (Prod.snd (Prod.snd (Prod.snd (Prod.snd (Prod.snd x)))))]])))) →
    AWP Try.prog 85 n c226_3 [(1, AV.int IntKind.i64 i), (2, AV.ptr 0 0), (5, AV.bool p), (6, AV.bool q)] [AObj.cells (T.encSt x)]
      (q226_0 n Post) := fun x i p q n Post h => Go.Ab.awp_sound g226 n _ _ _ _ (Go.Ab.kc (by kernel_rfl) h)

-- 123
noncomputable def l123 : Nat → List Nat
  | 4 => [13, 14, 15]
  | _ => []
noncomputable def u123 : Nat → Bool
  | _ => false
noncomputable def m123 : Nat → Bool
  | _ => false
noncomputable def g123 : Cfg := { N := 25, live := l123, cut := u123, mu := m123, ret := rets }
noncomputable def c123 : Go.Code := Go.Ab.bodyOf Go.Proofs.Try.f123
noncomputable def q123_0 : Nat → (AV → List AObj → Prop) → AQ := fun (n : Nat) (Post : AV → List AObj → Prop) => endQ Try.prog (resultsOf Try.f123) Post
noncomputable def q123_1 : Nat → (AV → List AObj → Prop) → AQ := fun (n : Nat) (Post : AV → List AObj → Prop) => seqQ (fun (s' : Slots) (H' : List AObj) => awp Try.prog g123 n (codeSnd (codeSnd (codeSnd c123))) s' H' (q123_0 n Post)) (q123_0 n Post)
noncomputable def q123_2 : Nat → (AV → List AObj → Prop) → AQ := fun (n : Nat) (Post : AV → List AObj → Prop) => blockQ 0 (q123_1 n Post)
noncomputable def c123_4 : Go.Code := codeFst (codeSnd (codeFst (codeSnd (codeSnd c123))))
theorem s123 : ∀ (l : List T.St) (Post : AV → List AObj → Prop),
  condP ((↑(List.length l) : Int) == (0 : Int)) (Post (AV.bool false) [])
      (condP (decide ((↑(List.length l) : Int) > (1048576 : Int))) (Post (AV.bool false) [])
        (AWP Try.prog 25 0 c123_4
        [(13, AV.sl 6 (Seq.map T.encSt T.noSt l) Tip.none), (14, AV.int IntKind.i64 (↑(List.length l) : Int)), (15, AV.int IntKind.i64 (0 : Int))] []
        (q123_2 0 Post))) →
    ASpec Try.prog 123 [AV.sl 6 (Seq.map T.encSt T.noSt l) Tip.none] [] Post := fun l Post h => Go.Ab.ASpec.of_vc g123 Go.Proofs.Try.func123 (by kernel_rfl) (by kernel_rfl) (by kernel_rfl) (Go.Ab.kc (by kernel_rfl) h)
theorem v123_4 : ∀ (l : List T.St) (n i : Int) (n_1 : Nat) (Post : AV → List AObj → Prop),
  condP (decide (i < n))
      (needP ((0 : Int) ≤ i ∧ i < (↑(List.length l) : Int))
        (ASpec Try.prog 226
        [AV.agg
        [AV.int IntKind.i64 (Prod.fst (List.getD l (Int.toNat i) T.noSt)), AV.str { data := List.toArray (Prod.fst (Prod.snd (List.getD l (Int.toNat i) T.noSt))) },
        AV.int IntKind.i64 (Prod.fst (Prod.snd (Prod.snd (List.getD l (Int.toNat i) T.noSt)))),
        AV.str { data := List.toArray (Prod.fst (Prod.snd (Prod.snd (Prod.snd (List.getD l (Int.toNat i) T.noSt))))) },
        AV.int IntKind.i64 (Prod.fst (Prod.snd (Prod.snd (Prod.snd (Prod.snd (List.getD l (Int.toNat i) T.noSt)))))),
        AV.int IntKind.i64 (Prod.snd (Prod.snd (Prod.snd (Prod.snd (Prod.snd (List.getD l (Int.toNat i) T.noSt))))))],
        AV.int IntKind.i64 i]
        [AObj.cells
        [AV.int IntKind.i64 (Prod.fst (List.getD l (Int.toNat i) T.noSt)), AV.str { data := List.toArray (Prod.fst (Prod.snd (List.getD l (Int.toNat i) T.noSt))) },
        AV.int IntKind.i64 (Prod.fst (Prod.snd (Prod.snd (List.getD l (Int.toNat i) T.noSt)))),
        AV.str { data := List.toArray (Prod.fst (Prod.snd (Prod.snd (Prod.snd (List.getD l (Int.toNat i) T.noSt))))) },
        AV.int IntKind.i64 (Prod.fst (Prod.snd (Prod.snd (Prod.snd (Prod.snd (List.getD l (Int.toNat i) T.noSt)))))),
        AV.int IntKind.i64 (Prod.snd (Prod.snd (Prod.snd (Prod.snd (Prod.snd (List.getD l (Int.toNat i) T.noSt))))))]]
        fun (r : AV) (H' : List AObj) =>
        ∃ (x : Bool),
        r = AV.bool x ∧
        H' =
        [AObj.cells
        [AV.int IntKind.i64 (Prod.fst (List.getD l (Int.toNat i) T.noSt)), AV.str { data := List.toArray (Prod.fst (Prod.snd (List.getD l (Int.toNat i) T.noSt))) },
        AV.int IntKind.i64 (Prod.fst (Prod.snd (Prod.snd (List.getD l (Int.toNat i) T.noSt)))),
        AV.str { data := List.toArray (Prod.fst (Prod.snd (Prod.snd (Prod.snd (List.getD l (Int.toNat i) T.noSt))))) },
        AV.int IntKind.i64 (Prod.fst (Prod.snd (Prod.snd (Prod.snd (Prod.snd (List.getD l (Int.toNat i) T.noSt)))))),
        AV.int IntKind.i64 (Prod.snd (Prod.snd (Prod.snd (Prod.snd (Prod.snd (List.getD l (Int.toNat i) T.noSt))))))]] ∧
        condP (!x)
        (Post (AV.bool false)
        [AObj.cells
        [AV.int IntKind.i64 (Prod.fst (List.getD l (Int.toNat i) T.noSt)), AV.str { data := List.toArray (Prod.fst (Prod.snd (List.getD l (Int.toNat i) T.noSt))) },
        AV.int IntKind.i64 (Prod.fst (Prod.snd (Prod.snd (List.getD l (Int.toNat i) T.noSt)))),
        AV.str { data := List.toArray (Prod.fst (Prod.snd (Prod.snd (Prod.snd (List.getD l (Int.toNat i) T.noSt))))) },
        AV.int IntKind.i64 (Prod.fst (Prod.snd (Prod.snd (Prod.snd (Prod.snd (List.getD l (Int.toNat i) T.noSt)))))),
        AV.int IntKind.i64 (Prod.snd (Prod.snd (Prod.snd (Prod.snd (Prod.snd (List.getD l (Int.toNat i) T.noSt))))))]])
        (AWP Try.prog 25 n_1 c123_4
        [(13, AV.sl 6 (Seq.map T.encSt T.noSt l) Tip.none), (14, AV.int IntKind.i64 n), (15, AV.int IntKind.i64 (IntKind.wrap IntKind.i64 (i + (1 : Int))))]
        [AObj.cells
        [AV.int IntKind.i64 (Prod.fst (List.getD l (Int.toNat i) T.noSt)), AV.str { data := List.toArray (Prod.fst (Prod.snd (List.getD l (Int.toNat i) T.noSt))) },
        AV.int IntKind.i64 (Prod.fst (Prod.snd (Prod.snd (List.getD l (Int.toNat i) T.noSt)))),
        AV.str { data := List.toArray (Prod.fst (Prod.snd (Prod.snd (Prod.snd (List.getD l (Int.toNat i) T.noSt))))) },
        AV.int IntKind.i64 (Prod.fst (Prod.snd (Prod.snd (Prod.snd (Prod.snd (List.getD l (Int.toNat i) T.noSt)))))),
        AV.int IntKind.i64 (Prod.snd (Prod.snd (Prod.snd (Prod.snd (Prod.snd (List.getD l (Int.toNat i) T.noSt))))))]]
        (q123_2 n_1 Post))))
      (Post (AV.bool true) []) →
    AWP Try.prog 25 n_1 c123_4 [(13, AV.sl 6 (Seq.map T.encSt T.noSt l) Tip.none), (14, AV.int IntKind.i64 n), (15, AV.int IntKind.i64 i)] [] (q123_2 n_1 Post) := fun l n i n Post h => Go.Ab.AWP.loop' g123 (Cfg.live g123) c123_4 (by kernel_rfl) (by kernel_rfl) (Go.Ab.kc (by kernel_rfl) h)

-- 152
noncomputable def l152 : Nat → List Nat
  | 3 => [1, 2]
  | 5 => [1, 2]
  | _ => []
noncomputable def u152 : Nat → Bool
  | 3 => true
  | 5 => true
  | _ => false
noncomputable def m152 : Nat → Bool
  | _ => false
noncomputable def g152 : Cfg := { N := 80, live := l152, cut := u152, mu := m152, ret := rets }
noncomputable def c152 : Go.Code := Go.Ab.bodyOf Go.Proofs.Try.f152
noncomputable def q152_0 : Nat → (AV → List AObj → Prop) → AQ := fun (n : Nat) (Post : AV → List AObj → Prop) => endQ Try.prog (resultsOf Try.f152) Post
noncomputable def c152_3 : Go.Code := codeSnd (codeSnd c152)
theorem s152 : ∀ (x : T.St) (i : Int) (Post : AV → List AObj → Prop),
  condP (decide (Prod.fst x < (1 : Int)))
      (Post (AV.bool false)
        [AObj.cells
        [AV.int IntKind.i64 (Prod.fst x), AV.str { data := List.toArray (Prod.fst (Prod.snd x)) }, AV.int IntKind.i64 (Prod.fst (Prod.snd (Prod.snd x))),
        AV.str { data := List.toArray (Prod.fst (Prod.snd (Prod.snd (Prod.snd x)))) }, AV.int IntKind.i64 (Prod.fst (Prod.snd (Prod.snd (Prod.snd (Prod.snd x))))),
        AV.int IntKind.i64 (Prod.snd (Prod.snd (Prod.snd (Prod.snd (Prod.snd x)))))]])
      (condP (decide (Prod.fst x > (4 : Int)))
        (Post (AV.bool false)
        [AObj.cells
        [AV.int IntKind.i64 (Prod.fst x), AV.str { data := List.toArray (Prod.fst (Prod.snd x)) }, AV.int IntKind.i64 (Prod.fst (Prod.snd (Prod.snd x))),
        AV.str { data := List.toArray (Prod.fst (Prod.snd (Prod.snd (Prod.snd x)))) }, AV.int IntKind.i64 (Prod.fst (Prod.snd (Prod.snd (Prod.snd (Prod.snd x))))),
        AV.int IntKind.i64 (Prod.snd (Prod.snd (Prod.snd (Prod.snd (Prod.snd x)))))]])
        (ASpec Try.prog 39 [AV.str { data := List.toArray (Prod.fst (Prod.snd x)) }]
        [AObj.cells
        [AV.int IntKind.i64 (Prod.fst x), AV.str { data := List.toArray (Prod.fst (Prod.snd x)) }, AV.int IntKind.i64 (Prod.fst (Prod.snd (Prod.snd x))),
        AV.str { data := List.toArray (Prod.fst (Prod.snd (Prod.snd (Prod.snd x)))) }, AV.int IntKind.i64 (Prod.fst (Prod.snd (Prod.snd (Prod.snd (Prod.snd x))))),
        AV.int IntKind.i64 (Prod.snd (Prod.snd (Prod.snd (Prod.snd (Prod.snd x)))))]]
        fun (r : AV) (H' : List AObj) =>
        ∃ (x_1 : Bool),
        r = AV.bool x_1 ∧
        H' =
        [AObj.cells
        [AV.int IntKind.i64 (Prod.fst x), AV.str { data := List.toArray (Prod.fst (Prod.snd x)) }, AV.int IntKind.i64 (Prod.fst (Prod.snd (Prod.snd x))),
        AV.str { data := List.toArray (Prod.fst (Prod.snd (Prod.snd (Prod.snd x)))) }, AV.int IntKind.i64 (Prod.fst (Prod.snd (Prod.snd (Prod.snd (Prod.snd x))))),
        AV.int IntKind.i64 (Prod.snd (Prod.snd (Prod.snd (Prod.snd (Prod.snd x)))))]] ∧
        condP (!x_1)
        (Post (AV.bool false)
        [AObj.cells
        [AV.int IntKind.i64 (Prod.fst x), AV.str { data := List.toArray (Prod.fst (Prod.snd x)) }, AV.int IntKind.i64 (Prod.fst (Prod.snd (Prod.snd x))),
        AV.str { data := List.toArray (Prod.fst (Prod.snd (Prod.snd (Prod.snd x)))) }, AV.int IntKind.i64 (Prod.fst (Prod.snd (Prod.snd (Prod.snd (Prod.snd x))))),
        AV.int IntKind.i64 (Prod.snd (Prod.snd (Prod.snd (Prod.snd (Prod.snd x)))))]])
        (AWP Try.prog 80 0 c152_3 [(1, AV.int IntKind.i64 i), (2, AV.ptr 0 0)]
        [AObj.cells
        [AV.int IntKind.i64 (Prod.fst x), AV.str { data := List.toArray (Prod.fst (Prod.snd x)) }, AV.int IntKind.i64 (Prod.fst (Prod.snd (Prod.snd x))),
        AV.str { data := List.toArray (Prod.fst (Prod.snd (Prod.snd (Prod.snd x)))) }, AV.int IntKind.i64 (Prod.fst (Prod.snd (Prod.snd (Prod.snd (Prod.snd x))))),
        AV.int IntKind.i64 (Prod.snd (Prod.snd (Prod.snd (Prod.snd (Prod.snd x)))))]]
        (q152_0 0 Post)))) →
    ASpec Try.prog 152 [AV.agg (T.encSt x), AV.int IntKind.i64 i] [] Post := fun x i Post h => Go.Ab.ASpec.of_vc g152 Go.Proofs.Try.func152 (by kernel_rfl) (by kernel_rfl) (by kernel_rfl) (Go.Ab.kc (by kernel_rfl) h)
noncomputable def c152_5 : Go.Code := codeSnd c152_3
theorem v152_3 : ∀ (x : T.St) (i : Int) (n : Nat) (Post : AV → List AObj → Prop),
  condP (Prod.fst x == (3 : Int))
      (ASpec Try.prog 39 [AV.str { data := List.toArray (Prod.fst (Prod.snd (Prod.snd (Prod.snd x)))) }]
        [AObj.cells
        [AV.int IntKind.i64 (Prod.fst x), AV.str { data := List.toArray (Prod.fst (Prod.snd x)) }, AV.int IntKind.i64 (Prod.fst (Prod.snd (Prod.snd x))),
        AV.str { data := List.toArray (Prod.fst (Prod.snd (Prod.snd (Prod.snd x)))) }, AV.int IntKind.i64 (Prod.fst (Prod.snd (Prod.snd (Prod.snd (Prod.snd x))))),
        AV.int IntKind.i64 (Prod.snd (Prod.snd (Prod.snd (Prod.snd (Prod.snd x)))))]]
        fun (r : AV) (H' : List AObj) =>
        ∃ (x_1 : Bool),
        r = AV.bool x_1 ∧
        H' =
        [AObj.cells
        [AV.int IntKind.i64 (Prod.fst x), AV.str { data := List.toArray (Prod.fst (Prod.snd x)) }, AV.int IntKind.i64 (Prod.fst (Prod.snd (Prod.snd x))),
        AV.str { data := List.toArray (Prod.fst (Prod.snd (Prod.snd (Prod.snd x)))) }, AV.int IntKind.i64 (Prod.fst (Prod.snd (Prod.snd (Prod.snd (Prod.snd x))))),
        AV.int IntKind.i64 (Prod.snd (Prod.snd (Prod.snd (Prod.snd (Prod.snd x)))))]] ∧
        condP (!x_1)
        (Post (AV.bool false)
        [AObj.cells
        [AV.int IntKind.i64 (Prod.fst x), AV.str { data := List.toArray (Prod.fst (Prod.snd x)) }, AV.int IntKind.i64 (Prod.fst (Prod.snd (Prod.snd x))),
        AV.str { data := List.toArray (Prod.fst (Prod.snd (Prod.snd (Prod.snd x)))) }, AV.int IntKind.i64 (Prod.fst (Prod.snd (Prod.snd (Prod.snd (Prod.snd x))))),
        AV.int IntKind.i64 (Prod.snd (Prod.snd (Prod.snd (Prod.snd (Prod.snd x)))))]])
        (ASpec Try.prog 231 [AV.int IntKind.i64 (Prod.fst (Prod.snd (Prod.snd x)))]
        [AObj.cells
        [AV.int IntKind.i64 (Prod.fst x), AV.str { data := List.toArray (Prod.fst (Prod.snd x)) }, AV.int IntKind.i64 (Prod.fst (Prod.snd (Prod.snd x))),
        AV.str { data := List.toArray (Prod.fst (Prod.snd (Prod.snd (Prod.snd x)))) }, AV.int IntKind.i64 (Prod.fst (Prod.snd (Prod.snd (Prod.snd (Prod.snd x))))),
        AV.int IntKind.i64 (Prod.snd (Prod.snd (Prod.snd (Prod.snd (Prod.snd x)))))]]
        fun (r : AV) (H' : List AObj) =>
        ∃ (x_2 : Bool),
        r = AV.bool x_2 ∧
        H' =
        [AObj.cells
        [AV.int IntKind.i64 (Prod.fst x), AV.str { data := List.toArray (Prod.fst (Prod.snd x)) }, AV.int IntKind.i64 (Prod.fst (Prod.snd (Prod.snd x))),
        AV.str { data := List.toArray (Prod.fst (Prod.snd (Prod.snd (Prod.snd x)))) }, AV.int IntKind.i64 (Prod.fst (Prod.snd (Prod.snd (Prod.snd (Prod.snd x))))),
        AV.int IntKind.i64 (Prod.snd (Prod.snd (Prod.snd (Prod.snd (Prod.snd x)))))]] ∧
        condP (!x_2)
        (Post (AV.bool false)
        [AObj.cells
        [AV.int IntKind.i64 (Prod.fst x), AV.str { data := List.toArray (Prod.fst (Prod.snd x)) }, AV.int IntKind.i64 (Prod.fst (Prod.snd (Prod.snd x))),
        AV.str { data := List.toArray (Prod.fst (Prod.snd (Prod.snd (Prod.snd x)))) }, AV.int IntKind.i64 (Prod.fst (Prod.snd (Prod.snd (Prod.snd (Prod.snd x))))),
        AV.int IntKind.i64 (Prod.snd (Prod.snd (Prod.snd (Prod.snd (Prod.snd x)))))]])
        (condP (Prod.fst x != (3 : Int))
        (condP (!ByteArray.toList { data := List.toArray (Prod.fst (Prod.snd (Prod.snd (Prod.snd x)))) } == ByteArray.toList { data := #[] })
        (Post (AV.bool false)
        [AObj.cells
        [AV.int IntKind.i64 (Prod.fst x), AV.str { data := List.toArray (Prod.fst (Prod.snd x)) }, AV.int IntKind.i64 (Prod.fst (Prod.snd (Prod.snd x))),
        AV.str { data := List.toArray (Prod.fst (Prod.snd (Prod.snd (Prod.snd x)))) }, AV.int IntKind.i64 (Prod.fst (Prod.snd (Prod.snd (Prod.snd (Prod.snd x))))),
        AV.int IntKind.i64 (Prod.snd (Prod.snd (Prod.snd (Prod.snd (Prod.snd x)))))]])
        (condP (Prod.fst (Prod.snd (Prod.snd x)) != (0 : Int))
        (Post (AV.bool false)
        [AObj.cells
        [AV.int IntKind.i64 (Prod.fst x), AV.str { data := List.toArray (Prod.fst (Prod.snd x)) }, AV.int IntKind.i64 (Prod.fst (Prod.snd (Prod.snd x))),
        AV.str { data := List.toArray (Prod.fst (Prod.snd (Prod.snd (Prod.snd x)))) }, AV.int IntKind.i64 (Prod.fst (Prod.snd (Prod.snd (Prod.snd (Prod.snd x))))),
        AV.int IntKind.i64 (Prod.snd (Prod.snd (Prod.snd (Prod.snd (Prod.snd x)))))]])
        (AWP Try.prog 80 n c152_5 [(1, AV.int IntKind.i64 i), (2, AV.ptr 0 0)]
        [AObj.cells
        [AV.int IntKind.i64 (Prod.fst x), AV.str { data := List.toArray (Prod.fst (Prod.snd x)) }, AV.int IntKind.i64 (Prod.fst (Prod.snd (Prod.snd x))),
        AV.str { data := List.toArray (Prod.fst (Prod.snd (Prod.snd (Prod.snd x)))) }, AV.int IntKind.i64 (Prod.fst (Prod.snd (Prod.snd (Prod.snd (Prod.snd x))))),
        AV.int IntKind.i64 (Prod.snd (Prod.snd (Prod.snd (Prod.snd (Prod.snd x)))))]]
        (q152_0 n Post))))
        (AWP Try.prog 80 n c152_5 [(1, AV.int IntKind.i64 i), (2, AV.ptr 0 0)]
        [AObj.cells
        [AV.int IntKind.i64 (Prod.fst x), AV.str { data := List.toArray (Prod.fst (Prod.snd x)) }, AV.int IntKind.i64 (Prod.fst (Prod.snd (Prod.snd x))),
        AV.str { data := List.toArray (Prod.fst (Prod.snd (Prod.snd (Prod.snd x)))) }, AV.int IntKind.i64 (Prod.fst (Prod.snd (Prod.snd (Prod.snd (Prod.snd x))))),
        AV.int IntKind.i64 (Prod.snd (Prod.snd (Prod.snd (Prod.snd (Prod.snd x)))))]]
        (q152_0 n Post)))))
      (condP (Prod.fst x != (3 : Int))
        (condP (!ByteArray.toList { data := List.toArray (Prod.fst (Prod.snd (Prod.snd (Prod.snd x)))) } == ByteArray.toList { data := #[] })
        (Post (AV.bool false)
        [AObj.cells
        [AV.int IntKind.i64 (Prod.fst x), AV.str { data := List.toArray (Prod.fst (Prod.snd x)) }, AV.int IntKind.i64 (Prod.fst (Prod.snd (Prod.snd x))),
        AV.str { data := List.toArray (Prod.fst (Prod.snd (Prod.snd (Prod.snd x)))) }, AV.int IntKind.i64 (Prod.fst (Prod.snd (Prod.snd (Prod.snd (Prod.snd x))))),
        AV.int IntKind.i64 (Prod.snd (Prod.snd (Prod.snd (Prod.snd (Prod.snd x)))))]])
        (condP (Prod.fst (Prod.snd (Prod.snd x)) != (0 : Int))
        (Post (AV.bool false)
        [AObj.cells
        [AV.int IntKind.i64 (Prod.fst x), AV.str { data := List.toArray (Prod.fst (Prod.snd x)) }, AV.int IntKind.i64 (Prod.fst (Prod.snd (Prod.snd x))),
        AV.str { data := List.toArray (Prod.fst (Prod.snd (Prod.snd (Prod.snd x)))) }, AV.int IntKind.i64 (Prod.fst (Prod.snd (Prod.snd (Prod.snd (Prod.snd x))))),
        AV.int IntKind.i64 (Prod.snd (Prod.snd (Prod.snd (Prod.snd (Prod.snd x)))))]])
        (AWP Try.prog 80 n c152_5 [(1, AV.int IntKind.i64 i), (2, AV.ptr 0 0)]
        [AObj.cells
        [AV.int IntKind.i64 (Prod.fst x), AV.str { data := List.toArray (Prod.fst (Prod.snd x)) }, AV.int IntKind.i64 (Prod.fst (Prod.snd (Prod.snd x))),
        AV.str { data := List.toArray (Prod.fst (Prod.snd (Prod.snd (Prod.snd x)))) }, AV.int IntKind.i64 (Prod.fst (Prod.snd (Prod.snd (Prod.snd (Prod.snd x))))),
        AV.int IntKind.i64 (Prod.snd (Prod.snd (Prod.snd (Prod.snd (Prod.snd x)))))]]
        (q152_0 n Post))))
        (AWP Try.prog 80 n c152_5 [(1, AV.int IntKind.i64 i), (2, AV.ptr 0 0)]
        [AObj.cells
        [AV.int IntKind.i64 (Prod.fst x), AV.str { data := List.toArray (Prod.fst (Prod.snd x)) }, AV.int IntKind.i64 (Prod.fst (Prod.snd (Prod.snd x))),
        AV.str { data := List.toArray (Prod.fst (Prod.snd (Prod.snd (Prod.snd x)))) }, AV.int IntKind.i64 (Prod.fst (Prod.snd (Prod.snd (Prod.snd (Prod.snd x))))),
        AV.int IntKind.i64 (Prod.snd (Prod.snd (Prod.snd (Prod.snd (Prod.snd x)))))]]
        (q152_0 n Post))) →
    AWP Try.prog 80 n c152_3 [(1, AV.int IntKind.i64 i), (2, AV.ptr 0 0)] [AObj.cells (T.encSt x)] (q152_0 n Post) := fun x i n Post h => Go.Ab.awp_sound g152 n _ _ _ _ (Go.Ab.kc (by kernel_rfl) h)
theorem v152_5 : ∀ (x : T.St) (i : Int) (n : Nat) (Post : AV → List AObj → Prop),
  condP (Prod.fst x == (4 : Int))
      (condP (decide (Prod.fst (Prod.snd (Prod.snd (Prod.snd (Prod.snd x)))) ≥ (0 : Int)))
        (condP (decide (Prod.fst (Prod.snd (Prod.snd (Prod.snd (Prod.snd x)))) < i))
        (condP (decide (Prod.snd (Prod.snd (Prod.snd (Prod.snd (Prod.snd x)))) ≥ (0 : Int)))
        (Post (AV.bool (decide (Prod.snd (Prod.snd (Prod.snd (Prod.snd (Prod.snd x)))) < i)))
        [AObj.cells
        [AV.int IntKind.i64 (Prod.fst x), AV.str { data := List.toArray (Prod.fst (Prod.snd x)) }, AV.int IntKind.i64 (Prod.fst (Prod.snd (Prod.snd x))),
        AV.str { data := List.toArray (Prod.fst (Prod.snd (Prod.snd (Prod.snd x)))) }, AV.int IntKind.i64 (Prod.fst (Prod.snd (Prod.snd (Prod.snd (Prod.snd x))))),
        AV.int IntKind.i64 (Prod.snd (Prod.snd (Prod.snd (Prod.snd (Prod.snd x)))))]])
        (Post (AV.bool false)
        [AObj.cells
        [AV.int IntKind.i64 (Prod.fst x), AV.str { data := List.toArray (Prod.fst (Prod.snd x)) }, AV.int IntKind.i64 (Prod.fst (Prod.snd (Prod.snd x))),
        AV.str { data := List.toArray (Prod.fst (Prod.snd (Prod.snd (Prod.snd x)))) }, AV.int IntKind.i64 (Prod.fst (Prod.snd (Prod.snd (Prod.snd (Prod.snd x))))),
        AV.int IntKind.i64 (Prod.snd (Prod.snd (Prod.snd (Prod.snd (Prod.snd x)))))]]))
        (Post (AV.bool false)
        [AObj.cells
        [AV.int IntKind.i64 (Prod.fst x), AV.str { data := List.toArray (Prod.fst (Prod.snd x)) }, AV.int IntKind.i64 (Prod.fst (Prod.snd (Prod.snd x))),
        AV.str { data := List.toArray (Prod.fst (Prod.snd (Prod.snd (Prod.snd x)))) }, AV.int IntKind.i64 (Prod.fst (Prod.snd (Prod.snd (Prod.snd (Prod.snd x))))),
        AV.int IntKind.i64 (Prod.snd (Prod.snd (Prod.snd (Prod.snd (Prod.snd x)))))]]))
        (Post (AV.bool false)
        [AObj.cells
        [AV.int IntKind.i64 (Prod.fst x), AV.str { data := List.toArray (Prod.fst (Prod.snd x)) }, AV.int IntKind.i64 (Prod.fst (Prod.snd (Prod.snd x))),
        AV.str { data := List.toArray (Prod.fst (Prod.snd (Prod.snd (Prod.snd x)))) }, AV.int IntKind.i64 (Prod.fst (Prod.snd (Prod.snd (Prod.snd (Prod.snd x))))),
        AV.int IntKind.i64 (Prod.snd (Prod.snd (Prod.snd (Prod.snd (Prod.snd x)))))]]))
      (condP (Prod.fst (Prod.snd (Prod.snd (Prod.snd (Prod.snd x)))) == (0 : Int))
        (Post (AV.bool (Prod.snd (Prod.snd (Prod.snd (Prod.snd (Prod.snd x)))) == (0 : Int)))
        [AObj.cells
        [AV.int IntKind.i64 (Prod.fst x), AV.str { data := List.toArray (Prod.fst (Prod.snd x)) }, AV.int IntKind.i64 (Prod.fst (Prod.snd (Prod.snd x))),
        AV.str { data := List.toArray (Prod.fst (Prod.snd (Prod.snd (Prod.snd x)))) }, AV.int IntKind.i64 (Prod.fst (Prod.snd (Prod.snd (Prod.snd (Prod.snd x))))),
        AV.int IntKind.i64 (Prod.snd (Prod.snd (Prod.snd (Prod.snd (Prod.snd x)))))]])
        (Post (AV.bool false)
        [AObj.cells
        [AV.int IntKind.i64 (Prod.fst x), AV.str { data := List.toArray (Prod.fst (Prod.snd x)) }, AV.int IntKind.i64 (Prod.fst (Prod.snd (Prod.snd x))),
        AV.str { data := List.toArray (Prod.fst (Prod.snd (Prod.snd (Prod.snd x)))) }, AV.int IntKind.i64 (Prod.fst (Prod.snd (Prod.snd (Prod.snd (Prod.snd x))))),
        AV.int IntKind.i64 (Prod.snd (Prod.snd (Prod.snd (Prod.snd (Prod.snd x)))))]])) →
    AWP Try.prog 80 n c152_5 [(1, AV.int IntKind.i64 i), (2, AV.ptr 0 0)] [AObj.cells (T.encSt x)] (q152_0 n Post) := fun x i n Post h => Go.Ab.awp_sound g152 n _ _ _ _ (Go.Ab.kc (by kernel_rfl) h)

-- 25
noncomputable def l25 : Nat → List Nat
  | 4 => [0, 3]
  | _ => []
noncomputable def u25 : Nat → Bool
  | _ => false
noncomputable def m25 : Nat → Bool
  | _ => false
noncomputable def g25 : Cfg := { N := 23, live := l25, cut := u25, mu := m25, ret := rets }
noncomputable def c25 : Go.Code := Go.Ab.bodyOf Go.Proofs.Try.f25
noncomputable def q25_0 : Nat → (AV → List AObj → Prop) → AQ := fun (n : Nat) (Post : AV → List AObj → Prop) => endQ Try.prog (resultsOf Try.f25) Post
noncomputable def q25_1 : Nat → (AV → List AObj → Prop) → AQ := fun (n : Nat) (Post : AV → List AObj → Prop) => seqQ (fun (s' : Slots) (H' : List AObj) => awp Try.prog g25 n (codeSnd (codeSnd (codeSnd c25))) s' H' (q25_0 n Post)) (q25_0 n Post)
noncomputable def q25_2 : Nat → (AV → List AObj → Prop) → AQ := fun (n : Nat) (Post : AV → List AObj → Prop) => blockQ 0 (q25_1 n Post)
noncomputable def c25_4 : Go.Code := codeFst (codeSnd (codeFst (codeSnd (codeSnd c25))))
theorem s25 : ∀ (l : List T.St) (Post : AV → List AObj → Prop),
  condP (decide ((↑(List.length l) : Int) > (1048576 : Int))) (Post (AV.bool false) [])
      (AWP Try.prog 23 0 c25_4 [(0, AV.sl 6 (Seq.map T.encSt T.noSt l) Tip.none), (3, AV.int IntKind.i64 (0 : Int))] [] (q25_2 0 Post)) →
    ASpec Try.prog 25 [AV.sl 6 (Seq.map T.encSt T.noSt l) Tip.none] [] Post := fun l Post h => Go.Ab.ASpec.of_vc g25 Go.Proofs.Try.func25 (by kernel_rfl) (by kernel_rfl) (by kernel_rfl) (Go.Ab.kc (by kernel_rfl) h)
theorem v25_4 : ∀ (l : List T.St) (i : Int) (n : Nat) (Post : AV → List AObj → Prop),
  condP (decide (i < (↑(List.length l) : Int)))
      (needP ((0 : Int) ≤ i ∧ i < (↑(List.length l) : Int))
        (ASpec Try.prog 152
        [AV.agg
        [AV.int IntKind.i64 (Prod.fst (List.getD l (Int.toNat i) T.noSt)), AV.str { data := List.toArray (Prod.fst (Prod.snd (List.getD l (Int.toNat i) T.noSt))) },
        AV.int IntKind.i64 (Prod.fst (Prod.snd (Prod.snd (List.getD l (Int.toNat i) T.noSt)))),
        AV.str { data := List.toArray (Prod.fst (Prod.snd (Prod.snd (Prod.snd (List.getD l (Int.toNat i) T.noSt))))) },
        AV.int IntKind.i64 (Prod.fst (Prod.snd (Prod.snd (Prod.snd (Prod.snd (List.getD l (Int.toNat i) T.noSt)))))),
        AV.int IntKind.i64 (Prod.snd (Prod.snd (Prod.snd (Prod.snd (Prod.snd (List.getD l (Int.toNat i) T.noSt))))))],
        AV.int IntKind.i64 i]
        [] fun (r : AV) (H' : List AObj) =>
        ∃ (x : Bool),
        r = AV.bool x ∧
        H' = [] ∧
        condP (!x) (Post (AV.bool false) [])
        (AWP Try.prog 23 n c25_4 [(0, AV.sl 6 (Seq.map T.encSt T.noSt l) Tip.none), (3, AV.int IntKind.i64 (IntKind.wrap IntKind.i64 (i + (1 : Int))))] []
        (q25_2 n Post))))
      (Post (AV.bool (decide ((↑(List.length l) : Int) ≥ (1 : Int)))) []) →
    AWP Try.prog 23 n c25_4 [(0, AV.sl 6 (Seq.map T.encSt T.noSt l) Tip.none), (3, AV.int IntKind.i64 i)] [] (q25_2 n Post) := fun l i n Post h => Go.Ab.AWP.loop' g25 (Cfg.live g25) c25_4 (by kernel_rfl) (by kernel_rfl) (Go.Ab.kc (by kernel_rfl) h)

-- 24
noncomputable def l24 : Nat → List Nat
  | 4 => [0, 1, 5]
  | _ => []
noncomputable def u24 : Nat → Bool
  | _ => false
noncomputable def m24 : Nat → Bool
  | _ => false
noncomputable def g24 : Cfg := { N := 26, live := l24, cut := u24, mu := m24, ret := rets }
noncomputable def c24 : Go.Code := Go.Ab.bodyOf Go.Proofs.Try.f24
noncomputable def q24_0 : Nat → (AV → List AObj → Prop) → AQ := fun (n : Nat) (Post : AV → List AObj → Prop) => endQ Try.prog (resultsOf Try.f24) Post
noncomputable def q24_1 : Nat → (AV → List AObj → Prop) → AQ := fun (n : Nat) (Post : AV → List AObj → Prop) => seqQ (fun (s' : Slots) (H' : List AObj) => awp Try.prog g24 n (codeSnd (codeSnd (codeSnd c24))) s' H' (q24_0 n Post)) (q24_0 n Post)
noncomputable def q24_2 : Nat → (AV → List AObj → Prop) → AQ := fun (n : Nat) (Post : AV → List AObj → Prop) => blockQ 0 (q24_1 n Post)
noncomputable def c24_4 : Go.Code := codeFst (codeSnd (codeFst (codeSnd (codeSnd c24))))
theorem s24 : ∀ (a b : List T.St) (Post : AV → List AObj → Prop),
  condP ((↑(List.length a) : Int) != (↑(List.length b) : Int)) (Post (AV.bool false) [])
      (AWP Try.prog 26 0 c24_4
        [(0, AV.sl 6 (Seq.map T.encSt T.noSt a) Tip.none), (1, AV.sl 6 (Seq.map T.encSt T.noSt b) Tip.none), (5, AV.int IntKind.i64 (0 : Int))] []
        (q24_2 0 Post)) →
    ASpec Try.prog 24 [AV.sl 6 (Seq.map T.encSt T.noSt a) Tip.none, AV.sl 6 (Seq.map T.encSt T.noSt b) Tip.none] [] Post := fun a b Post h => Go.Ab.ASpec.of_vc g24 Go.Proofs.Try.func24 (by kernel_rfl) (by kernel_rfl) (by kernel_rfl) (Go.Ab.kc (by kernel_rfl) h)
theorem v24_4 : ∀ (a b : List T.St) (i : Int) (n : Nat) (Post : AV → List AObj → Prop),
  condP (decide (i < (↑(List.length a) : Int)))
      (needP ((0 : Int) ≤ i ∧ i < (↑(List.length a) : Int))
        (needP ((0 : Int) ≤ i ∧ i < (↑(List.length b) : Int))
        (condP
        (!(Prod.fst (List.getD a (Int.toNat i) T.noSt) == Prod.fst (List.getD b (Int.toNat i) T.noSt) &&
        (ByteArray.toList { data := List.toArray (Prod.fst (Prod.snd (List.getD a (Int.toNat i) T.noSt))) } ==
        ByteArray.toList { data := List.toArray (Prod.fst (Prod.snd (List.getD b (Int.toNat i) T.noSt))) } &&
        (Prod.fst (Prod.snd (Prod.snd (List.getD a (Int.toNat i) T.noSt))) == Prod.fst (Prod.snd (Prod.snd (List.getD b (Int.toNat i) T.noSt))) &&
        (ByteArray.toList { data := List.toArray (Prod.fst (Prod.snd (Prod.snd (Prod.snd (List.getD a (Int.toNat i) T.noSt))))) } ==
        ByteArray.toList { data := List.toArray (Prod.fst (Prod.snd (Prod.snd (Prod.snd (List.getD b (Int.toNat i) T.noSt))))) } &&
        (Prod.fst (Prod.snd (Prod.snd (Prod.snd (Prod.snd (List.getD a (Int.toNat i) T.noSt))))) ==
        Prod.fst (Prod.snd (Prod.snd (Prod.snd (Prod.snd (List.getD b (Int.toNat i) T.noSt))))) &&
        (Prod.snd (Prod.snd (Prod.snd (Prod.snd (Prod.snd (List.getD a (Int.toNat i) T.noSt))))) ==
        Prod.snd (Prod.snd (Prod.snd (Prod.snd (Prod.snd (List.getD b (Int.toNat i) T.noSt))))) &&
        true)))))))
        (Post (AV.bool false) [])
        (AWP Try.prog 26 n c24_4
        [(0, AV.sl 6 (Seq.map T.encSt T.noSt a) Tip.none), (1, AV.sl 6 (Seq.map T.encSt T.noSt b) Tip.none),
        (5, AV.int IntKind.i64 (IntKind.wrap IntKind.i64 (i + (1 : Int))))]
        [] (q24_2 n Post)))))
      (Post (AV.bool true) []) →
    AWP Try.prog 26 n c24_4
      [(0, AV.sl 6 (Seq.map T.encSt T.noSt a) Tip.none), (1, AV.sl 6 (Seq.map T.encSt T.noSt b) Tip.none), (5, AV.int IntKind.i64 i)] [] (q24_2 n Post) := fun a b i n Post h => Go.Ab.AWP.loop' g24 (Cfg.live g24) c24_4 (by kernel_rfl) (by kernel_rfl) (Go.Ab.kc (by kernel_rfl) h)

-- 18
noncomputable def l18 : Nat → List Nat
  | 4 => [0, 3]
  | _ => []
noncomputable def u18 : Nat → Bool
  | _ => false
noncomputable def m18 : Nat → Bool
  | _ => false
noncomputable def g18 : Cfg := { N := 39, live := l18, cut := u18, mu := m18, ret := rets }
noncomputable def c18 : Go.Code := Go.Ab.bodyOf Go.Proofs.Try.f18
noncomputable def q18_0 : Nat → (AV → List AObj → Prop) → AQ := fun (n : Nat) (Post : AV → List AObj → Prop) => endQ Try.prog (resultsOf Try.f18) Post
noncomputable def q18_1 : Nat → (AV → List AObj → Prop) → AQ := fun (n : Nat) (Post : AV → List AObj → Prop) => seqQ (fun (s' : Slots) (H' : List AObj) => awp Try.prog g18 n (codeSnd (codeSnd (codeSnd c18))) s' H' (q18_0 n Post)) (q18_0 n Post)
noncomputable def q18_2 : Nat → (AV → List AObj → Prop) → AQ := fun (n : Nat) (Post : AV → List AObj → Prop) => blockQ 0 (q18_1 n Post)
noncomputable def c18_4 : Go.Code := codeFst (codeSnd (codeFst (codeSnd (codeSnd c18))))
theorem s18 : ∀ (l : List T.St) (Post : AV → List AObj → Prop),
  condP (decide ((↑(List.length l) : Int) > (300 : Int)))
      (condP (decide ((↑(List.length l) : Int) ≤ (1048576 : Int))) (Post (AV.bool true) [])
        (condP (decide ((↑(List.length l) : Int) > (1048586 : Int))) (Post (AV.bool true) [])
        (AWP Try.prog 39 0 c18_4 [(0, AV.sl 6 (Seq.map T.encSt T.noSt l) Tip.none), (3, AV.int IntKind.i64 (0 : Int))] [] (q18_2 0 Post))))
      (condP (decide ((↑(List.length l) : Int) > (1048586 : Int))) (Post (AV.bool true) [])
        (AWP Try.prog 39 0 c18_4 [(0, AV.sl 6 (Seq.map T.encSt T.noSt l) Tip.none), (3, AV.int IntKind.i64 (0 : Int))] [] (q18_2 0 Post))) →
    ASpec Try.prog 18 [AV.sl 6 (Seq.map T.encSt T.noSt l) Tip.none] [] Post := fun l Post h => Go.Ab.ASpec.of_vc g18 Go.Proofs.Try.func18 (by kernel_rfl) (by kernel_rfl) (by kernel_rfl) (Go.Ab.kc (by kernel_rfl) h)
theorem v18_4 : ∀ (l : List T.St) (i : Int) (n : Nat) (Post : AV → List AObj → Prop),
  condP (decide (i < (↑(List.length l) : Int)))
      (needP ((0 : Int) ≤ i ∧ i < (↑(List.length l) : Int))
        (condP (decide ((↑(ByteArray.size { data := List.toArray (Prod.fst (Prod.snd (List.getD l (Int.toNat i) T.noSt))) }) : Int) > (100 : Int))) (Post (AV.bool true) [])
        (needP ((0 : Int) ≤ i ∧ i < (↑(List.length l) : Int))
        (condP (decide ((↑(ByteArray.size { data := List.toArray (Prod.fst (Prod.snd (Prod.snd (Prod.snd (List.getD l (Int.toNat i) T.noSt))))) }) : Int) > (100 : Int))) (Post (AV.bool true) [])
        (AWP Try.prog 39 n c18_4 [(0, AV.sl 6 (Seq.map T.encSt T.noSt l) Tip.none), (3, AV.int IntKind.i64 (IntKind.wrap IntKind.i64 (i + (1 : Int))))] []
        (q18_2 n Post))))))
      (Post (AV.bool false) []) →
    AWP Try.prog 39 n c18_4 [(0, AV.sl 6 (Seq.map T.encSt T.noSt l) Tip.none), (3, AV.int IntKind.i64 i)] [] (q18_2 n Post) := fun l i n Post h => Go.Ab.AWP.loop' g18 (Cfg.live g18) c18_4 (by kernel_rfl) (by kernel_rfl) (Go.Ab.kc (by kernel_rfl) h)

-- 20
noncomputable def l20 : Nat → List Nat
  | 5 => [3, 13, 14, 15]
  | _ => []
noncomputable def u20 : Nat → Bool
  | _ => false
noncomputable def m20 : Nat → Bool
  | _ => false
noncomputable def g20 : Cfg := { N := 50, live := l20, cut := u20, mu := m20, ret := rets }
noncomputable def c20 : Go.Code := Go.Ab.bodyOf Go.Proofs.Try.f20
noncomputable def q20_0 : Nat → (AV → List AObj → Prop) → AQ := fun (n : Nat) (Post : AV → List AObj → Prop) => endQ Try.prog (resultsOf Try.f20) Post
noncomputable def q20_1 : Nat → (AV → List AObj → Prop) → AQ := fun (n : Nat) (Post : AV → List AObj → Prop) => seqQ (fun (s' : Slots) (H' : List AObj) => awp Try.prog g20 n (codeSnd (codeSnd (codeSnd (codeSnd c20)))) s' H' (q20_0 n Post)) (q20_0 n Post)
noncomputable def q20_2 : Nat → (AV → List AObj → Prop) → AQ := fun (n : Nat) (Post : AV → List AObj → Prop) => blockQ 0 (q20_1 n Post)
noncomputable def c20_5 : Go.Code := codeFst (codeSnd (codeFst (codeSnd (codeSnd (codeSnd c20)))))
theorem s20 : ∀ (l : List T.St) (Post : AV → List AObj → Prop),
  (ASpec Try.prog 123 [AV.sl 6 (Seq.map T.encSt T.noSt l) Tip.none] [] fun (r : AV) (H' : List AObj) =>
      ∃ (x : Bool),
        r = AV.bool x ∧
        H' = [] ∧
        condP (!x) (Post (AV.sl 0 (Seq.raw []) Tip.nil) [])
        (ASpec Try.prog 140 [AV.sl 0 (Seq.raw []) Tip.nil, AV.sl 1 (Seq.raw [[AV.int IntKind.i64 (↑(List.length l) : Int)]]) Tip.full] [] fun (r : AV) (H' : List AObj) =>
        ∃ (x : List UInt8),
        r = AV.sl 1 (Seq.map encB (0 : UInt8) x) (Tip.tok 0) ∧
        H' = [AObj.tok] ∧
        AWP Try.prog 50 0 c20_5
        [(3, AV.sl 1 (Seq.map encB (0 : UInt8) x) (Tip.tok 0)), (13, AV.sl 6 (Seq.map T.encSt T.noSt l) Tip.none),
        (14, AV.int IntKind.i64 (↑(List.length l) : Int)), (15, AV.int IntKind.i64 (0 : Int))]
        [AObj.tok] (q20_2 0 Post))) →
    ASpec Try.prog 20 [AV.sl 6 (Seq.map T.encSt T.noSt l) Tip.none] [] Post := fun l Post h => Go.Ab.ASpec.of_vc g20 Go.Proofs.Try.func20 (by kernel_rfl) (by kernel_rfl) (by kernel_rfl) (Go.Ab.kc (by kernel_rfl) h)
theorem v20_5 : ∀ (l : List T.St) (b : List UInt8) (n i : Int) (n_1 : Nat) (Post : AV → List AObj → Prop),
  condP (decide (i < n))
      (needP ((0 : Int) ≤ i ∧ i < (↑(List.length l) : Int))
        (ASpec Try.prog 140 [AV.sl 1 (Seq.map encB (0 : UInt8) b) Tip.none, AV.sl 1 (Seq.raw [[AV.int IntKind.i64 (Prod.fst (List.getD l (Int.toNat i) T.noSt))]]) Tip.full]
        [AObj.cells
        [AV.int IntKind.i64 (Prod.fst (List.getD l (Int.toNat i) T.noSt)), AV.str { data := List.toArray (Prod.fst (Prod.snd (List.getD l (Int.toNat i) T.noSt))) },
        AV.int IntKind.i64 (Prod.fst (Prod.snd (Prod.snd (List.getD l (Int.toNat i) T.noSt)))),
        AV.str { data := List.toArray (Prod.fst (Prod.snd (Prod.snd (Prod.snd (List.getD l (Int.toNat i) T.noSt))))) },
        AV.int IntKind.i64 (Prod.fst (Prod.snd (Prod.snd (Prod.snd (Prod.snd (List.getD l (Int.toNat i) T.noSt)))))),
        AV.int IntKind.i64 (Prod.snd (Prod.snd (Prod.snd (Prod.snd (Prod.snd (List.getD l (Int.toNat i) T.noSt))))))]]
        fun (r : AV) (H' : List AObj) =>
        ∃ (x : List UInt8),
        r = AV.sl 1 (Seq.map encB (0 : UInt8) x) (Tip.tok 1) ∧
        H' =
        [AObj.cells
        [AV.int IntKind.i64 (Prod.fst (List.getD l (Int.toNat i) T.noSt)), AV.str { data := List.toArray (Prod.fst (Prod.snd (List.getD l (Int.toNat i) T.noSt))) },
        AV.int IntKind.i64 (Prod.fst (Prod.snd (Prod.snd (List.getD l (Int.toNat i) T.noSt)))),
        AV.str { data := List.toArray (Prod.fst (Prod.snd (Prod.snd (Prod.snd (List.getD l (Int.toNat i) T.noSt))))) },
        AV.int IntKind.i64 (Prod.fst (Prod.snd (Prod.snd (Prod.snd (Prod.snd (List.getD l (Int.toNat i) T.noSt)))))),
        AV.int IntKind.i64 (Prod.snd (Prod.snd (Prod.snd (Prod.snd (Prod.snd (List.getD l (Int.toNat i) T.noSt))))))],
        AObj.tok] ∧
        (AV.str { data := List.toArray (Prod.fst (Prod.snd (List.getD l (Int.toNat i) T.noSt))) } = AV.str { data := List.toArray (Prod.fst (Prod.snd (List.getD l (Int.toNat i) T.noSt))) } ∧
        [AObj.cells
        [AV.int IntKind.i64 (Prod.fst (List.getD l (Int.toNat i) T.noSt)), AV.str { data := List.toArray (Prod.fst (Prod.snd (List.getD l (Int.toNat i) T.noSt))) },
        AV.int IntKind.i64 (Prod.fst (Prod.snd (Prod.snd (List.getD l (Int.toNat i) T.noSt)))),
        AV.str { data := List.toArray (Prod.fst (Prod.snd (Prod.snd (Prod.snd (List.getD l (Int.toNat i) T.noSt))))) },
        AV.int IntKind.i64 (Prod.fst (Prod.snd (Prod.snd (Prod.snd (Prod.snd (List.getD l (Int.toNat i) T.noSt)))))),
        AV.int IntKind.i64 (Prod.snd (Prod.snd (Prod.snd (Prod.snd (Prod.snd (List.getD l (Int.toNat i) T.noSt))))))],
        AObj.tok] =
        [AObj.cells
        [AV.int IntKind.i64 (Prod.fst (List.getD l (Int.toNat i) T.noSt)), AV.str { data := List.toArray (Prod.fst (Prod.snd (List.getD l (Int.toNat i) T.noSt))) },
        AV.int IntKind.i64 (Prod.fst (Prod.snd (Prod.snd (List.getD l (Int.toNat i) T.noSt)))),
        AV.str { data := List.toArray (Prod.fst (Prod.snd (Prod.snd (Prod.snd (List.getD l (Int.toNat i) T.noSt))))) },
        AV.int IntKind.i64 (Prod.fst (Prod.snd (Prod.snd (Prod.snd (Prod.snd (List.getD l (Int.toNat i) T.noSt)))))),
        AV.int IntKind.i64 (Prod.snd (Prod.snd (Prod.snd (Prod.snd (Prod.snd (List.getD l (Int.toNat i) T.noSt))))))],
        AObj.tok]) ∧
        ASpec Try.prog 141
        [AV.sl 1 (Seq.map encB (0 : UInt8) x) (Tip.tok 1), AV.str { data := List.toArray (Prod.fst (Prod.snd (List.getD l (Int.toNat i) T.noSt))) }]
        [AObj.cells
        [AV.int IntKind.i64 (Prod.fst (List.getD l (Int.toNat i) T.noSt)), AV.str { data := List.toArray (Prod.fst (Prod.snd (List.getD l (Int.toNat i) T.noSt))) },
        AV.int IntKind.i64 (Prod.fst (Prod.snd (Prod.snd (List.getD l (Int.toNat i) T.noSt)))),
        AV.str { data := List.toArray (Prod.fst (Prod.snd (Prod.snd (Prod.snd (List.getD l (Int.toNat i) T.noSt))))) },
        AV.int IntKind.i64 (Prod.fst (Prod.snd (Prod.snd (Prod.snd (Prod.snd (List.getD l (Int.toNat i) T.noSt)))))),
        AV.int IntKind.i64 (Prod.snd (Prod.snd (Prod.snd (Prod.snd (Prod.snd (List.getD l (Int.toNat i) T.noSt))))))],
        AObj.tok]
        fun (r : AV) (H' : List AObj) =>
        ∃ (x : List UInt8),
        r = AV.sl 1 (Seq.map encB (0 : UInt8) x) (Tip.tok 2) ∧
        H' =
        [AObj.cells
        [AV.int IntKind.i64 (Prod.fst (List.getD l (Int.toNat i) T.noSt)), AV.str { data := List.toArray (Prod.fst (Prod.snd (List.getD l (Int.toNat i) T.noSt))) },
        AV.int IntKind.i64 (Prod.fst (Prod.snd (Prod.snd (List.getD l (Int.toNat i) T.noSt)))),
        AV.str { data := List.toArray (Prod.fst (Prod.snd (Prod.snd (Prod.snd (List.getD l (Int.toNat i) T.noSt))))) },
        AV.int IntKind.i64 (Prod.fst (Prod.snd (Prod.snd (Prod.snd (Prod.snd (List.getD l (Int.toNat i) T.noSt)))))),
        AV.int IntKind.i64 (Prod.snd (Prod.snd (Prod.snd (Prod.snd (Prod.snd (List.getD l (Int.toNat i) T.noSt))))))],
        AObj.tok, AObj.tok] ∧
        condP (Prod.fst (List.getD l (Int.toNat i) T.noSt) == (3 : Int))
        (ASpec Try.prog 140
        [AV.sl 1 (Seq.map encB (0 : UInt8) x) (Tip.tok 2),
        AV.sl 1 (Seq.raw [[AV.int IntKind.i64 (Prod.fst (Prod.snd (Prod.snd (List.getD l (Int.toNat i) T.noSt))))]]) Tip.full]
        [AObj.cells
        [AV.int IntKind.i64 (Prod.fst (List.getD l (Int.toNat i) T.noSt)), AV.str { data := List.toArray (Prod.fst (Prod.snd (List.getD l (Int.toNat i) T.noSt))) },
        AV.int IntKind.i64 (Prod.fst (Prod.snd (Prod.snd (List.getD l (Int.toNat i) T.noSt)))),
        AV.str { data := List.toArray (Prod.fst (Prod.snd (Prod.snd (Prod.snd (List.getD l (Int.toNat i) T.noSt))))) },
        AV.int IntKind.i64 (Prod.fst (Prod.snd (Prod.snd (Prod.snd (Prod.snd (List.getD l (Int.toNat i) T.noSt)))))),
        AV.int IntKind.i64 (Prod.snd (Prod.snd (Prod.snd (Prod.snd (Prod.snd (List.getD l (Int.toNat i) T.noSt))))))],
        AObj.tok, AObj.tok]
        fun (r : AV) (H' : List AObj) =>
        ∃ (x : List UInt8),
        r = AV.sl 1 (Seq.map encB (0 : UInt8) x) (Tip.tok 3) ∧
        H' =
        [AObj.cells
        [AV.int IntKind.i64 (Prod.fst (List.getD l (Int.toNat i) T.noSt)), AV.str { data := List.toArray (Prod.fst (Prod.snd (List.getD l (Int.toNat i) T.noSt))) },
        AV.int IntKind.i64 (Prod.fst (Prod.snd (Prod.snd (List.getD l (Int.toNat i) T.noSt)))),
        AV.str { data := List.toArray (Prod.fst (Prod.snd (Prod.snd (Prod.snd (List.getD l (Int.toNat i) T.noSt))))) },
        AV.int IntKind.i64 (Prod.fst (Prod.snd (Prod.snd (Prod.snd (Prod.snd (List.getD l (Int.toNat i) T.noSt)))))),
        AV.int IntKind.i64 (Prod.snd (Prod.snd (Prod.snd (Prod.snd (Prod.snd (List.getD l (Int.toNat i) T.noSt))))))],
        AObj.tok, AObj.tok, AObj.tok] ∧
        (AV.str { data := List.toArray (Prod.fst (Prod.snd (Prod.snd (Prod.snd (List.getD l (Int.toNat i) T.noSt))))) } =
        AV.str { data := List.toArray (Prod.fst (Prod.snd (Prod.snd (Prod.snd (List.getD l (Int.toNat i) T.noSt))))) } ∧
        [AObj.cells
        [AV.int IntKind.i64 (Prod.fst (List.getD l (Int.toNat i) T.noSt)),
        AV.str { data := List.toArray (Prod.fst (Prod.snd (List.getD l (Int.toNat i) T.noSt))) },
        AV.int IntKind.i64 (Prod.fst (Prod.snd (Prod.snd (List.getD l (Int.toNat i) T.noSt)))),
        AV.str { data := List.toArray (Prod.fst (Prod.snd (Prod.snd (Prod.snd (List.getD l (Int.toNat i) T.noSt))))) },
        AV.int IntKind.i64 (Prod.fst (Prod.snd (Prod.snd (Prod.snd (Prod.snd (List.getD l (Int.toNat i) T.noSt)))))),
        AV.int IntKind.i64 (Prod.snd (Prod.snd (Prod.snd (Prod.snd (Prod.snd (List.getD l (Int.toNat i) T.noSt))))))],
        AObj.tok, AObj.tok, AObj.tok] =
        [AObj.cells
        [AV.int IntKind.i64 (Prod.fst (List.getD l (Int.toNat i) T.noSt)),
        AV.str { data := List.toArray (Prod.fst (Prod.snd (List.getD l (Int.toNat i) T.noSt))) },
        AV.int IntKind.i64 (Prod.fst (Prod.snd (Prod.snd (List.getD l (Int.toNat i) T.noSt)))),
        AV.str { data := List.toArray (Prod.fst (Prod.snd (Prod.snd (Prod.snd (List.getD l (Int.toNat i) T.noSt))))) },
        AV.int IntKind.i64 (Prod.fst (Prod.snd (Prod.snd (Prod.snd (Prod.snd (List.getD l (Int.toNat i) T.noSt)))))),
        AV.int IntKind.i64 (Prod.snd (Prod.snd (Prod.snd (Prod.snd (Prod.snd (List.getD l (Int.toNat i) T.noSt))))))],
        AObj.tok, AObj.tok, AObj.tok]) ∧
        ASpec Try.prog 141
        [AV.sl 1 (Seq.map encB (0 : UInt8) x) (Tip.tok 3),
        AV.str { data := List.toArray (Prod.fst (Prod.snd (Prod.snd (Prod.snd (List.getD l (Int.toNat i) T.noSt))))) }]
        [AObj.cells
        [AV.int IntKind.i64 (Prod.fst (List.getD l (Int.toNat i) T.noSt)), AV.str { data := List.toArray (Prod.fst (Prod.snd (List.getD l (Int.toNat i) T.noSt))) },
        AV.int IntKind.i64 (Prod.fst (Prod.snd (Prod.snd (List.getD l (Int.toNat i) T.noSt)))),
        AV.str { data := List.toArray (Prod.fst (Prod.snd (Prod.snd (Prod.snd (List.getD l (Int.toNat i) T.noSt))))) },
        AV.int IntKind.i64 (Prod.fst (Prod.snd (Prod.snd (Prod.snd (Prod.snd (List.getD l (Int.toNat i) T.noSt)))))),
        AV.int IntKind.i64 (Prod.snd (Prod.snd (Prod.snd (Prod.snd (Prod.snd (List.getD l (Int.toNat i) T.noSt))))))],
        AObj.tok, AObj.tok, AObj.tok]
        fun (r : AV) (H' : List AObj) =>
        ∃ (x : List UInt8),
        r = AV.sl 1 (Seq.map encB (0 : UInt8) x) (Tip.tok 4) ∧
        H' =
        [AObj.cells
        [AV.int IntKind.i64 (Prod.fst (List.getD l (Int.toNat i) T.noSt)),
        AV.str { data := List.toArray (Prod.fst (Prod.snd (List.getD l (Int.toNat i) T.noSt))) },
        AV.int IntKind.i64 (Prod.fst (Prod.snd (Prod.snd (List.getD l (Int.toNat i) T.noSt)))),
        AV.str { data := List.toArray (Prod.fst (Prod.snd (Prod.snd (Prod.snd (List.getD l (Int.toNat i) T.noSt))))) },
        AV.int IntKind.i64 (Prod.fst (Prod.snd (Prod.snd (Prod.snd (Prod.snd (List.getD l (Int.toNat i) T.noSt)))))),
        AV.int IntKind.i64 (Prod.snd (Prod.snd (Prod.snd (Prod.snd (Prod.snd (List.getD l (Int.toNat i) T.noSt))))))],
        AObj.tok, AObj.tok, AObj.tok, AObj.tok] ∧
        AWP Try.prog 50 n_1 c20_5
        [(3, AV.sl 1 (Seq.map encB (0 : UInt8) x) (Tip.tok 4)), (13, AV.sl 6 (Seq.map T.encSt T.noSt l) Tip.none),
        (14, AV.int IntKind.i64 n), (15, AV.int IntKind.i64 (IntKind.wrap IntKind.i64 (i + (1 : Int))))]
        [AObj.cells
        [AV.int IntKind.i64 (Prod.fst (List.getD l (Int.toNat i) T.noSt)),
        AV.str { data := List.toArray (Prod.fst (Prod.snd (List.getD l (Int.toNat i) T.noSt))) },
        AV.int IntKind.i64 (Prod.fst (Prod.snd (Prod.snd (List.getD l (Int.toNat i) T.noSt)))),
        AV.str { data := List.toArray (Prod.fst (Prod.snd (Prod.snd (Prod.snd (List.getD l (Int.toNat i) T.noSt))))) },
        AV.int IntKind.i64 (Prod.fst (Prod.snd (Prod.snd (Prod.snd (Prod.snd (List.getD l (Int.toNat i) T.noSt)))))),
        AV.int IntKind.i64 (Prod.snd (Prod.snd (Prod.snd (Prod.snd (Prod.snd (List.getD l (Int.toNat i) T.noSt))))))],
        AObj.tok, AObj.tok, AObj.tok, AObj.tok]
        (q20_2 n_1 Post))
        (condP (Prod.fst (List.getD l (Int.toNat i) T.noSt) == (4 : Int))
        (ASpec Try.prog 140
        [AV.sl 1 (Seq.map encB (0 : UInt8) x) (Tip.tok 2),
        AV.sl 1
        (Seq.raw
        [[AV.int IntKind.i64 (Prod.fst (Prod.snd (Prod.snd (Prod.snd (Prod.snd (List.getD l (Int.toNat i) T.noSt))))))],
        [AV.int IntKind.i64 (Prod.snd (Prod.snd (Prod.snd (Prod.snd (Prod.snd (List.getD l (Int.toNat i) T.noSt))))))]])
        Tip.full]
        [AObj.cells
        [AV.int IntKind.i64 (Prod.fst (List.getD l (Int.toNat i) T.noSt)), AV.str { data := List.toArray (Prod.fst (Prod.snd (List.getD l (Int.toNat i) T.noSt))) },
        AV.int IntKind.i64 (Prod.fst (Prod.snd (Prod.snd (List.getD l (Int.toNat i) T.noSt)))),
        AV.str { data := List.toArray (Prod.fst (Prod.snd (Prod.snd (Prod.snd (List.getD l (Int.toNat i) T.noSt))))) },
        AV.int IntKind.i64 (Prod.fst (Prod.snd (Prod.snd (Prod.snd (Prod.snd (List.getD l (Int.toNat i) T.noSt)))))),
        AV.int IntKind.i64 (Prod.snd (Prod.snd (Prod.snd (Prod.snd (Prod.snd (List.getD l (Int.toNat i) T.noSt))))))],
        AObj.tok, AObj.tok]
        fun (r : AV) (H' : List AObj) =>
        ∃ (x : List UInt8),
        r = AV.sl 1 (Seq.map encB (0 : UInt8) x) (Tip.tok 3) ∧
        H' =
        [AObj.cells
        [AV.int IntKind.i64 (Prod.fst (List.getD l (Int.toNat i) T.noSt)), AV.str { data := List.toArray (Prod.fst (Prod.snd (List.getD l (Int.toNat i) T.noSt))) },
        AV.int IntKind.i64 (Prod.fst (Prod.snd (Prod.snd (List.getD l (Int.toNat i) T.noSt)))),
        AV.str { data := List.toArray (Prod.fst (Prod.snd (Prod.snd (Prod.snd (List.getD l (Int.toNat i) T.noSt))))) },
        AV.int IntKind.i64 (Prod.fst (Prod.snd (Prod.snd (Prod.snd (Prod.snd (List.getD l (Int.toNat i) T.noSt)))))),
        AV.int IntKind.i64 (Prod.snd (Prod.snd (Prod.snd (Prod.snd (Prod.snd (List.getD l (Int.toNat i) T.noSt))))))],
        AObj.tok, AObj.tok, AObj.tok] ∧
        AWP Try.prog 50 n_1 c20_5
        [(3, AV.sl 1 (Seq.map encB (0 : UInt8) x) (Tip.tok 3)), (13, AV.sl 6 (Seq.map T.encSt T.noSt l) Tip.none),
        (14, AV.int IntKind.i64 n), (15, AV.int IntKind.i64 (IntKind.wrap IntKind.i64 (i + (1 : Int))))]
        [AObj.cells
        [AV.int IntKind.i64 (Prod.fst (List.getD l (Int.toNat i) T.noSt)), AV.str { data := List.toArray (Prod.fst (Prod.snd (List.getD l (Int.toNat i) T.noSt))) },
        AV.int IntKind.i64 (Prod.fst (Prod.snd (Prod.snd (List.getD l (Int.toNat i) T.noSt)))),
        AV.str { data := List.toArray (Prod.fst (Prod.snd (Prod.snd (Prod.snd (List.getD l (Int.toNat i) T.noSt))))) },
        AV.int IntKind.i64 (Prod.fst (Prod.snd (Prod.snd (Prod.snd (Prod.snd (List.getD l (Int.toNat i) T.noSt)))))),
        AV.int IntKind.i64 (Prod.snd (Prod.snd (Prod.snd (Prod.snd (Prod.snd (List.getD l (Int.toNat i) T.noSt))))))],
        AObj.tok, AObj.tok, AObj.tok]
        (q20_2 n_1 Post))
        (AWP Try.prog 50 n_1 c20_5
        [(3, AV.sl 1 (Seq.map encB (0 : UInt8) x) (Tip.tok 2)), (13, AV.sl 6 (Seq.map T.encSt T.noSt l) Tip.none),
        (14, AV.int IntKind.i64 n), (15, AV.int IntKind.i64 (IntKind.wrap IntKind.i64 (i + (1 : Int))))]
        [AObj.cells
        [AV.int IntKind.i64 (Prod.fst (List.getD l (Int.toNat i) T.noSt)), AV.str { data := List.toArray (Prod.fst (Prod.snd (List.getD l (Int.toNat i) T.noSt))) },
        AV.int IntKind.i64 (Prod.fst (Prod.snd (Prod.snd (List.getD l (Int.toNat i) T.noSt)))),
        AV.str { data := List.toArray (Prod.fst (Prod.snd (Prod.snd (Prod.snd (List.getD l (Int.toNat i) T.noSt))))) },
        AV.int IntKind.i64 (Prod.fst (Prod.snd (Prod.snd (Prod.snd (Prod.snd (List.getD l (Int.toNat i) T.noSt)))))),
        AV.int IntKind.i64 (Prod.snd (Prod.snd (Prod.snd (Prod.snd (Prod.snd (List.getD l (Int.toNat i) T.noSt))))))],
        AObj.tok, AObj.tok]
        (q20_2 n_1 Post)))))
      (Post (AV.sl 1 (Seq.map encB (0 : UInt8) b) Tip.none) []) →
    AWP Try.prog 50 n_1 c20_5
      [(3, AV.sl 1 (Seq.map encB (0 : UInt8) b) Tip.none), (13, AV.sl 6 (Seq.map T.encSt T.noSt l) Tip.none), (14, AV.int IntKind.i64 n),
        (15, AV.int IntKind.i64 i)]
      [] (q20_2 n_1 Post) := fun l b n i n Post h => Go.Ab.AWP.loop' g20 (Cfg.live g20) c20_5 (by kernel_rfl) (by kernel_rfl) (Go.Ab.kc (by kernel_rfl) h)

-- 23
noncomputable def l23 : Nat → List Nat
  | 5 => [0, 3, 4]
  | 10 => [0, 3, 4]
  | _ => []
noncomputable def u23 : Nat → Bool
  | 10 => true
  | _ => false
noncomputable def m23 : Nat → Bool
  | _ => false
noncomputable def g23 : Cfg := { N := 75, live := l23, cut := u23, mu := m23, ret := rets }
noncomputable def c23 : Go.Code := Go.Ab.bodyOf Go.Proofs.Try.f23
noncomputable def q23_0 : Nat → (AV → List AObj → Prop) → AQ := fun (n : Nat) (Post : AV → List AObj → Prop) => endQ Try.prog (resultsOf Try.f23) Post
noncomputable def q23_1 : Nat → (AV → List AObj → Prop) → AQ := fun (n : Nat) (Post : AV → List AObj → Prop) => seqQ (fun (s' : Slots) (H' : List AObj) => awp Try.prog g23 n (codeSnd (codeSnd (codeSnd (codeSnd c23)))) s' H' (q23_0 n Post)) (q23_0 n Post)
noncomputable def q23_2 : Nat → (AV → List AObj → Prop) → AQ := fun (n : Nat) (Post : AV → List AObj → Prop) => blockQ 0 (q23_1 n Post)
noncomputable def c23_5 : Go.Code := codeFst (codeSnd (codeFst (codeSnd (codeSnd (codeSnd c23)))))
theorem s23 : ∀ (l : List T.St) (Post : AV → List AObj → Prop),
  (ASpec Try.prog 25 [AV.sl 6 (Seq.map T.encSt T.noSt l) Tip.none] [] fun (r : AV) (H' : List AObj) =>
      ∃ (x : Bool),
        r = AV.bool x ∧
        H' = [] ∧
        condP (!x) (Post (AV.str { data := #[] }) [])
        (ASpec Try.prog 150 [AV.int IntKind.i64 (↑(List.length l) : Int)] [] fun (r : AV) (H' : List AObj) =>
        ∃ (x : ByteArray),
        r = AV.str x ∧
        H' = [] ∧
        AWP Try.prog 75 0 c23_5 [(0, AV.sl 6 (Seq.map T.encSt T.noSt l) Tip.none), (3, AV.str x), (4, AV.int IntKind.i64 (0 : Int))] []
        (q23_2 0 Post))) →
    ASpec Try.prog 23 [AV.sl 6 (Seq.map T.encSt T.noSt l) Tip.none] [] Post := fun l Post h => Go.Ab.ASpec.of_vc g23 Go.Proofs.Try.func23 (by kernel_rfl) (by kernel_rfl) (by kernel_rfl) (Go.Ab.kc (by kernel_rfl) h)
noncomputable def q23_3 : Nat → (AV → List AObj → Prop) → AQ := fun (n : Nat) (Post : AV → List AObj → Prop) => loopQ Try.prog 75 n c23_5 (q23_2 n Post) (Cfg.live g23)
noncomputable def q23_4 : Nat → (AV → List AObj → Prop) → AQ := fun (n : Nat) (Post : AV → List AObj → Prop) => seqQ (fun (s' : Slots) (H' : List AObj) => awp Try.prog g23 n (codeSnd (codeSnd (codeFst c23_5))) s' H' (q23_3 n Post)) (q23_3 n Post)
noncomputable def q23_5 : Nat → (AV → List AObj → Prop) → AQ := fun (n : Nat) (Post : AV → List AObj → Prop) => blockQ 1 (q23_4 n Post)
noncomputable def c23_10 : Go.Code := codeSnd (codeSnd (codeFst (codeFst (codeSnd (codeFst c23_5)))))
theorem v23_5 : ∀ (l : List T.St) (s : ByteArray) (i : Int) (n : Nat) (Post : AV → List AObj → Prop),
  condP (decide (i < (↑(List.length l) : Int)))
      (needP ((0 : Int) ≤ i ∧ i < (↑(List.length l) : Int))
        (needP ((0 : Int) ≤ i ∧ i < (↑(List.length l) : Int))
        (ASpec Try.prog 150 [AV.int IntKind.i64 (Prod.fst (List.getD l (Int.toNat i) T.noSt))] [] fun (r : AV) (H' : List AObj) =>
        ∃ (x : ByteArray),
        r = AV.str x ∧
        H' = [] ∧
        (AV.str { data := List.toArray (Prod.fst (Prod.snd (List.getD l (Int.toNat i) T.noSt))) } = AV.str { data := List.toArray (Prod.fst (Prod.snd (List.getD l (Int.toNat i) T.noSt))) } ∧
        ([] : List AObj) = []) ∧
        needP ((↑(ByteArray.size s + ByteArray.size x) : Int) ≤ (9223372036854775807 : Int))
        (ASpec Try.prog 151 [AV.str { data := List.toArray (Prod.fst (Prod.snd (List.getD l (Int.toNat i) T.noSt))) }] [] fun (r : AV) (H' : List AObj) =>
        ∃ (x_1 : ByteArray),
        r = AV.str x_1 ∧
        H' = [] ∧
        needP ((↑(ByteArray.size (s ++ x) + ByteArray.size x_1) : Int) ≤ (9223372036854775807 : Int))
        (needP ((0 : Int) ≤ i ∧ i < (↑(List.length l) : Int))
        (condP (Prod.fst (List.getD l (Int.toNat i) T.noSt) == (3 : Int))
        (needP ((0 : Int) ≤ i ∧ i < (↑(List.length l) : Int))
        (needP ((0 : Int) ≤ i ∧ i < (↑(List.length l) : Int))
        (ASpec Try.prog 150 [AV.int IntKind.i64 (Prod.fst (Prod.snd (Prod.snd (List.getD l (Int.toNat i) T.noSt))))] [] fun (r : AV) (H' : List AObj) =>
        ∃ (x_2 : ByteArray),
        r = AV.str x_2 ∧
        H' = [] ∧
        (AV.str { data := List.toArray (Prod.fst (Prod.snd (Prod.snd (Prod.snd (List.getD l (Int.toNat i) T.noSt))))) } =
        AV.str { data := List.toArray (Prod.fst (Prod.snd (Prod.snd (Prod.snd (List.getD l (Int.toNat i) T.noSt))))) } ∧
        ([] : List AObj) = []) ∧
        needP ((↑(ByteArray.size (s ++ x ++ x_1) + ByteArray.size x_2) : Int) ≤ (9223372036854775807 : Int))
        (ASpec Try.prog 151 [AV.str { data := List.toArray (Prod.fst (Prod.snd (Prod.snd (Prod.snd (List.getD l (Int.toNat i) T.noSt))))) }] []
        fun (r : AV) (H' : List AObj) =>
        ∃ (x_3 : ByteArray),
        r = AV.str x_3 ∧
        H' = [] ∧
        needP ((↑(ByteArray.size (s ++ x ++ x_1 ++ x_2) + ByteArray.size x_3) : Int) ≤ (9223372036854775807 : Int))
        (AWP Try.prog 75 n c23_10
        [(0, AV.sl 6 (Seq.map T.encSt T.noSt l) Tip.none), (3, AV.str (s ++ x ++ x_1 ++ x_2 ++ x_3)),
        (4, AV.int IntKind.i64 i)]
        [] (q23_5 n Post))))))
        (AWP Try.prog 75 n c23_10
        [(0, AV.sl 6 (Seq.map T.encSt T.noSt l) Tip.none), (3, AV.str (s ++ x ++ x_1)), (4, AV.int IntKind.i64 i)] []
        (q23_5 n Post))))))))
      (Post (AV.str s) []) →
    AWP Try.prog 75 n c23_5 [(0, AV.sl 6 (Seq.map T.encSt T.noSt l) Tip.none), (3, AV.str s), (4, AV.int IntKind.i64 i)] [] (q23_2 n Post) := fun l s i n Post h => Go.Ab.AWP.loop' g23 (Cfg.live g23) c23_5 (by kernel_rfl) (by kernel_rfl) (Go.Ab.kc (by kernel_rfl) h)
theorem v23_10 : ∀ (l : List T.St) (s : ByteArray) (i : Int) (n : Nat) (Post : AV → List AObj → Prop),
  needP ((0 : Int) ≤ i ∧ i < (↑(List.length l) : Int))
      (condP (Prod.fst (List.getD l (Int.toNat i) T.noSt) == (4 : Int))
        (needP ((0 : Int) ≤ i ∧ i < (↑(List.length l) : Int))
        (needP ((0 : Int) ≤ i ∧ i < (↑(List.length l) : Int))
        (ASpec Try.prog 150 [AV.int IntKind.i64 (Prod.fst (Prod.snd (Prod.snd (Prod.snd (Prod.snd (List.getD l (Int.toNat i) T.noSt))))))] [] fun (r : AV) (H' : List AObj) =>
        ∃ (x : ByteArray),
        r = AV.str x ∧
        H' = [] ∧
        (AV.int IntKind.i64 (Prod.snd (Prod.snd (Prod.snd (Prod.snd (Prod.snd (List.getD l (Int.toNat i) T.noSt)))))) =
        AV.int IntKind.i64 (Prod.snd (Prod.snd (Prod.snd (Prod.snd (Prod.snd (List.getD l (Int.toNat i) T.noSt)))))) ∧
        ([] : List AObj) = []) ∧
        needP ((↑(ByteArray.size s + ByteArray.size x) : Int) ≤ (9223372036854775807 : Int))
        (ASpec Try.prog 150 [AV.int IntKind.i64 (Prod.snd (Prod.snd (Prod.snd (Prod.snd (Prod.snd (List.getD l (Int.toNat i) T.noSt))))))] [] fun (r : AV) (H' : List AObj) =>
        ∃ (x_1 : ByteArray),
        r = AV.str x_1 ∧
        H' = [] ∧
        needP ((↑(ByteArray.size (s ++ x) + ByteArray.size x_1) : Int) ≤ (9223372036854775807 : Int))
        (AWP Try.prog 75 n c23_5
        [(0, AV.sl 6 (Seq.map T.encSt T.noSt l) Tip.none), (3, AV.str (s ++ x ++ x_1)),
        (4, AV.int IntKind.i64 (IntKind.wrap IntKind.i64 (i + (1 : Int))))]
        [] (q23_2 n Post))))))
        (AWP Try.prog 75 n c23_5
        [(0, AV.sl 6 (Seq.map T.encSt T.noSt l) Tip.none), (3, AV.str s), (4, AV.int IntKind.i64 (IntKind.wrap IntKind.i64 (i + (1 : Int))))] [] (q23_2 n Post))) →
    AWP Try.prog 75 n c23_10 [(0, AV.sl 6 (Seq.map T.encSt T.noSt l) Tip.none), (3, AV.str s), (4, AV.int IntKind.i64 i)] [] (q23_5 n Post) := fun l s i n Post h => Go.Ab.awp_sound g23 n _ _ _ _ (Go.Ab.kc (by kernel_rfl) h)

-- 21
noncomputable def l21 : Nat → List Nat
  | 4 => [4, 5, 6]
  | 12 => [4, 5, 6, 7]
  | 13 => [4, 5]
  | _ => []
noncomputable def u21 : Nat → Bool
  | 12 => true
  | 13 => true
  | _ => false
noncomputable def m21 : Nat → Bool
  | _ => false
noncomputable def g21 : Cfg := { N := 62, live := l21, cut := u21, mu := m21, ret := rets }
noncomputable def c21 : Go.Code := Go.Ab.bodyOf Go.Proofs.Try.f21
noncomputable def q21_0 : Nat → (AV → List AObj → Prop) → AQ := fun (n : Nat) (Post : AV → List AObj → Prop) => endQ Try.prog (resultsOf Try.f21) Post
noncomputable def c21_13 : Go.Code := codeSnd (codeSnd (codeSnd (codeSnd c21)))
noncomputable def q21_1 : Nat → (AV → List AObj → Prop) → AQ := fun (n : Nat) (Post : AV → List AObj → Prop) => seqQ (fun (s' : Slots) (H' : List AObj) => AWP Try.prog (Cfg.N g21) n c21_13 (restrict s' (Cfg.live g21 13)) H' (q21_0 n Post)) (q21_0 n Post)
noncomputable def q21_2 : Nat → (AV → List AObj → Prop) → AQ := fun (n : Nat) (Post : AV → List AObj → Prop) => blockQ 0 (q21_1 n Post)
noncomputable def c21_4 : Go.Code := codeFst (codeSnd (codeFst (codeSnd (codeSnd (codeSnd c21)))))
theorem s21 : ∀ (bs : List UInt8) (Post : AV → List AObj → Prop),
  (ASpec Try.prog 142 [AV.sl 1 (Seq.map encB (0 : UInt8) bs) Tip.none] [] fun (r : AV) (H' : List AObj) =>
      ∃ (x : List UInt8),
        r = AV.ptr 0 0 ∧
        H' = [AObj.cells [AV.sl 1 (Seq.map encB (0 : UInt8) x) Tip.none, AV.int IntKind.i64 (0 : Int), AV.int IntKind.i64 (0 : Int)]] ∧
        ASpec Try.prog 143 [AV.ptr 0 0, AV.int IntKind.i64 (1048576 : Int)]
        [AObj.cells [AV.sl 1 (Seq.map encB (0 : UInt8) x) Tip.none, AV.int IntKind.i64 (0 : Int), AV.int IntKind.i64 (0 : Int)]] fun (r : AV) (H' : List AObj) =>
        ∃ (x_1 : Int × Int × Int),
        r = AV.int IntKind.i64 (Prod.fst x_1) ∧
        H' = [AObj.cells [AV.sl 1 (Seq.map encB (0 : UInt8) x) Tip.none, AV.int IntKind.i64 (Prod.fst (Prod.snd x_1)), AV.int IntKind.i64 (Prod.snd (Prod.snd x_1))]] ∧
        AWP Try.prog 62 0 c21_4 [(4, AV.ptr 0 0), (5, AV.sl 0 (Seq.raw []) Tip.nil), (6, AV.int IntKind.i64 (Prod.fst x_1))]
        [AObj.cells [AV.sl 1 (Seq.map encB (0 : UInt8) x) Tip.none, AV.int IntKind.i64 (Prod.fst (Prod.snd x_1)), AV.int IntKind.i64 (Prod.snd (Prod.snd x_1))]]
        (q21_2 0 Post)) →
    ASpec Try.prog 21 [AV.sl 1 (Seq.map encB (0 : UInt8) bs) Tip.none] [] Post := fun bs Post h => Go.Ab.ASpec.of_vc g21 Go.Proofs.Try.func21 (by kernel_rfl) (by kernel_rfl) (by kernel_rfl) (Go.Ab.kc (by kernel_rfl) h)
noncomputable def q21_3 : Nat → (AV → List AObj → Prop) → AQ := fun (n : Nat) (Post : AV → List AObj → Prop) => loopQ Try.prog 62 n c21_4 (q21_2 n Post) (Cfg.live g21)
noncomputable def q21_4 : Nat → (AV → List AObj → Prop) → AQ := fun (n : Nat) (Post : AV → List AObj → Prop) => seqQ (fun (s' : Slots) (H' : List AObj) => awp Try.prog g21 n (codeSnd (codeSnd (codeFst c21_4))) s' H' (q21_3 n Post)) (q21_3 n Post)
noncomputable def q21_5 : Nat → (AV → List AObj → Prop) → AQ := fun (n : Nat) (Post : AV → List AObj → Prop) => blockQ 1 (q21_4 n Post)
noncomputable def c21_12 : Go.Code := codeSnd (codeSnd (codeFst (codeFst (codeSnd (codeFst c21_4)))))
theorem v21_4 : ∀ (bs : List UInt8) (p e : Int) (acc : List T.St) (n : Int) (n_1 : Nat) (Post : AV → List AObj → Prop),
  condP (decide (n > (0 : Int)))
      (ASpec Try.prog 144 [AV.ptr 0 0] [AObj.cells [AV.sl 1 (Seq.map encB (0 : UInt8) bs) Tip.none, AV.int IntKind.i64 p, AV.int IntKind.i64 e], AObj.tok]
        fun (r : AV) (H' : List AObj) =>
        ∃ (x : Int),
        r = AV.int IntKind.i64 x ∧
        H' = [AObj.cells [AV.sl 1 (Seq.map encB (0 : UInt8) bs) Tip.none, AV.int IntKind.i64 p, AV.int IntKind.i64 e], AObj.tok] ∧
        condP (x == (0 : Int))
        (ASpec Try.prog 143 [AV.ptr 0 0, AV.int IntKind.i64 (4 : Int)]
        [AObj.cells [AV.sl 1 (Seq.map encB (0 : UInt8) bs) Tip.none, AV.int IntKind.i64 p, AV.int IntKind.i64 e], AObj.tok] fun (r : AV) (H' : List AObj) =>
        ∃ (x : Int × Int × Int),
        r = AV.int IntKind.i64 (Prod.fst x) ∧
        H' = [AObj.cells [AV.sl 1 (Seq.map encB (0 : UInt8) bs) Tip.none, AV.int IntKind.i64 (Prod.fst (Prod.snd x)), AV.int IntKind.i64 (Prod.snd (Prod.snd x))], AObj.tok] ∧
        ASpec Try.prog 145 [AV.ptr 0 0, AV.int IntKind.i64 (24 : Int)]
        [AObj.cells [AV.sl 1 (Seq.map encB (0 : UInt8) bs) Tip.none, AV.int IntKind.i64 (Prod.fst (Prod.snd x)), AV.int IntKind.i64 (Prod.snd (Prod.snd x))], AObj.tok]
        fun (r : AV) (H' : List AObj) =>
        ∃ (x_1 : ByteArray × Int × Int),
        r = AV.str (Prod.fst x_1) ∧
        H' =
        [AObj.cells [AV.sl 1 (Seq.map encB (0 : UInt8) bs) Tip.none, AV.int IntKind.i64 (Prod.fst (Prod.snd x_1)), AV.int IntKind.i64 (Prod.snd (Prod.snd x_1))],
        AObj.tok] ∧
        condP (Prod.fst x == (3 : Int))
        (ASpec Try.prog 143 [AV.ptr 0 0, AV.int IntKind.i64 (1000000000 : Int)]
        [AObj.cells [AV.sl 1 (Seq.map encB (0 : UInt8) bs) Tip.none, AV.int IntKind.i64 (Prod.fst (Prod.snd x_1)), AV.int IntKind.i64 (Prod.snd (Prod.snd x_1))],
        AObj.tok,
        AObj.cells
        [AV.int IntKind.i64 (Prod.fst x), AV.str (Prod.fst x_1), AV.int IntKind.i64 (0 : Int), AV.str { data := #[] }, AV.int IntKind.i64 (0 : Int),
        AV.int IntKind.i64 (0 : Int)]]
        fun (r : AV) (H' : List AObj) =>
        ∃ (x_2 : Int × Int × Int),
        r = AV.int IntKind.i64 (Prod.fst x_2) ∧
        H' =
        [AObj.cells
        [AV.sl 1 (Seq.map encB (0 : UInt8) bs) Tip.none, AV.int IntKind.i64 (Prod.fst (Prod.snd x_2)), AV.int IntKind.i64 (Prod.snd (Prod.snd x_2))],
        AObj.tok,
        AObj.cells
        [AV.int IntKind.i64 (Prod.fst x), AV.str (Prod.fst x_1), AV.int IntKind.i64 (0 : Int), AV.str { data := #[] }, AV.int IntKind.i64 (0 : Int),
        AV.int IntKind.i64 (0 : Int)]] ∧
        ASpec Try.prog 145 [AV.ptr 0 0, AV.int IntKind.i64 (24 : Int)]
        [AObj.cells
        [AV.sl 1 (Seq.map encB (0 : UInt8) bs) Tip.none, AV.int IntKind.i64 (Prod.fst (Prod.snd x_2)), AV.int IntKind.i64 (Prod.snd (Prod.snd x_2))],
        AObj.tok,
        AObj.cells
        [AV.int IntKind.i64 (Prod.fst x), AV.str (Prod.fst x_1), AV.int IntKind.i64 (0 : Int), AV.str { data := #[] }, AV.int IntKind.i64 (0 : Int),
        AV.int IntKind.i64 (0 : Int)]]
        fun (r : AV) (H' : List AObj) =>
        ∃ (x_3 : ByteArray × Int × Int),
        r = AV.str (Prod.fst x_3) ∧
        H' =
        [AObj.cells
        [AV.sl 1 (Seq.map encB (0 : UInt8) bs) Tip.none, AV.int IntKind.i64 (Prod.fst (Prod.snd x_3)),
        AV.int IntKind.i64 (Prod.snd (Prod.snd x_3))],
        AObj.tok,
        AObj.cells
        [AV.int IntKind.i64 (Prod.fst x), AV.str (Prod.fst x_1), AV.int IntKind.i64 (0 : Int), AV.str { data := #[] }, AV.int IntKind.i64 (0 : Int),
        AV.int IntKind.i64 (0 : Int)]] ∧
        AWP Try.prog 62 n_1 c21_12
        [(4, AV.ptr 0 0), (5, AV.sl 6 (Seq.map T.encSt T.noSt acc) (Tip.tok 1)),
        (6, AV.int IntKind.i64 n), (7, AV.ptr 2 0)]
        [AObj.cells
        [AV.sl 1 (Seq.map encB (0 : UInt8) bs) Tip.none, AV.int IntKind.i64 (Prod.fst (Prod.snd x_3)),
        AV.int IntKind.i64 (Prod.snd (Prod.snd x_3))],
        AObj.tok,
        AObj.cells
        [AV.int IntKind.i64 (Prod.fst x), AV.str (Prod.fst x_1), AV.int IntKind.i64 (Prod.fst x_2), AV.str (Prod.fst x_3), AV.int IntKind.i64 (0 : Int),
        AV.int IntKind.i64 (0 : Int)]]
        (q21_5 n_1 Post))
        (condP (Prod.fst x == (4 : Int))
        (ASpec Try.prog 143 [AV.ptr 0 0, AV.int IntKind.i64 (1048576 : Int)]
        [AObj.cells [AV.sl 1 (Seq.map encB (0 : UInt8) bs) Tip.none, AV.int IntKind.i64 (Prod.fst (Prod.snd x_1)), AV.int IntKind.i64 (Prod.snd (Prod.snd x_1))],
        AObj.tok,
        AObj.cells
        [AV.int IntKind.i64 (Prod.fst x), AV.str (Prod.fst x_1), AV.int IntKind.i64 (0 : Int), AV.str { data := #[] }, AV.int IntKind.i64 (0 : Int),
        AV.int IntKind.i64 (0 : Int)]]
        fun (r : AV) (H' : List AObj) =>
        ∃ (x_2 : Int × Int × Int),
        r = AV.int IntKind.i64 (Prod.fst x_2) ∧
        H' =
        [AObj.cells
        [AV.sl 1 (Seq.map encB (0 : UInt8) bs) Tip.none, AV.int IntKind.i64 (Prod.fst (Prod.snd x_2)), AV.int IntKind.i64 (Prod.snd (Prod.snd x_2))],
        AObj.tok,
        AObj.cells
        [AV.int IntKind.i64 (Prod.fst x), AV.str (Prod.fst x_1), AV.int IntKind.i64 (0 : Int), AV.str { data := #[] }, AV.int IntKind.i64 (0 : Int),
        AV.int IntKind.i64 (0 : Int)]] ∧
        ASpec Try.prog 143 [AV.ptr 0 0, AV.int IntKind.i64 (1048576 : Int)]
        [AObj.cells
        [AV.sl 1 (Seq.map encB (0 : UInt8) bs) Tip.none, AV.int IntKind.i64 (Prod.fst (Prod.snd x_2)), AV.int IntKind.i64 (Prod.snd (Prod.snd x_2))],
        AObj.tok,
        AObj.cells
        [AV.int IntKind.i64 (Prod.fst x), AV.str (Prod.fst x_1), AV.int IntKind.i64 (0 : Int), AV.str { data := #[] }, AV.int IntKind.i64 (0 : Int),
        AV.int IntKind.i64 (0 : Int)]]
        fun (r : AV) (H' : List AObj) =>
        ∃ (x_3 : Int × Int × Int),
        r = AV.int IntKind.i64 (Prod.fst x_3) ∧
        H' =
        [AObj.cells
        [AV.sl 1 (Seq.map encB (0 : UInt8) bs) Tip.none, AV.int IntKind.i64 (Prod.fst (Prod.snd x_3)),
        AV.int IntKind.i64 (Prod.snd (Prod.snd x_3))],
        AObj.tok,
        AObj.cells
        [AV.int IntKind.i64 (Prod.fst x), AV.str (Prod.fst x_1), AV.int IntKind.i64 (0 : Int), AV.str { data := #[] }, AV.int IntKind.i64 (0 : Int),
        AV.int IntKind.i64 (0 : Int)]] ∧
        AWP Try.prog 62 n_1 c21_12
        [(4, AV.ptr 0 0), (5, AV.sl 6 (Seq.map T.encSt T.noSt acc) (Tip.tok 1)),
        (6, AV.int IntKind.i64 n), (7, AV.ptr 2 0)]
        [AObj.cells
        [AV.sl 1 (Seq.map encB (0 : UInt8) bs) Tip.none, AV.int IntKind.i64 (Prod.fst (Prod.snd x_3)),
        AV.int IntKind.i64 (Prod.snd (Prod.snd x_3))],
        AObj.tok,
        AObj.cells
        [AV.int IntKind.i64 (Prod.fst x), AV.str (Prod.fst x_1), AV.int IntKind.i64 (0 : Int), AV.str { data := #[] },
        AV.int IntKind.i64 (Prod.fst x_2), AV.int IntKind.i64 (Prod.fst x_3)]]
        (q21_5 n_1 Post))
        (AWP Try.prog 62 n_1 c21_12
        [(4, AV.ptr 0 0), (5, AV.sl 6 (Seq.map T.encSt T.noSt acc) (Tip.tok 1)), (6, AV.int IntKind.i64 n),
        (7, AV.ptr 2 0)]
        [AObj.cells [AV.sl 1 (Seq.map encB (0 : UInt8) bs) Tip.none, AV.int IntKind.i64 (Prod.fst (Prod.snd x_1)), AV.int IntKind.i64 (Prod.snd (Prod.snd x_1))],
        AObj.tok,
        AObj.cells
        [AV.int IntKind.i64 (Prod.fst x), AV.str (Prod.fst x_1), AV.int IntKind.i64 (0 : Int), AV.str { data := #[] }, AV.int IntKind.i64 (0 : Int),
        AV.int IntKind.i64 (0 : Int)]]
        (q21_5 n_1 Post))))
        (AWP Try.prog 62 n_1 c21_13 [(4, AV.ptr 0 0), (5, AV.sl 6 (Seq.map T.encSt T.noSt acc) (Tip.tok 1))]
        [AObj.cells [AV.sl 1 (Seq.map encB (0 : UInt8) bs) Tip.none, AV.int IntKind.i64 p, AV.int IntKind.i64 e], AObj.tok] (q21_0 n_1 Post)))
      (AWP Try.prog 62 n_1 c21_13 [(4, AV.ptr 0 0), (5, AV.sl 6 (Seq.map T.encSt T.noSt acc) (Tip.tok 1))]
        [AObj.cells [AV.sl 1 (Seq.map encB (0 : UInt8) bs) Tip.none, AV.int IntKind.i64 p, AV.int IntKind.i64 e], AObj.tok] (q21_0 n_1 Post)) →
    AWP Try.prog 62 n_1 c21_4 [(4, AV.ptr 0 0), (5, AV.sl 6 (Seq.map T.encSt T.noSt acc) (Tip.tok 1)), (6, AV.int IntKind.i64 n)]
      [V.rd bs p e, AObj.tok] (q21_2 n_1 Post) := fun bs p e acc n n Post h => Go.Ab.AWP.loop' g21 (Cfg.live g21) c21_4 (by kernel_rfl) (by kernel_rfl) (Go.Ab.kc (by kernel_rfl) h)
theorem v21_12 : ∀ (bs : List UInt8) (p e : Int) (acc : List T.St) (n : Int) (x : T.St) (n_1 : Nat) (Post : AV → List AObj → Prop),
  needP ((List.length acc + 1) * 64 ≤ 140737488351232)
      (AWP Try.prog 62 n_1 c21_4
        [(4, AV.ptr 0 0),
        (5,
        AV.sl 6
        (Seq.app (Seq.map T.encSt T.noSt acc)
        (Seq.raw
        [[AV.int IntKind.i64 (Prod.fst x), AV.str { data := List.toArray (Prod.fst (Prod.snd x)) }, AV.int IntKind.i64 (Prod.fst (Prod.snd (Prod.snd x))),
        AV.str { data := List.toArray (Prod.fst (Prod.snd (Prod.snd (Prod.snd x)))) }, AV.int IntKind.i64 (Prod.fst (Prod.snd (Prod.snd (Prod.snd (Prod.snd x))))),
        AV.int IntKind.i64 (Prod.snd (Prod.snd (Prod.snd (Prod.snd (Prod.snd x)))))]]))
        (Tip.tok 3)),
        (6, AV.int IntKind.i64 (IntKind.wrap IntKind.i64 (n - (1 : Int))))]
        [AObj.cells [AV.sl 1 (Seq.map encB (0 : UInt8) bs) Tip.none, AV.int IntKind.i64 p, AV.int IntKind.i64 e], AObj.gone,
        AObj.cells
        [AV.int IntKind.i64 (Prod.fst x), AV.str { data := List.toArray (Prod.fst (Prod.snd x)) }, AV.int IntKind.i64 (Prod.fst (Prod.snd (Prod.snd x))),
        AV.str { data := List.toArray (Prod.fst (Prod.snd (Prod.snd (Prod.snd x)))) }, AV.int IntKind.i64 (Prod.fst (Prod.snd (Prod.snd (Prod.snd (Prod.snd x))))),
        AV.int IntKind.i64 (Prod.snd (Prod.snd (Prod.snd (Prod.snd (Prod.snd x)))))],
        AObj.tok]
        (q21_2 n_1 Post)) →
    AWP Try.prog 62 n_1 c21_12
      [(4, AV.ptr 0 0), (5, AV.sl 6 (Seq.map T.encSt T.noSt acc) (Tip.tok 1)), (6, AV.int IntKind.i64 n),
        (7, AV.ptr 2 0)]
      [V.rd bs p e, AObj.tok, AObj.cells (T.encSt x)] (q21_5 n_1 Post) := fun bs p e acc n x n Post h => Go.Ab.awp_sound g21 n _ _ _ _ (Go.Ab.kc (by kernel_rfl) h)
theorem v21_13 : ∀ (bs : List UInt8) (p e : Int) (acc : List T.St) (n : Nat) (Post : AV → List AObj → Prop),
  (ASpec Try.prog 146 [AV.ptr 0 0] [AObj.cells [AV.sl 1 (Seq.map encB (0 : UInt8) bs) Tip.none, AV.int IntKind.i64 p, AV.int IntKind.i64 e], AObj.tok]
      fun (r : AV) (H' : List AObj) =>
      ∃ (x : Int),
        r = AV.int IntKind.i64 x ∧
        H' = [AObj.cells [AV.sl 1 (Seq.map encB (0 : UInt8) bs) Tip.none, AV.int IntKind.i64 p, AV.int IntKind.i64 e], AObj.tok] ∧
        condP (x == (0 : Int))
        (ASpec Try.prog 123 [AV.sl 6 (Seq.map T.encSt T.noSt acc) (Tip.tok 1)]
        [AObj.cells [AV.sl 1 (Seq.map encB (0 : UInt8) bs) Tip.none, AV.int IntKind.i64 p, AV.int IntKind.i64 e], AObj.tok] fun (r : AV) (H' : List AObj) =>
        ∃ (x_1 : Bool),
        r = AV.bool x_1 ∧
        H' = [AObj.cells [AV.sl 1 (Seq.map encB (0 : UInt8) bs) Tip.none, AV.int IntKind.i64 p, AV.int IntKind.i64 e], AObj.tok] ∧
        condP (!x_1)
        (Post (AV.tup [AV.sl 0 (Seq.raw []) Tip.nil, AV.int IntKind.i64 (3 : Int)])
        [AObj.cells [AV.sl 1 (Seq.map encB (0 : UInt8) bs) Tip.none, AV.int IntKind.i64 p, AV.int IntKind.i64 e], AObj.tok])
        (condP (x != (0 : Int))
        (Post (AV.tup [AV.sl 0 (Seq.raw []) Tip.nil, AV.int IntKind.i64 x])
        [AObj.cells [AV.sl 1 (Seq.map encB (0 : UInt8) bs) Tip.none, AV.int IntKind.i64 p, AV.int IntKind.i64 e], AObj.tok])
        (Post (AV.tup [AV.sl 6 (Seq.map T.encSt T.noSt acc) (Tip.tok 1), AV.int IntKind.i64 (0 : Int)])
        [AObj.cells [AV.sl 1 (Seq.map encB (0 : UInt8) bs) Tip.none, AV.int IntKind.i64 p, AV.int IntKind.i64 e], AObj.tok])))
        (condP (x != (0 : Int))
        (Post (AV.tup [AV.sl 0 (Seq.raw []) Tip.nil, AV.int IntKind.i64 x])
        [AObj.cells [AV.sl 1 (Seq.map encB (0 : UInt8) bs) Tip.none, AV.int IntKind.i64 p, AV.int IntKind.i64 e], AObj.tok])
        (Post (AV.tup [AV.sl 6 (Seq.map T.encSt T.noSt acc) (Tip.tok 1), AV.int IntKind.i64 (0 : Int)])
        [AObj.cells [AV.sl 1 (Seq.map encB (0 : UInt8) bs) Tip.none, AV.int IntKind.i64 p, AV.int IntKind.i64 e], AObj.tok]))) →
    AWP Try.prog 62 n c21_13 [(4, AV.ptr 0 0), (5, AV.sl 6 (Seq.map T.encSt T.noSt acc) (Tip.tok 1))] [V.rd bs p e, AObj.tok] (q21_0 n Post) := fun bs p e acc n Post h => Go.Ab.awp_sound g21 n _ _ _ _ (Go.Ab.kc (by kernel_rfl) h)

-- 22
noncomputable def l22 : Nat → List Nat
  | 5 => [4, 5, 6, 7]
  | 11 => [4, 5, 6, 7, 8]
  | 14 => [4, 5, 6, 7, 8]
  | 15 => [4, 6]
  | _ => []
noncomputable def u22 : Nat → Bool
  | 11 => true
  | 14 => true
  | 15 => true
  | _ => false
noncomputable def m22 : Nat → Bool
  | _ => false
noncomputable def g22 : Cfg := { N := 67, live := l22, cut := u22, mu := m22, ret := rets }
noncomputable def c22 : Go.Code := Go.Ab.bodyOf Go.Proofs.Try.f22
noncomputable def q22_0 : Nat → (AV → List AObj → Prop) → AQ := fun (n : Nat) (Post : AV → List AObj → Prop) => endQ Try.prog (resultsOf Try.f22) Post
noncomputable def c22_15 : Go.Code := codeSnd (codeSnd (codeSnd (codeSnd (codeSnd c22))))
noncomputable def q22_1 : Nat → (AV → List AObj → Prop) → AQ := fun (n : Nat) (Post : AV → List AObj → Prop) => seqQ (fun (s' : Slots) (H' : List AObj) => AWP Try.prog (Cfg.N g22) n c22_15 (restrict s' (Cfg.live g22 15)) H' (q22_0 n Post)) (q22_0 n Post)
noncomputable def q22_2 : Nat → (AV → List AObj → Prop) → AQ := fun (n : Nat) (Post : AV → List AObj → Prop) => blockQ 0 (q22_1 n Post)
noncomputable def c22_5 : Go.Code := codeFst (codeSnd (codeFst (codeSnd (codeSnd (codeSnd (codeSnd c22))))))
theorem s22 : ∀ (s : ByteArray) (Post : AV → List AObj → Prop),
  (ASpec Try.prog 147 [AV.ptr 0 0, AV.int IntKind.i64 (1048576 : Int)] [AObj.cells [AV.str s, AV.int IntKind.i64 (0 : Int)]] fun (r : AV) (H' : List AObj) =>
      ∃ (x : Int × ByteArray × Int),
        r = AV.int IntKind.i64 (Prod.fst x) ∧
        H' = [AObj.cells [AV.str (Prod.fst (Prod.snd x)), AV.int IntKind.i64 (Prod.snd (Prod.snd x))]] ∧
        AWP Try.prog 67 0 c22_5
        [(4, AV.ptr 0 0), (5, AV.int IntKind.i64 (Prod.fst x)), (6, AV.sl 0 (Seq.raw []) Tip.nil), (7, AV.int IntKind.i64 (0 : Int))]
        [AObj.cells [AV.str (Prod.fst (Prod.snd x)), AV.int IntKind.i64 (Prod.snd (Prod.snd x))]] (q22_2 0 Post)) →
    ASpec Try.prog 22 [AV.str s] [] Post := fun s Post h => Go.Ab.ASpec.of_vc g22 Go.Proofs.Try.func22 (by kernel_rfl) (by kernel_rfl) (by kernel_rfl) (Go.Ab.kc (by kernel_rfl) h)
noncomputable def q22_3 : Nat → (AV → List AObj → Prop) → AQ := fun (n : Nat) (Post : AV → List AObj → Prop) => loopQ Try.prog 67 n c22_5 (q22_2 n Post) (Cfg.live g22)
noncomputable def q22_4 : Nat → (AV → List AObj → Prop) → AQ := fun (n : Nat) (Post : AV → List AObj → Prop) => seqQ (fun (s' : Slots) (H' : List AObj) => awp Try.prog g22 n (codeSnd (codeSnd (codeFst c22_5))) s' H' (q22_3 n Post)) (q22_3 n Post)
noncomputable def q22_5 : Nat → (AV → List AObj → Prop) → AQ := fun (n : Nat) (Post : AV → List AObj → Prop) => blockQ 1 (q22_4 n Post)
noncomputable def c22_11 : Go.Code := codeSnd (codeSnd (codeFst (codeFst (codeSnd (codeFst c22_5)))))
theorem v22_5 : ∀ (s : ByteArray) (e n : Int) (acc : List T.St) (i : Int) (n_1 : Nat) (Post : AV → List AObj → Prop),
  condP (decide (i < n))
      (condP (e == (0 : Int))
        (ASpec Try.prog 147 [AV.ptr 0 0, AV.int IntKind.i64 (4 : Int)] [AObj.cells [AV.str s, AV.int IntKind.i64 e], AObj.tok] fun (r : AV) (H' : List AObj) =>
        ∃ (x : Int × ByteArray × Int),
        r = AV.int IntKind.i64 (Prod.fst x) ∧
        H' = [AObj.cells [AV.str (Prod.fst (Prod.snd x)), AV.int IntKind.i64 (Prod.snd (Prod.snd x))], AObj.tok] ∧
        ASpec Try.prog 148 [AV.ptr 0 0, AV.int IntKind.i64 (24 : Int)]
        [AObj.cells [AV.str (Prod.fst (Prod.snd x)), AV.int IntKind.i64 (Prod.snd (Prod.snd x))], AObj.tok] fun (r : AV) (H' : List AObj) =>
        ∃ (x_1 : ByteArray × ByteArray × Int),
        r = AV.str (Prod.fst x_1) ∧
        H' = [AObj.cells [AV.str (Prod.fst (Prod.snd x_1)), AV.int IntKind.i64 (Prod.snd (Prod.snd x_1))], AObj.tok] ∧
        condP (Prod.fst x == (3 : Int))
        (ASpec Try.prog 147 [AV.ptr 0 0, AV.int IntKind.i64 (1000000000 : Int)]
        [AObj.cells [AV.str (Prod.fst (Prod.snd x_1)), AV.int IntKind.i64 (Prod.snd (Prod.snd x_1))], AObj.tok,
        AObj.cells
        [AV.int IntKind.i64 (Prod.fst x), AV.str (Prod.fst x_1), AV.int IntKind.i64 (0 : Int), AV.str { data := #[] }, AV.int IntKind.i64 (0 : Int),
        AV.int IntKind.i64 (0 : Int)]]
        fun (r : AV) (H' : List AObj) =>
        ∃ (x_2 : Int × ByteArray × Int),
        r = AV.int IntKind.i64 (Prod.fst x_2) ∧
        H' =
        [AObj.cells [AV.str (Prod.fst (Prod.snd x_2)), AV.int IntKind.i64 (Prod.snd (Prod.snd x_2))], AObj.tok,
        AObj.cells
        [AV.int IntKind.i64 (Prod.fst x), AV.str (Prod.fst x_1), AV.int IntKind.i64 (0 : Int), AV.str { data := #[] }, AV.int IntKind.i64 (0 : Int),
        AV.int IntKind.i64 (0 : Int)]] ∧
        ASpec Try.prog 148 [AV.ptr 0 0, AV.int IntKind.i64 (24 : Int)]
        [AObj.cells [AV.str (Prod.fst (Prod.snd x_2)), AV.int IntKind.i64 (Prod.snd (Prod.snd x_2))], AObj.tok,
        AObj.cells
        [AV.int IntKind.i64 (Prod.fst x), AV.str (Prod.fst x_1), AV.int IntKind.i64 (Prod.fst x_2), AV.str { data := #[] }, AV.int IntKind.i64 (0 : Int),
        AV.int IntKind.i64 (0 : Int)]]
        fun (r : AV) (H' : List AObj) =>
        ∃ (x_3 : ByteArray × ByteArray × Int),
        r = AV.str (Prod.fst x_3) ∧
        H' =
        [AObj.cells [AV.str (Prod.fst (Prod.snd x_3)), AV.int IntKind.i64 (Prod.snd (Prod.snd x_3))], AObj.tok,
        AObj.cells
        [AV.int IntKind.i64 (Prod.fst x), AV.str (Prod.fst x_1), AV.int IntKind.i64 (Prod.fst x_2), AV.str { data := #[] }, AV.int IntKind.i64 (0 : Int),
        AV.int IntKind.i64 (0 : Int)]] ∧
        AWP Try.prog 67 n_1 c22_11
        [(4, AV.ptr 0 0), (5, AV.int IntKind.i64 n), (6, AV.sl 6 (Seq.map T.encSt T.noSt acc) (Tip.tok 1)),
        (7, AV.int IntKind.i64 i), (8, AV.ptr 2 0)]
        [AObj.cells [AV.str (Prod.fst (Prod.snd x_3)), AV.int IntKind.i64 (Prod.snd (Prod.snd x_3))], AObj.tok,
        AObj.cells
        [AV.int IntKind.i64 (Prod.fst x), AV.str (Prod.fst x_1), AV.int IntKind.i64 (Prod.fst x_2), AV.str (Prod.fst x_3), AV.int IntKind.i64 (0 : Int),
        AV.int IntKind.i64 (0 : Int)]]
        (q22_5 n_1 Post))
        (AWP Try.prog 67 n_1 c22_11
        [(4, AV.ptr 0 0), (5, AV.int IntKind.i64 n), (6, AV.sl 6 (Seq.map T.encSt T.noSt acc) (Tip.tok 1)),
        (7, AV.int IntKind.i64 i), (8, AV.ptr 2 0)]
        [AObj.cells [AV.str (Prod.fst (Prod.snd x_1)), AV.int IntKind.i64 (Prod.snd (Prod.snd x_1))], AObj.tok,
        AObj.cells
        [AV.int IntKind.i64 (Prod.fst x), AV.str (Prod.fst x_1), AV.int IntKind.i64 (0 : Int), AV.str { data := #[] }, AV.int IntKind.i64 (0 : Int),
        AV.int IntKind.i64 (0 : Int)]]
        (q22_5 n_1 Post)))
        (AWP Try.prog 67 n_1 c22_15 [(4, AV.ptr 0 0), (6, AV.sl 6 (Seq.map T.encSt T.noSt acc) (Tip.tok 1))]
        [AObj.cells [AV.str s, AV.int IntKind.i64 e], AObj.tok] (q22_0 n_1 Post)))
      (AWP Try.prog 67 n_1 c22_15 [(4, AV.ptr 0 0), (6, AV.sl 6 (Seq.map T.encSt T.noSt acc) (Tip.tok 1))]
        [AObj.cells [AV.str s, AV.int IntKind.i64 e], AObj.tok] (q22_0 n_1 Post)) →
    AWP Try.prog 67 n_1 c22_5
      [(4, AV.ptr 0 0), (5, AV.int IntKind.i64 n), (6, AV.sl 6 (Seq.map T.encSt T.noSt acc) (Tip.tok 1)), (7, AV.int IntKind.i64 i)]
      [AObj.cells [AV.str s, AV.int IntKind.i64 e], AObj.tok] (q22_2 n_1 Post) := fun s e n acc i n Post h => Go.Ab.AWP.loop' g22 (Cfg.live g22) c22_5 (by kernel_rfl) (by kernel_rfl) (Go.Ab.kc (by kernel_rfl) h)
noncomputable def c22_14 : Go.Code := codeSnd c22_11
theorem v22_11 : ∀ (s : ByteArray) (e n : Int) (acc : List T.St) (i : Int) (x : T.St) (n_1 : Nat) (Post : AV → List AObj → Prop),
  condP (Prod.fst x == (4 : Int))
      (ASpec Try.prog 147 [AV.ptr 0 0, AV.int IntKind.i64 (1048576 : Int)]
        [AObj.cells [AV.str s, AV.int IntKind.i64 e], AObj.tok,
        AObj.cells
        [AV.int IntKind.i64 (Prod.fst x), AV.str { data := List.toArray (Prod.fst (Prod.snd x)) }, AV.int IntKind.i64 (Prod.fst (Prod.snd (Prod.snd x))),
        AV.str { data := List.toArray (Prod.fst (Prod.snd (Prod.snd (Prod.snd x)))) }, AV.int IntKind.i64 (Prod.fst (Prod.snd (Prod.snd (Prod.snd (Prod.snd x))))),
        AV.int IntKind.i64 (Prod.snd (Prod.snd (Prod.snd (Prod.snd (Prod.snd x)))))]]
        fun (r : AV) (H' : List AObj) =>
        ∃ (x_1 : Int × ByteArray × Int),
        r = AV.int IntKind.i64 (Prod.fst x_1) ∧
        H' =
        [AObj.cells [AV.str (Prod.fst (Prod.snd x_1)), AV.int IntKind.i64 (Prod.snd (Prod.snd x_1))], AObj.tok,
        AObj.cells
        [AV.int IntKind.i64 (Prod.fst x), AV.str { data := List.toArray (Prod.fst (Prod.snd x)) }, AV.int IntKind.i64 (Prod.fst (Prod.snd (Prod.snd x))),
        AV.str { data := List.toArray (Prod.fst (Prod.snd (Prod.snd (Prod.snd x)))) }, AV.int IntKind.i64 (Prod.fst (Prod.snd (Prod.snd (Prod.snd (Prod.snd x))))),
        AV.int IntKind.i64 (Prod.snd (Prod.snd (Prod.snd (Prod.snd (Prod.snd x)))))]] ∧
        ASpec Try.prog 147 [AV.ptr 0 0, AV.int IntKind.i64 (1048576 : Int)]
        [AObj.cells [AV.str (Prod.fst (Prod.snd x_1)), AV.int IntKind.i64 (Prod.snd (Prod.snd x_1))], AObj.tok,
        AObj.cells
        [AV.int IntKind.i64 (Prod.fst x), AV.str { data := List.toArray (Prod.fst (Prod.snd x)) }, AV.int IntKind.i64 (Prod.fst (Prod.snd (Prod.snd x))),
        AV.str { data := List.toArray (Prod.fst (Prod.snd (Prod.snd (Prod.snd x)))) }, AV.int IntKind.i64 (Prod.fst x_1),
        AV.int IntKind.i64 (Prod.snd (Prod.snd (Prod.snd (Prod.snd (Prod.snd x)))))]]
        fun (r : AV) (H' : List AObj) =>
        ∃ (x_2 : Int × ByteArray × Int),
        r = AV.int IntKind.i64 (Prod.fst x_2) ∧
        H' =
        [AObj.cells [AV.str (Prod.fst (Prod.snd x_2)), AV.int IntKind.i64 (Prod.snd (Prod.snd x_2))], AObj.tok,
        AObj.cells
        [AV.int IntKind.i64 (Prod.fst x), AV.str { data := List.toArray (Prod.fst (Prod.snd x)) }, AV.int IntKind.i64 (Prod.fst (Prod.snd (Prod.snd x))),
        AV.str { data := List.toArray (Prod.fst (Prod.snd (Prod.snd (Prod.snd x)))) }, AV.int IntKind.i64 (Prod.fst x_1),
        AV.int IntKind.i64 (Prod.snd (Prod.snd (Prod.snd (Prod.snd (Prod.snd x)))))]] ∧
        AWP Try.prog 67 n_1 c22_14
        [(4, AV.ptr 0 0), (5, AV.int IntKind.i64 n), (6, AV.sl 6 (Seq.map T.encSt T.noSt acc) (Tip.tok 1)),
        (7, AV.int IntKind.i64 i), (8, AV.ptr 2 0)]
        [AObj.cells [AV.str (Prod.fst (Prod.snd x_2)), AV.int IntKind.i64 (Prod.snd (Prod.snd x_2))], AObj.tok,
        AObj.cells
        [AV.int IntKind.i64 (Prod.fst x), AV.str { data := List.toArray (Prod.fst (Prod.snd x)) }, AV.int IntKind.i64 (Prod.fst (Prod.snd (Prod.snd x))),
        AV.str { data := List.toArray (Prod.fst (Prod.snd (Prod.snd (Prod.snd x)))) }, AV.int IntKind.i64 (Prod.fst x_1), AV.int IntKind.i64 (Prod.fst x_2)]]
        (q22_5 n_1 Post))
      (AWP Try.prog 67 n_1 c22_14
        [(4, AV.ptr 0 0), (5, AV.int IntKind.i64 n), (6, AV.sl 6 (Seq.map T.encSt T.noSt acc) (Tip.tok 1)), (7, AV.int IntKind.i64 i),
        (8, AV.ptr 2 0)]
        [AObj.cells [AV.str s, AV.int IntKind.i64 e], AObj.tok,
        AObj.cells
        [AV.int IntKind.i64 (Prod.fst x), AV.str { data := List.toArray (Prod.fst (Prod.snd x)) }, AV.int IntKind.i64 (Prod.fst (Prod.snd (Prod.snd x))),
        AV.str { data := List.toArray (Prod.fst (Prod.snd (Prod.snd (Prod.snd x)))) }, AV.int IntKind.i64 (Prod.fst (Prod.snd (Prod.snd (Prod.snd (Prod.snd x))))),
        AV.int IntKind.i64 (Prod.snd (Prod.snd (Prod.snd (Prod.snd (Prod.snd x)))))]]
        (q22_5 n_1 Post)) →
    AWP Try.prog 67 n_1 c22_11
      [(4, AV.ptr 0 0), (5, AV.int IntKind.i64 n), (6, AV.sl 6 (Seq.map T.encSt T.noSt acc) (Tip.tok 1)), (7, AV.int IntKind.i64 i),
        (8, AV.ptr 2 0)]
      [AObj.cells [AV.str s, AV.int IntKind.i64 e], AObj.tok, AObj.cells (T.encSt x)] (q22_5 n_1 Post) := fun s e n acc i x n Post h => Go.Ab.awp_sound g22 n _ _ _ _ (Go.Ab.kc (by kernel_rfl) h)
theorem v22_14 : ∀ (s : ByteArray) (e n : Int) (acc : List T.St) (i : Int) (x : T.St) (n_1 : Nat) (Post : AV → List AObj → Prop),
  needP ((List.length acc + 1) * 64 ≤ 140737488351232)
      (AWP Try.prog 67 n_1 c22_5
        [(4, AV.ptr 0 0), (5, AV.int IntKind.i64 n),
        (6,
        AV.sl 6
        (Seq.app (Seq.map T.encSt T.noSt acc)
        (Seq.raw
        [[AV.int IntKind.i64 (Prod.fst x), AV.str { data := List.toArray (Prod.fst (Prod.snd x)) }, AV.int IntKind.i64 (Prod.fst (Prod.snd (Prod.snd x))),
        AV.str { data := List.toArray (Prod.fst (Prod.snd (Prod.snd (Prod.snd x)))) }, AV.int IntKind.i64 (Prod.fst (Prod.snd (Prod.snd (Prod.snd (Prod.snd x))))),
        AV.int IntKind.i64 (Prod.snd (Prod.snd (Prod.snd (Prod.snd (Prod.snd x)))))]]))
        (Tip.tok 3)),
        (7, AV.int IntKind.i64 (IntKind.wrap IntKind.i64 (i + (1 : Int))))]
        [AObj.cells [AV.str s, AV.int IntKind.i64 e], AObj.gone,
        AObj.cells
        [AV.int IntKind.i64 (Prod.fst x), AV.str { data := List.toArray (Prod.fst (Prod.snd x)) }, AV.int IntKind.i64 (Prod.fst (Prod.snd (Prod.snd x))),
        AV.str { data := List.toArray (Prod.fst (Prod.snd (Prod.snd (Prod.snd x)))) }, AV.int IntKind.i64 (Prod.fst (Prod.snd (Prod.snd (Prod.snd (Prod.snd x))))),
        AV.int IntKind.i64 (Prod.snd (Prod.snd (Prod.snd (Prod.snd (Prod.snd x)))))],
        AObj.tok]
        (q22_2 n_1 Post)) →
    AWP Try.prog 67 n_1 c22_14
      [(4, AV.ptr 0 0), (5, AV.int IntKind.i64 n), (6, AV.sl 6 (Seq.map T.encSt T.noSt acc) (Tip.tok 1)), (7, AV.int IntKind.i64 i),
        (8, AV.ptr 2 0)]
      [AObj.cells [AV.str s, AV.int IntKind.i64 e], AObj.tok, AObj.cells (T.encSt x)] (q22_5 n_1 Post) := fun s e n acc i x n Post h => Go.Ab.awp_sound g22 n _ _ _ _ (Go.Ab.kc (by kernel_rfl) h)
theorem v22_15 : ∀ (s : ByteArray) (e : Int) (acc : List T.St) (n : Nat) (Post : AV → List AObj → Prop),
  (ASpec Try.prog 149 [AV.ptr 0 0] [AObj.cells [AV.str s, AV.int IntKind.i64 e], AObj.tok] fun (r : AV) (H' : List AObj) =>
      ∃ (x : Int),
        r = AV.int IntKind.i64 x ∧
        H' = [AObj.cells [AV.str s, AV.int IntKind.i64 e], AObj.tok] ∧
        condP (x == (0 : Int))
        (ASpec Try.prog 25 [AV.sl 6 (Seq.map T.encSt T.noSt acc) (Tip.tok 1)] [AObj.cells [AV.str s, AV.int IntKind.i64 e], AObj.tok] fun (r : AV) (H' : List AObj) =>
        ∃ (x_1 : Bool),
        r = AV.bool x_1 ∧
        H' = [AObj.cells [AV.str s, AV.int IntKind.i64 e], AObj.tok] ∧
        condP (!x_1) (Post (AV.tup [AV.sl 0 (Seq.raw []) Tip.nil, AV.int IntKind.i64 (3 : Int)]) [AObj.cells [AV.str s, AV.int IntKind.i64 e], AObj.tok])
        (condP (x != (0 : Int)) (Post (AV.tup [AV.sl 0 (Seq.raw []) Tip.nil, AV.int IntKind.i64 x]) [AObj.cells [AV.str s, AV.int IntKind.i64 e], AObj.tok])
        (Post (AV.tup [AV.sl 6 (Seq.map T.encSt T.noSt acc) (Tip.tok 1), AV.int IntKind.i64 (0 : Int)]) [AObj.cells [AV.str s, AV.int IntKind.i64 e], AObj.tok])))
        (condP (x != (0 : Int)) (Post (AV.tup [AV.sl 0 (Seq.raw []) Tip.nil, AV.int IntKind.i64 x]) [AObj.cells [AV.str s, AV.int IntKind.i64 e], AObj.tok])
        (Post (AV.tup [AV.sl 6 (Seq.map T.encSt T.noSt acc) (Tip.tok 1), AV.int IntKind.i64 (0 : Int)]) [AObj.cells [AV.str s, AV.int IntKind.i64 e], AObj.tok]))) →
    AWP Try.prog 67 n c22_15 [(4, AV.ptr 0 0), (6, AV.sl 6 (Seq.map T.encSt T.noSt acc) (Tip.tok 1))]
      [AObj.cells [AV.str s, AV.int IntKind.i64 e], AObj.tok] (q22_0 n Post) := fun s e acc n Post h => Go.Ab.awp_sound g22 n _ _ _ _ (Go.Ab.kc (by kernel_rfl) h)

-- 228
noncomputable def l228 : Nat → List Nat
  | _ => []
noncomputable def u228 : Nat → Bool
  | _ => false
noncomputable def m228 : Nat → Bool
  | _ => false
noncomputable def g228 : Cfg := { N := 4, live := l228, cut := u228, mu := m228, ret := rets }
theorem s228 : ∀ (l : List T.St) (Post : AV → List AObj → Prop),
  Post (AV.fn 309 [AV.ptr 0 0]) [AObj.cells [AV.sl 6 (Seq.map T.encSt T.noSt l) Tip.none]] →
    ASpec Try.prog 228 [AV.sl 6 (Seq.map T.encSt T.noSt l) Tip.none] [] Post := fun l Post h => Go.Ab.ASpec.of_vc g228 Go.Proofs.Try.func228 (by kernel_rfl) (by kernel_rfl) (by kernel_rfl) (Go.Ab.kc (by kernel_rfl) h)

-- 309
noncomputable def l309 : Nat → List Nat
  | 1 => [0, 1, 3]
  | _ => []
noncomputable def u309 : Nat → Bool
  | _ => false
noncomputable def m309 : Nat → Bool
  | _ => false
noncomputable def g309 : Cfg := { N := 19, live := l309, cut := u309, mu := m309, ret := rets }
noncomputable def c309 : Go.Code := Go.Ab.bodyOf Go.Proofs.Try.f309
noncomputable def q309_0 : Nat → (AV → List AObj → Prop) → AQ := fun (n : Nat) (Post : AV → List AObj → Prop) => endQ Try.prog (resultsOf Try.f309) Post
noncomputable def q309_1 : Nat → (AV → List AObj → Prop) → AQ := fun (n : Nat) (Post : AV → List AObj → Prop) => blockQ 0 (q309_0 n Post)
noncomputable def c309_1 : Go.Code := codeFst (codeSnd c309)
theorem s309 : ∀ (l : List T.St) (u : List Bool) (n : Nat) (o : AObj) (Post : AV → List AObj → Prop),
  AWP Try.prog 19 4 c309_1
      [(0, AV.yld 3), (1, AV.ptr 2 0), (3, AV.int IntKind.i64 (IntKind.wrap IntKind.i64 ((↑(List.length l) : Int) - (1 : Int))))]
      [AObj.arr 1 (Seq.map T.encBo false u), AObj.cells [AV.msl 1 0 0 n], AObj.cells [AV.sl 6 (Seq.map T.encSt T.noSt l) Tip.none], o] (q309_1 4 Post) →
    ASpec Try.prog 309 [AV.yld 3, AV.ptr 2 0]
      [AObj.arr 1 (Seq.map T.encBo false u), AObj.cells [AV.msl 1 0 0 n], AObj.cells [AV.sl 6 (Seq.map T.encSt T.noSt l) Tip.none], o] Post := fun l u n o Post h => Go.Ab.ASpec.of_vc g309 Go.Proofs.Try.func309 (by kernel_rfl) (by kernel_rfl) (by kernel_rfl) (Go.Ab.kc (by kernel_rfl) h)
theorem v309_1 : ∀ (l : List T.St) (u : List Bool) (n : Nat) (o : AObj) (i : Int) (n_1 : Nat) (Post : AV → List AObj → Prop),
  condP (decide (i ≥ (0 : Int)))
      (needP ((0 : Int) ≤ i ∧ i < (↑(List.length l) : Int))
        (AYield Try.prog 3
        [AV.int IntKind.i64 i,
        AV.agg
        [AV.int IntKind.i64 (Prod.fst (List.getD l (Int.toNat i) T.noSt)), AV.str { data := List.toArray (Prod.fst (Prod.snd (List.getD l (Int.toNat i) T.noSt))) },
        AV.int IntKind.i64 (Prod.fst (Prod.snd (Prod.snd (List.getD l (Int.toNat i) T.noSt)))),
        AV.str { data := List.toArray (Prod.fst (Prod.snd (Prod.snd (Prod.snd (List.getD l (Int.toNat i) T.noSt))))) },
        AV.int IntKind.i64 (Prod.fst (Prod.snd (Prod.snd (Prod.snd (Prod.snd (List.getD l (Int.toNat i) T.noSt)))))),
        AV.int IntKind.i64 (Prod.snd (Prod.snd (Prod.snd (Prod.snd (Prod.snd (List.getD l (Int.toNat i) T.noSt))))))]]
        [AObj.arr 1 (Seq.map T.encBo false u), AObj.cells [AV.msl 1 0 0 n], AObj.cells [AV.sl 6 (Seq.map T.encSt T.noSt l) Tip.none], o]
        fun (r : AV) (H' : List AObj) =>
        ∃ (x : List Bool),
        r = AV.bool true ∧
        H' = [AObj.arr 1 (Seq.map T.encBo false x), AObj.cells [AV.msl 1 0 0 n], AObj.cells [AV.sl 6 (Seq.map T.encSt T.noSt l) Tip.none], o] ∧
        AWP Try.prog 19 n_1 c309_1 [(0, AV.yld 3), (1, AV.ptr 2 0), (3, AV.int IntKind.i64 (IntKind.wrap IntKind.i64 (i - (1 : Int))))]
        [AObj.arr 1 (Seq.map T.encBo false x), AObj.cells [AV.msl 1 0 0 n], AObj.cells [AV.sl 6 (Seq.map T.encSt T.noSt l) Tip.none], o]
        (q309_1 n_1 Post)))
      (Post (AV.tup []) [AObj.arr 1 (Seq.map T.encBo false u), AObj.cells [AV.msl 1 0 0 n], AObj.cells [AV.sl 6 (Seq.map T.encSt T.noSt l) Tip.none], o]) →
    AWP Try.prog 19 n_1 c309_1 [(0, AV.yld 3), (1, AV.ptr 2 0), (3, AV.int IntKind.i64 i)]
      [AObj.arr 1 (Seq.map T.encBo false u), AObj.cells [AV.msl 1 0 0 n], AObj.cells [AV.sl 6 (Seq.map T.encSt T.noSt l) Tip.none], o] (q309_1 n_1 Post) := fun l u n o i n Post h => Go.Ab.AWP.loop' g309 (Cfg.live g309) c309_1 (by kernel_rfl) (by kernel_rfl) (Go.Ab.kc (by kernel_rfl) h)

-- 125
noncomputable def l125 : Nat → List Nat
  | 2 => [0, 3]
  | 3 => [0, 3]
  | 6 => [3, 20, 21]
  | 8 => [0, 3]
  | 11 => [3, 6, 7, 42, 43, 44]
  | 16 => [3, 6, 7, 8, 9, 42, 43, 44]
  | _ => []
noncomputable def u125 : Nat → Bool
  | 2 => true
  | 3 => true
  | 8 => true
  | 16 => true
  | _ => false
noncomputable def m125 : Nat → Bool
  | 12 => true
  | 41 => true
  | _ => false
noncomputable def g125 : Cfg := { N := 80, live := l125, cut := u125, mu := m125, ret := rets }
noncomputable def g125r : Cfg := { N := 80, live := l125, cut := u125, mu := m125, ret := rets, rnd := true }
noncomputable def c125 : Go.Code := Go.Ab.bodyOf Go.Proofs.Try.f125
noncomputable def q125_0 : Nat → (AV → List AObj → Prop) → AQ := fun (n : Nat) (Post : AV → List AObj → Prop) => endQ Try.prog (resultsOf Try.f125) Post
noncomputable def c125_2 : Go.Code := codeSnd (codeSnd c125)
theorem s125 : ∀ (l : List T.St) (Post : AV → List AObj → Prop),
  needP
      ((0 : Int) ≤ (↑(List.length l) : Int) ∧
        (↑(List.length l) : Int) ≤ (↑(List.length l) : Int) ∧ (↑(List.length l) : Int) ≤ (9223372036854775807 : Int) ∧ (1 : Int) * (↑(List.length l) : Int) ≤ (281474976710656 : Int))
      (AWP Try.prog 80 0 c125_2 [(0, AV.sl 6 (Seq.map T.encSt T.noSt l) Tip.none), (3, AV.ptr 1 0)]
        [AObj.arr 1 (Seq.raw (List.replicate (List.length l) [AV.bool false])), AObj.cells [AV.msl 1 0 0 (List.length l)]] (q125_0 0 Post)) →
    ASpec Try.prog 125 [AV.sl 6 (Seq.map T.encSt T.noSt l) Tip.none] [] Post := fun l Post h => Go.Ab.ASpec.of_vc g125 Go.Proofs.Try.func125 (by kernel_rfl) (by kernel_rfl) (by kernel_rfl) (Go.Ab.kc (by kernel_rfl) h)
noncomputable def c125_3 : Go.Code := codeSnd c125_2
theorem v125_2 : ∀ (l : List T.St) (u : List Bool) (n : Nat) (Post : AV → List AObj → Prop),
  needP ((0 : Int) ≤ IntKind.wrap IntKind.i64 ((↑(List.length l) : Int) - (1 : Int)) ∧ IntKind.wrap IntKind.i64 ((↑(List.length l) : Int) - (1 : Int)) < (↑(List.length u) : Int))
      (needP (0 + Int.toNat (IntKind.wrap IntKind.i64 ((↑(List.length l) : Int) - (1 : Int))) < List.length u)
        (AWP Try.prog 80 n c125_3 [(0, AV.sl 6 (Seq.map T.encSt T.noSt l) Tip.none), (3, AV.ptr 1 0)]
        [AObj.arr 1 (Seq.raw (List.set (Seq.toList (Seq.map T.encBo false u)) (0 + Int.toNat (IntKind.wrap IntKind.i64 ((↑(List.length l) : Int) - (1 : Int)))) [AV.bool true])),
        AObj.cells [AV.msl 1 0 0 (List.length u)]]
        (q125_0 n Post))) →
    AWP Try.prog 80 n c125_2 [(0, AV.sl 6 (Seq.map T.encSt T.noSt l) Tip.none), (3, AV.ptr 1 0)]
      [AObj.arr 1 (Seq.map T.encBo false u), AObj.cells [AV.msl 1 0 0 (List.length u)]] (q125_0 n Post) := fun l u n Post h => Go.Ab.awp_sound g125 n _ _ _ _ (Go.Ab.kc (by kernel_rfl) h)
noncomputable def c125_8 : Go.Code := codeSnd c125_3
noncomputable def q125_1 : Nat → (AV → List AObj → Prop) → AQ := fun (n : Nat) (Post : AV → List AObj → Prop) => seqQ (fun (s' : Slots) (H' : List AObj) => AWP Try.prog (Cfg.N g125) n c125_8 (restrict s' (Cfg.live g125 8)) H' (q125_0 n Post)) (q125_0 n Post)
noncomputable def q125_2 : Nat → (AV → List AObj → Prop) → AQ := fun (n : Nat) (Post : AV → List AObj → Prop) => blockQ 0 (q125_1 n Post)
noncomputable def c125_6 : Go.Code := codeFst (codeFst (codeSnd (codeFst c125_3)))
noncomputable def c125_6a : Go.Code := codeAsg (codeFst (codeSnd (codeFst c125_3)))
theorem v125_3 : ∀ (l : List T.St) (u : List Bool) (n : Nat) (Post : AV → List AObj → Prop),
  (ASpec Try.prog 228 [AV.sl 6 (Seq.map T.encSt T.noSt l) Tip.none] [AObj.arr 1 (Seq.map T.encBo false u), AObj.cells [AV.msl 1 0 0 (List.length u)]]
      fun (r : AV) (H' : List AObj) =>
      ∃ (x : Unit),
        r = AV.fn (309 : FuncId) [AV.ptr 2 0] ∧
        H' = [AObj.arr 1 (Seq.map T.encBo false u), AObj.cells [AV.msl 1 0 0 (List.length u)], AObj.cells [AV.sl 6 (Seq.map T.encSt T.noSt l) Tip.none]] ∧
        ASpec Try.prog 309 [AV.yld 3, AV.ptr 2 0]
        [AObj.arr 1 (Seq.map T.encBo false u), AObj.cells [AV.msl 1 0 0 (List.length u)], AObj.cells [AV.sl 6 (Seq.map T.encSt T.noSt l) Tip.none],
        AObj.lp 80 [(3, AV.ptr 1 0), (20, AV.bad), (21, AV.bad)] [20, 21] c125_6a c125_6 LpSt.ready]
        fun (r : AV) (H' : List AObj) =>
        rangeEnd (q125_2 n Post)
        [(19, AV.fn (309 : FuncId) [AV.ptr 2 0]), (18, AV.sl 6 (Seq.map T.encSt T.noSt l) Tip.none),
        (0, AV.sl 6 (Seq.map T.encSt T.noSt l) Tip.none), (3, AV.ptr 1 0)]
        3 H') →
    AWP Try.prog 80 n c125_3 [(0, AV.sl 6 (Seq.map T.encSt T.noSt l) Tip.none), (3, AV.ptr 1 0)]
      [AObj.arr 1 (Seq.map T.encBo false u), AObj.cells [AV.msl 1 0 0 (List.length u)]] (q125_0 n Post) := fun l u n Post h => Go.Ab.awp_sound g125 n _ _ _ _ (Go.Ab.kc (by kernel_rfl) h)
theorem v125_6 : ∀ (l : List T.St) (u : List Bool) (i : Int) (x : T.St) (o o' : AObj) (n : Nat) (Post : AV → List AObj → Prop) (Qr : AQ),
  needP (o = o)
      (needP ((0 : Int) ≤ i ∧ i < (↑(List.length u) : Int))
        (needP (0 + Int.toNat i < List.length u)
        (condP (List.getD u (0 + Int.toNat i) false)
        (condP (Prod.fst x == (4 : Int))
        (needP ((0 : Int) ≤ Prod.fst (Prod.snd (Prod.snd (Prod.snd (Prod.snd x)))) ∧ Prod.fst (Prod.snd (Prod.snd (Prod.snd (Prod.snd x)))) < (↑(List.length u) : Int))
        (needP (0 + Int.toNat (Prod.fst (Prod.snd (Prod.snd (Prod.snd (Prod.snd x))))) < List.length u)
        ((AV.int IntKind.i64 (Prod.snd (Prod.snd (Prod.snd (Prod.snd (Prod.snd x))))) = AV.int IntKind.i64 (Prod.snd (Prod.snd (Prod.snd (Prod.snd (Prod.snd x))))) ∧
        [AObj.arr 1 (Seq.raw (List.set (Seq.toList (Seq.map T.encBo false u)) (0 + Int.toNat (Prod.fst (Prod.snd (Prod.snd (Prod.snd (Prod.snd x)))))) [AV.bool true])),
        AObj.cells [AV.msl 1 0 0 (List.length u)], AObj.cells [AV.sl 6 (Seq.map T.encSt T.noSt l) Tip.none], o',
        AObj.cells
        [AV.int IntKind.i64 (Prod.fst x), AV.str { data := List.toArray (Prod.fst (Prod.snd x)) }, AV.int IntKind.i64 (Prod.fst (Prod.snd (Prod.snd x))),
        AV.str { data := List.toArray (Prod.fst (Prod.snd (Prod.snd (Prod.snd x)))) }, AV.int IntKind.i64 (Prod.fst (Prod.snd (Prod.snd (Prod.snd (Prod.snd x))))),
        AV.int IntKind.i64 (Prod.snd (Prod.snd (Prod.snd (Prod.snd (Prod.snd x)))))]] =
        [AObj.arr 1 (Seq.raw (List.set (Seq.toList (Seq.map T.encBo false u)) (0 + Int.toNat (Prod.fst (Prod.snd (Prod.snd (Prod.snd (Prod.snd x)))))) [AV.bool true])),
        AObj.cells [AV.msl 1 0 0 (List.length u)], AObj.cells [AV.sl 6 (Seq.map T.encSt T.noSt l) Tip.none], o',
        AObj.cells
        [AV.int IntKind.i64 (Prod.fst x), AV.str { data := List.toArray (Prod.fst (Prod.snd x)) }, AV.int IntKind.i64 (Prod.fst (Prod.snd (Prod.snd x))),
        AV.str { data := List.toArray (Prod.fst (Prod.snd (Prod.snd (Prod.snd x)))) }, AV.int IntKind.i64 (Prod.fst (Prod.snd (Prod.snd (Prod.snd (Prod.snd x))))),
        AV.int IntKind.i64 (Prod.snd (Prod.snd (Prod.snd (Prod.snd (Prod.snd x)))))]]) ∧
        (AV.msl 1 0 0 (List.length u) = AV.msl 1 0 0 (List.length u) ∧
        [AObj.arr 1 (Seq.raw (List.set (Seq.toList (Seq.map T.encBo false u)) (0 + Int.toNat (Prod.fst (Prod.snd (Prod.snd (Prod.snd (Prod.snd x)))))) [AV.bool true])),
        AObj.cells [AV.msl 1 0 0 (List.length u)], AObj.cells [AV.sl 6 (Seq.map T.encSt T.noSt l) Tip.none], o',
        AObj.cells
        [AV.int IntKind.i64 (Prod.fst x), AV.str { data := List.toArray (Prod.fst (Prod.snd x)) }, AV.int IntKind.i64 (Prod.fst (Prod.snd (Prod.snd x))),
        AV.str { data := List.toArray (Prod.fst (Prod.snd (Prod.snd (Prod.snd x)))) }, AV.int IntKind.i64 (Prod.fst (Prod.snd (Prod.snd (Prod.snd (Prod.snd x))))),
        AV.int IntKind.i64 (Prod.snd (Prod.snd (Prod.snd (Prod.snd (Prod.snd x)))))]] =
        [AObj.arr 1
        (Seq.raw (List.set (Seq.toList (Seq.map T.encBo false u)) (0 + Int.toNat (Prod.fst (Prod.snd (Prod.snd (Prod.snd (Prod.snd x)))))) [AV.bool true])),
        AObj.cells [AV.msl 1 0 0 (List.length u)], AObj.cells [AV.sl 6 (Seq.map T.encSt T.noSt l) Tip.none], o',
        AObj.cells
        [AV.int IntKind.i64 (Prod.fst x), AV.str { data := List.toArray (Prod.fst (Prod.snd x)) }, AV.int IntKind.i64 (Prod.fst (Prod.snd (Prod.snd x))),
        AV.str { data := List.toArray (Prod.fst (Prod.snd (Prod.snd (Prod.snd x)))) }, AV.int IntKind.i64 (Prod.fst (Prod.snd (Prod.snd (Prod.snd (Prod.snd x))))),
        AV.int IntKind.i64 (Prod.snd (Prod.snd (Prod.snd (Prod.snd (Prod.snd x)))))]]) ∧
        needP ((0 : Int) ≤ Prod.snd (Prod.snd (Prod.snd (Prod.snd (Prod.snd x)))) ∧ Prod.snd (Prod.snd (Prod.snd (Prod.snd (Prod.snd x)))) < (↑(List.length u) : Int))
        (needP
        (0 + Int.toNat (Prod.snd (Prod.snd (Prod.snd (Prod.snd (Prod.snd x))))) <
        List.length
        (List.set (Seq.toList (Seq.map T.encBo false u)) (0 + Int.toNat (Prod.fst (Prod.snd (Prod.snd (Prod.snd (Prod.snd x))))))
        (splice (T.encBo (List.getD u (0 + Int.toNat (Prod.fst (Prod.snd (Prod.snd (Prod.snd (Prod.snd x)))))) false)) 0
        [ev
        [(37, AV.mptr 1 0 (0 + Int.toNat (Prod.fst (Prod.snd (Prod.snd (Prod.snd (Prod.snd x)))))) 0),
        (36, AV.int IntKind.i64 (Prod.snd (Prod.snd (Prod.snd (Prod.snd (Prod.snd x)))))), (35, AV.ptr 4 5),
        (34, AV.msl 1 0 0 (List.length u)), (33, AV.int IntKind.i64 (Prod.fst (Prod.snd (Prod.snd (Prod.snd (Prod.snd x)))))),
        (32, AV.ptr 4 4), (31, AV.msl 1 0 0 (List.length u)), (30, AV.bool (Prod.fst x == (4 : Int))),
        (29, AV.bool (Prod.fst x == (4 : Int))), (26, AV.bool true), (28, AV.int IntKind.i64 (Prod.fst x)), (26, AV.bool true),
        (27, AV.ptr 4 0), (26, AV.bool true), (26, AV.bool (List.getD u (0 + Int.toNat i) false)),
        (25, AV.bool (List.getD u (0 + Int.toNat i) false)), (24, AV.mptr 1 0 (0 + Int.toNat i) 0),
        (23, AV.int IntKind.i64 i), (22, AV.msl 1 0 0 (List.length u)), (5, AV.ptr 4 0),
        (4, AV.int IntKind.i64 i), (3, AV.ptr 1 0), (20, AV.int IntKind.i64 i),
        (21,
        AV.agg
        [AV.int IntKind.i64 (Prod.fst x), AV.str { data := List.toArray (Prod.fst (Prod.snd x)) }, AV.int IntKind.i64 (Prod.fst (Prod.snd (Prod.snd x))),
        AV.str { data := List.toArray (Prod.fst (Prod.snd (Prod.snd (Prod.snd x)))) },
        AV.int IntKind.i64 (Prod.fst (Prod.snd (Prod.snd (Prod.snd (Prod.snd x))))),
        AV.int IntKind.i64 (Prod.snd (Prod.snd (Prod.snd (Prod.snd (Prod.snd x)))))])]
        (Operand.const (Value.bool true))])))
        (Qr Exit.normal
        [(38, AV.mptr 1 0 (0 + Int.toNat (Prod.snd (Prod.snd (Prod.snd (Prod.snd (Prod.snd x)))))) 0),
        (37, AV.mptr 1 0 (0 + Int.toNat (Prod.fst (Prod.snd (Prod.snd (Prod.snd (Prod.snd x)))))) 0),
        (36, AV.int IntKind.i64 (Prod.snd (Prod.snd (Prod.snd (Prod.snd (Prod.snd x)))))), (35, AV.ptr 4 5),
        (34, AV.msl 1 0 0 (List.length u)), (33, AV.int IntKind.i64 (Prod.fst (Prod.snd (Prod.snd (Prod.snd (Prod.snd x)))))),
        (32, AV.ptr 4 4), (31, AV.msl 1 0 0 (List.length u)), (30, AV.bool (Prod.fst x == (4 : Int))),
        (29, AV.bool (Prod.fst x == (4 : Int))), (26, AV.bool true), (28, AV.int IntKind.i64 (Prod.fst x)), (26, AV.bool true),
        (27, AV.ptr 4 0), (26, AV.bool true), (26, AV.bool (List.getD u (0 + Int.toNat i) false)),
        (25, AV.bool (List.getD u (0 + Int.toNat i) false)), (24, AV.mptr 1 0 (0 + Int.toNat i) 0),
        (23, AV.int IntKind.i64 i), (22, AV.msl 1 0 0 (List.length u)), (5, AV.ptr 4 0),
        (4, AV.int IntKind.i64 i), (3, AV.ptr 1 0), (20, AV.int IntKind.i64 i),
        (21,
        AV.agg
        [AV.int IntKind.i64 (Prod.fst x), AV.str { data := List.toArray (Prod.fst (Prod.snd x)) }, AV.int IntKind.i64 (Prod.fst (Prod.snd (Prod.snd x))),
        AV.str { data := List.toArray (Prod.fst (Prod.snd (Prod.snd (Prod.snd x)))) }, AV.int IntKind.i64 (Prod.fst (Prod.snd (Prod.snd (Prod.snd (Prod.snd x))))),
        AV.int IntKind.i64 (Prod.snd (Prod.snd (Prod.snd (Prod.snd (Prod.snd x)))))])]
        [AObj.arr 1
        (Seq.raw
        (List.set
        (Seq.toList
        (Seq.raw
        (List.set (Seq.toList (Seq.map T.encBo false u)) (0 + Int.toNat (Prod.fst (Prod.snd (Prod.snd (Prod.snd (Prod.snd x))))))
        (splice (T.encBo (List.getD u (0 + Int.toNat (Prod.fst (Prod.snd (Prod.snd (Prod.snd (Prod.snd x)))))) false)) 0
        [ev
        [(37, AV.mptr 1 0 (0 + Int.toNat (Prod.fst (Prod.snd (Prod.snd (Prod.snd (Prod.snd x)))))) 0),
        (36, AV.int IntKind.i64 (Prod.snd (Prod.snd (Prod.snd (Prod.snd (Prod.snd x)))))), (35, AV.ptr 4 5),
        (34, AV.msl 1 0 0 (List.length u)),
        (33, AV.int IntKind.i64 (Prod.fst (Prod.snd (Prod.snd (Prod.snd (Prod.snd x)))))), (32, AV.ptr 4 4),
        (31, AV.msl 1 0 0 (List.length u)), (30, AV.bool (Prod.fst x == (4 : Int))),
        (29, AV.bool (Prod.fst x == (4 : Int))), (26, AV.bool true), (28, AV.int IntKind.i64 (Prod.fst x)),
        (26, AV.bool true), (27, AV.ptr 4 0), (26, AV.bool true),
        (26, AV.bool (List.getD u (0 + Int.toNat i) false)), (25, AV.bool (List.getD u (0 + Int.toNat i) false)),
        (24, AV.mptr 1 0 (0 + Int.toNat i) 0), (23, AV.int IntKind.i64 i),
        (22, AV.msl 1 0 0 (List.length u)), (5, AV.ptr 4 0), (4, AV.int IntKind.i64 i),
        (3, AV.ptr 1 0), (20, AV.int IntKind.i64 i),
        (21,
        AV.agg
        [AV.int IntKind.i64 (Prod.fst x), AV.str { data := List.toArray (Prod.fst (Prod.snd x)) }, AV.int IntKind.i64 (Prod.fst (Prod.snd (Prod.snd x))),
        AV.str { data := List.toArray (Prod.fst (Prod.snd (Prod.snd (Prod.snd x)))) },
        AV.int IntKind.i64 (Prod.fst (Prod.snd (Prod.snd (Prod.snd (Prod.snd x))))),
        AV.int IntKind.i64 (Prod.snd (Prod.snd (Prod.snd (Prod.snd (Prod.snd x)))))])]
        (Operand.const (Value.bool true))]))))
        (0 + Int.toNat (Prod.snd (Prod.snd (Prod.snd (Prod.snd (Prod.snd x))))))
        (AV.bool true ::
        List.append._f [] PUnit.unit
        (List.drop 1
        (List.getD
        (List.set (Seq.toList (Seq.map T.encBo false u)) (0 + Int.toNat (Prod.fst (Prod.snd (Prod.snd (Prod.snd (Prod.snd x))))))
        (splice (T.encBo (List.getD u (0 + Int.toNat (Prod.fst (Prod.snd (Prod.snd (Prod.snd (Prod.snd x)))))) false)) 0
        [ev
        [(37, AV.mptr 1 0 (0 + Int.toNat (Prod.fst (Prod.snd (Prod.snd (Prod.snd (Prod.snd x)))))) 0),
        (36, AV.int IntKind.i64 (Prod.snd (Prod.snd (Prod.snd (Prod.snd (Prod.snd x)))))), (35, AV.ptr 4 5),
        (34, AV.msl 1 0 0 (List.length u)),
        (33, AV.int IntKind.i64 (Prod.fst (Prod.snd (Prod.snd (Prod.snd (Prod.snd x)))))), (32, AV.ptr 4 4),
        (31, AV.msl 1 0 0 (List.length u)), (30, AV.bool (Prod.fst x == (4 : Int))),
        (29, AV.bool (Prod.fst x == (4 : Int))), (26, AV.bool true), (28, AV.int IntKind.i64 (Prod.fst x)),
        (26, AV.bool true), (27, AV.ptr 4 0), (26, AV.bool true),
        (26, AV.bool (List.getD u (0 + Int.toNat i) false)), (25, AV.bool (List.getD u (0 + Int.toNat i) false)),
        (24, AV.mptr 1 0 (0 + Int.toNat i) 0), (23, AV.int IntKind.i64 i),
        (22, AV.msl 1 0 0 (List.length u)), (5, AV.ptr 4 0), (4, AV.int IntKind.i64 i),
        (3, AV.ptr 1 0), (20, AV.int IntKind.i64 i),
        (21,
        AV.agg
        [AV.int IntKind.i64 (Prod.fst x), AV.str { data := List.toArray (Prod.fst (Prod.snd x)) },
        AV.int IntKind.i64 (Prod.fst (Prod.snd (Prod.snd x))), AV.str { data := List.toArray (Prod.fst (Prod.snd (Prod.snd (Prod.snd x)))) },
        AV.int IntKind.i64 (Prod.fst (Prod.snd (Prod.snd (Prod.snd (Prod.snd x))))),
        AV.int IntKind.i64 (Prod.snd (Prod.snd (Prod.snd (Prod.snd (Prod.snd x)))))])]
        (Operand.const (Value.bool true))]))
        (0 + Int.toNat (Prod.snd (Prod.snd (Prod.snd (Prod.snd (Prod.snd x)))))) []))))),
        AObj.cells [AV.msl 1 0 0 (List.length u)], AObj.cells [AV.sl 6 (Seq.map T.encSt T.noSt l) Tip.none], o',
        AObj.cells
        [AV.int IntKind.i64 (Prod.fst x), AV.str { data := List.toArray (Prod.fst (Prod.snd x)) }, AV.int IntKind.i64 (Prod.fst (Prod.snd (Prod.snd x))),
        AV.str { data := List.toArray (Prod.fst (Prod.snd (Prod.snd (Prod.snd x)))) }, AV.int IntKind.i64 (Prod.fst (Prod.snd (Prod.snd (Prod.snd (Prod.snd x))))),
        AV.int IntKind.i64 (Prod.snd (Prod.snd (Prod.snd (Prod.snd (Prod.snd x)))))]])))))
        (Qr Exit.normal
        [(30, AV.bool (Prod.fst x == (4 : Int))), (29, AV.bool (Prod.fst x == (4 : Int))), (26, AV.bool true), (28, AV.int IntKind.i64 (Prod.fst x)),
        (26, AV.bool true), (27, AV.ptr 4 0), (26, AV.bool true), (26, AV.bool (List.getD u (0 + Int.toNat i) false)),
        (25, AV.bool (List.getD u (0 + Int.toNat i) false)), (24, AV.mptr 1 0 (0 + Int.toNat i) 0),
        (23, AV.int IntKind.i64 i), (22, AV.msl 1 0 0 (List.length u)), (5, AV.ptr 4 0), (4, AV.int IntKind.i64 i),
        (3, AV.ptr 1 0), (20, AV.int IntKind.i64 i),
        (21,
        AV.agg
        [AV.int IntKind.i64 (Prod.fst x), AV.str { data := List.toArray (Prod.fst (Prod.snd x)) }, AV.int IntKind.i64 (Prod.fst (Prod.snd (Prod.snd x))),
        AV.str { data := List.toArray (Prod.fst (Prod.snd (Prod.snd (Prod.snd x)))) }, AV.int IntKind.i64 (Prod.fst (Prod.snd (Prod.snd (Prod.snd (Prod.snd x))))),
        AV.int IntKind.i64 (Prod.snd (Prod.snd (Prod.snd (Prod.snd (Prod.snd x)))))])]
        [AObj.arr 1 (Seq.map T.encBo false u), AObj.cells [AV.msl 1 0 0 (List.length u)], AObj.cells [AV.sl 6 (Seq.map T.encSt T.noSt l) Tip.none], o',
        AObj.cells
        [AV.int IntKind.i64 (Prod.fst x), AV.str { data := List.toArray (Prod.fst (Prod.snd x)) }, AV.int IntKind.i64 (Prod.fst (Prod.snd (Prod.snd x))),
        AV.str { data := List.toArray (Prod.fst (Prod.snd (Prod.snd (Prod.snd x)))) }, AV.int IntKind.i64 (Prod.fst (Prod.snd (Prod.snd (Prod.snd (Prod.snd x))))),
        AV.int IntKind.i64 (Prod.snd (Prod.snd (Prod.snd (Prod.snd (Prod.snd x)))))]]))
        (Qr Exit.normal
        [(30, AV.bool false), (29, AV.tup []), (26, AV.bool false), (28, AV.tup []), (26, AV.bool false), (27, AV.tup []),
        (26, AV.bool false), (26, AV.bool (List.getD u (0 + Int.toNat i) false)), (25, AV.bool (List.getD u (0 + Int.toNat i) false)),
        (24, AV.mptr 1 0 (0 + Int.toNat i) 0), (23, AV.int IntKind.i64 i), (22, AV.msl 1 0 0 (List.length u)),
        (5, AV.ptr 4 0), (4, AV.int IntKind.i64 i), (3, AV.ptr 1 0), (20, AV.int IntKind.i64 i),
        (21,
        AV.agg
        [AV.int IntKind.i64 (Prod.fst x), AV.str { data := List.toArray (Prod.fst (Prod.snd x)) }, AV.int IntKind.i64 (Prod.fst (Prod.snd (Prod.snd x))),
        AV.str { data := List.toArray (Prod.fst (Prod.snd (Prod.snd (Prod.snd x)))) }, AV.int IntKind.i64 (Prod.fst (Prod.snd (Prod.snd (Prod.snd (Prod.snd x))))),
        AV.int IntKind.i64 (Prod.snd (Prod.snd (Prod.snd (Prod.snd (Prod.snd x)))))])]
        [AObj.arr 1 (Seq.map T.encBo false u), AObj.cells [AV.msl 1 0 0 (List.length u)], AObj.cells [AV.sl 6 (Seq.map T.encSt T.noSt l) Tip.none], o',
        AObj.cells
        [AV.int IntKind.i64 (Prod.fst x), AV.str { data := List.toArray (Prod.fst (Prod.snd x)) }, AV.int IntKind.i64 (Prod.fst (Prod.snd (Prod.snd x))),
        AV.str { data := List.toArray (Prod.fst (Prod.snd (Prod.snd (Prod.snd x)))) }, AV.int IntKind.i64 (Prod.fst (Prod.snd (Prod.snd (Prod.snd (Prod.snd x))))),
        AV.int IntKind.i64 (Prod.snd (Prod.snd (Prod.snd (Prod.snd (Prod.snd x)))))]])))) →
    ARound Try.prog 80 n 3 o o' c125_6a c125_6
      [(3, AV.ptr 1 0), (20, AV.int IntKind.i64 i),
        (21,
        AV.agg
        [AV.int IntKind.i64 (Prod.fst x), AV.str { data := List.toArray (Prod.fst (Prod.snd x)) }, AV.int IntKind.i64 (Prod.fst (Prod.snd (Prod.snd x))),
        AV.str { data := List.toArray (Prod.fst (Prod.snd (Prod.snd (Prod.snd x)))) }, AV.int IntKind.i64 (Prod.fst (Prod.snd (Prod.snd (Prod.snd (Prod.snd x))))),
        AV.int IntKind.i64 (Prod.snd (Prod.snd (Prod.snd (Prod.snd (Prod.snd x)))))])]
      [AObj.arr 1 (Seq.map T.encBo false u), AObj.cells [AV.msl 1 0 0 (List.length u)], AObj.cells [AV.sl 6 (Seq.map T.encSt T.noSt l) Tip.none], o] Qr := fun l u i x o o' n Post Qr h => Go.Ab.ARound.of g125r n 3 o o' (by kernel_rfl) _ _ _ _ _ (Go.Ab.kc (by kernel_rfl) h)
noncomputable def q125_3 : Nat → (AV → List AObj → Prop) → AQ := fun (n : Nat) (Post : AV → List AObj → Prop) => seqQ (fun (s' : Slots) (H' : List AObj) => awp Try.prog g125 n (codeSnd (codeSnd (codeSnd c125_8))) s' H' (q125_0 n Post)) (q125_0 n Post)
noncomputable def q125_4 : Nat → (AV → List AObj → Prop) → AQ := fun (n : Nat) (Post : AV → List AObj → Prop) => blockQ 2 (q125_3 n Post)
noncomputable def c125_11 : Go.Code := codeFst (codeSnd (codeFst (codeSnd (codeSnd c125_8))))
theorem v125_8 : ∀ (l : List T.St) (u : List Bool) (n : Nat) (Post : AV → List AObj → Prop),
  needP
      ((0 : Int) ≤ (↑(List.length l) : Int) ∧
        (↑(List.length l) : Int) ≤ (↑(List.length l) : Int) ∧ (↑(List.length l) : Int) ≤ (9223372036854775807 : Int) ∧ (8 : Int) * (↑(List.length l) : Int) ≤ (281474976710656 : Int))
      (AWP Try.prog 80 n c125_11
        [(3, AV.ptr 1 0), (6, AV.msl 1 2 0 (List.length l)), (7, AV.sl 0 (Seq.raw []) Tip.nil),
        (42, AV.sl 6 (Seq.map T.encSt T.noSt l) Tip.none), (43, AV.int IntKind.i64 (↑(List.length l) : Int)), (44, AV.int IntKind.i64 (0 : Int))]
        [AObj.arr 1 (Seq.map T.encBo false u), AObj.cells [AV.msl 1 0 0 (List.length u)],
        AObj.arr 1 (Seq.raw (List.replicate (List.length l) [AV.int IntKind.i64 (0 : Int)]))]
        (q125_4 n Post)) →
    AWP Try.prog 80 n c125_8 [(0, AV.sl 6 (Seq.map T.encSt T.noSt l) Tip.none), (3, AV.ptr 1 0)]
      [AObj.arr 1 (Seq.map T.encBo false u), AObj.cells [AV.msl 1 0 0 (List.length u)]] (q125_0 n Post) := fun l u n Post h => Go.Ab.awp_sound g125 n _ _ _ _ (Go.Ab.kc (by kernel_rfl) h)
noncomputable def q125_5 : Nat → (AV → List AObj → Prop) → AQ := fun (n : Nat) (Post : AV → List AObj → Prop) => loopQ Try.prog 80 n c125_11 (q125_4 n Post) (Cfg.live g125)
noncomputable def q125_6 : Nat → (AV → List AObj → Prop) → AQ := fun (n : Nat) (Post : AV → List AObj → Prop) => seqQ (fun (s' : Slots) (H' : List AObj) => awp Try.prog g125 n (codeSnd (codeSnd (codeSnd (codeFst c125_11)))) s' H' (q125_5 n Post)) (q125_5 n Post)
noncomputable def q125_7 : Nat → (AV → List AObj → Prop) → AQ := fun (n : Nat) (Post : AV → List AObj → Prop) => blockQ 3 (q125_6 n Post)
noncomputable def c125_16 : Go.Code := codeSnd (codeSnd (codeSnd (codeFst (codeFst (codeSnd (codeSnd (codeFst c125_11)))))))
theorem v125_11 : ∀ (l : List T.St) (u : List Bool) (t : List Int) (out : List T.St) (i : Int) (n : Nat) (Post : AV → List AObj → Prop),
  condP (decide (i < (↑(List.length l) : Int)))
      (needP ((0 : Int) ≤ i ∧ i < (↑(List.length l) : Int))
        (needP ((0 : Int) ≤ i ∧ i < (↑(List.length u) : Int))
        (needP (0 + Int.toNat i < List.length u)
        (condP (!List.getD u (0 + Int.toNat i) false)
        (AWP Try.prog 80 n c125_11
        [(3, AV.ptr 1 0), (6, AV.msl 1 2 0 (List.length t)),
        (7, AV.sl 6 (Seq.map T.encSt T.noSt out) (Tip.tok 3)), (42, AV.sl 6 (Seq.map T.encSt T.noSt l) Tip.none),
        (43, AV.int IntKind.i64 (↑(List.length l) : Int)), (44, AV.int IntKind.i64 (IntKind.wrap IntKind.i64 (i + (1 : Int))))]
        [AObj.arr 1 (Seq.map T.encBo false u), AObj.cells [AV.msl 1 0 0 (List.length u)], AObj.arr 1 (Seq.map encI (0 : Int) t), AObj.tok,
        AObj.cells
        [AV.int IntKind.i64 (Prod.fst (List.getD l (Int.toNat i) T.noSt)), AV.str { data := List.toArray (Prod.fst (Prod.snd (List.getD l (Int.toNat i) T.noSt))) },
        AV.int IntKind.i64 (Prod.fst (Prod.snd (Prod.snd (List.getD l (Int.toNat i) T.noSt)))),
        AV.str { data := List.toArray (Prod.fst (Prod.snd (Prod.snd (Prod.snd (List.getD l (Int.toNat i) T.noSt))))) },
        AV.int IntKind.i64 (Prod.fst (Prod.snd (Prod.snd (Prod.snd (Prod.snd (List.getD l (Int.toNat i) T.noSt)))))),
        AV.int IntKind.i64 (Prod.snd (Prod.snd (Prod.snd (Prod.snd (Prod.snd (List.getD l (Int.toNat i) T.noSt))))))]]
        (q125_4 n Post))
        (condP (Prod.fst (List.getD l (Int.toNat i) T.noSt) == (4 : Int))
        (needP
        ((0 : Int) ≤ Prod.fst (Prod.snd (Prod.snd (Prod.snd (Prod.snd (List.getD l (Int.toNat i) T.noSt))))) ∧
        Prod.fst (Prod.snd (Prod.snd (Prod.snd (Prod.snd (List.getD l (Int.toNat i) T.noSt))))) < (↑(List.length t) : Int))
        (needP (0 + Int.toNat (Prod.fst (Prod.snd (Prod.snd (Prod.snd (Prod.snd (List.getD l (Int.toNat i) T.noSt)))))) < List.length t)
        (needP
        ((0 : Int) ≤ Prod.snd (Prod.snd (Prod.snd (Prod.snd (Prod.snd (List.getD l (Int.toNat i) T.noSt))))) ∧
        Prod.snd (Prod.snd (Prod.snd (Prod.snd (Prod.snd (List.getD l (Int.toNat i) T.noSt))))) < (↑(List.length t) : Int))
        (needP (0 + Int.toNat (Prod.snd (Prod.snd (Prod.snd (Prod.snd (Prod.snd (List.getD l (Int.toNat i) T.noSt)))))) < List.length t)
        (needP (0 + Int.toNat (Prod.snd (Prod.snd (Prod.snd (Prod.snd (Prod.snd (List.getD l (Int.toNat i) T.noSt)))))) < List.length t)
        (AV.int IntKind.i64 (List.getD t (0 + Int.toNat (Prod.snd (Prod.snd (Prod.snd (Prod.snd (Prod.snd (List.getD l (Int.toNat i) T.noSt))))))) (0 : Int)) =
        AV.int IntKind.i64 (List.getD t (0 + Int.toNat (Prod.snd (Prod.snd (Prod.snd (Prod.snd (Prod.snd (List.getD l (Int.toNat i) T.noSt))))))) (0 : Int)) ∧
        [AObj.arr 1 (Seq.map T.encBo false u), AObj.cells [AV.msl 1 0 0 (List.length u)], AObj.arr 1 (Seq.map encI (0 : Int) t), AObj.tok,
        AObj.cells
        [AV.int IntKind.i64 (Prod.fst (List.getD l (Int.toNat i) T.noSt)), AV.str { data := List.toArray (Prod.fst (Prod.snd (List.getD l (Int.toNat i) T.noSt))) },
        AV.int IntKind.i64 (Prod.fst (Prod.snd (Prod.snd (List.getD l (Int.toNat i) T.noSt)))),
        AV.str { data := List.toArray (Prod.fst (Prod.snd (Prod.snd (Prod.snd (List.getD l (Int.toNat i) T.noSt))))) },
        AV.int IntKind.i64 (List.getD t (0 + Int.toNat (Prod.fst (Prod.snd (Prod.snd (Prod.snd (Prod.snd (List.getD l (Int.toNat i) T.noSt))))))) (0 : Int)),
        AV.int IntKind.i64 (Prod.snd (Prod.snd (Prod.snd (Prod.snd (Prod.snd (List.getD l (Int.toNat i) T.noSt))))))]] =
        [AObj.arr 1 (Seq.map T.encBo false u), AObj.cells [AV.msl 1 0 0 (List.length u)], AObj.arr 1 (Seq.map encI (0 : Int) t),
        AObj.tok,
        AObj.cells
        [AV.int IntKind.i64 (Prod.fst (List.getD l (Int.toNat i) T.noSt)), AV.str { data := List.toArray (Prod.fst (Prod.snd (List.getD l (Int.toNat i) T.noSt))) },
        AV.int IntKind.i64 (Prod.fst (Prod.snd (Prod.snd (List.getD l (Int.toNat i) T.noSt)))),
        AV.str { data := List.toArray (Prod.fst (Prod.snd (Prod.snd (Prod.snd (List.getD l (Int.toNat i) T.noSt))))) },
        AV.int IntKind.i64 (List.getD t (0 + Int.toNat (Prod.fst (Prod.snd (Prod.snd (Prod.snd (Prod.snd (List.getD l (Int.toNat i) T.noSt))))))) (0 : Int)),
        AV.int IntKind.i64 (Prod.snd (Prod.snd (Prod.snd (Prod.snd (Prod.snd (List.getD l (Int.toNat i) T.noSt))))))]]) ∧
        AWP Try.prog 80 n c125_16
        [(3, AV.ptr 1 0), (6, AV.msl 1 2 0 (List.length t)),
        (7, AV.sl 6 (Seq.map T.encSt T.noSt out) (Tip.tok 3)), (8, AV.int IntKind.i64 i), (9, AV.ptr 4 0),
        (42, AV.sl 6 (Seq.map T.encSt T.noSt l) Tip.none), (43, AV.int IntKind.i64 (↑(List.length l) : Int)), (44, AV.int IntKind.i64 i)]
        [AObj.arr 1 (Seq.map T.encBo false u), AObj.cells [AV.msl 1 0 0 (List.length u)], AObj.arr 1 (Seq.map encI (0 : Int) t), AObj.tok,
        AObj.cells
        [AV.int IntKind.i64 (Prod.fst (List.getD l (Int.toNat i) T.noSt)), AV.str { data := List.toArray (Prod.fst (Prod.snd (List.getD l (Int.toNat i) T.noSt))) },
        AV.int IntKind.i64 (Prod.fst (Prod.snd (Prod.snd (List.getD l (Int.toNat i) T.noSt)))),
        AV.str { data := List.toArray (Prod.fst (Prod.snd (Prod.snd (Prod.snd (List.getD l (Int.toNat i) T.noSt))))) },
        AV.int IntKind.i64 (List.getD t (0 + Int.toNat (Prod.fst (Prod.snd (Prod.snd (Prod.snd (Prod.snd (List.getD l (Int.toNat i) T.noSt))))))) (0 : Int)),
        AV.int IntKind.i64 (List.getD t (0 + Int.toNat (Prod.snd (Prod.snd (Prod.snd (Prod.snd (Prod.snd (List.getD l (Int.toNat i) T.noSt))))))) (0 : Int))]]
        (q125_7 n Post))))))
        (AWP Try.prog 80 n c125_16
        [(3, AV.ptr 1 0), (6, AV.msl 1 2 0 (List.length t)),
        (7, AV.sl 6 (Seq.map T.encSt T.noSt out) (Tip.tok 3)), (8, AV.int IntKind.i64 i), (9, AV.ptr 4 0),
        (42, AV.sl 6 (Seq.map T.encSt T.noSt l) Tip.none), (43, AV.int IntKind.i64 (↑(List.length l) : Int)), (44, AV.int IntKind.i64 i)]
        [AObj.arr 1 (Seq.map T.encBo false u), AObj.cells [AV.msl 1 0 0 (List.length u)], AObj.arr 1 (Seq.map encI (0 : Int) t), AObj.tok,
        AObj.cells
        [AV.int IntKind.i64 (Prod.fst (List.getD l (Int.toNat i) T.noSt)), AV.str { data := List.toArray (Prod.fst (Prod.snd (List.getD l (Int.toNat i) T.noSt))) },
        AV.int IntKind.i64 (Prod.fst (Prod.snd (Prod.snd (List.getD l (Int.toNat i) T.noSt)))),
        AV.str { data := List.toArray (Prod.fst (Prod.snd (Prod.snd (Prod.snd (List.getD l (Int.toNat i) T.noSt))))) },
        AV.int IntKind.i64 (Prod.fst (Prod.snd (Prod.snd (Prod.snd (Prod.snd (List.getD l (Int.toNat i) T.noSt)))))),
        AV.int IntKind.i64 (Prod.snd (Prod.snd (Prod.snd (Prod.snd (Prod.snd (List.getD l (Int.toNat i) T.noSt))))))]]
        (q125_7 n Post)))))))
      (Post (AV.sl 6 (Seq.map T.encSt T.noSt out) (Tip.tok 3))
        [AObj.arr 1 (Seq.map T.encBo false u), AObj.cells [AV.msl 1 0 0 (List.length u)], AObj.arr 1 (Seq.map encI (0 : Int) t), AObj.tok]) →
    AWP Try.prog 80 n c125_11
      [(3, AV.ptr 1 0), (6, AV.msl 1 2 0 (List.length t)), (7, AV.sl 6 (Seq.map T.encSt T.noSt out) (Tip.tok 3)),
        (42, AV.sl 6 (Seq.map T.encSt T.noSt l) Tip.none), (43, AV.int IntKind.i64 (↑(List.length l) : Int)), (44, AV.int IntKind.i64 i)]
      [AObj.arr 1 (Seq.map T.encBo false u), AObj.cells [AV.msl 1 0 0 (List.length u)], AObj.arr 1 (Seq.map encI (0 : Int) t), AObj.tok] (q125_4 n Post) := fun l u t out i n Post h => Go.Ab.AWP.loop' g125 (Cfg.live g125) c125_11 (by kernel_rfl) (by kernel_rfl) (Go.Ab.kc (by kernel_rfl) h)
theorem v125_16 : ∀ (l : List T.St) (u : List Bool) (t : List Int) (out : List T.St) (x : T.St) (i : Int) (n : Nat) (Post : AV → List AObj → Prop),
  needP ((0 : Int) ≤ i ∧ i < (↑(List.length t) : Int))
      (needP (0 + Int.toNat i < List.length t)
        (needP ((List.length out + 1) * 64 ≤ 140737488351232)
        (AWP Try.prog 80 n c125_11
        [(3, AV.ptr 1 0), (6, AV.msl 1 2 0 (List.length t)),
        (7,
        AV.sl 6
        (Seq.app (Seq.map T.encSt T.noSt out)
        (Seq.raw
        [[AV.int IntKind.i64 (Prod.fst x), AV.str { data := List.toArray (Prod.fst (Prod.snd x)) }, AV.int IntKind.i64 (Prod.fst (Prod.snd (Prod.snd x))),
        AV.str { data := List.toArray (Prod.fst (Prod.snd (Prod.snd (Prod.snd x)))) }, AV.int IntKind.i64 (Prod.fst (Prod.snd (Prod.snd (Prod.snd (Prod.snd x))))),
        AV.int IntKind.i64 (Prod.snd (Prod.snd (Prod.snd (Prod.snd (Prod.snd x)))))]]))
        (Tip.tok 5)),
        (42, AV.sl 6 (Seq.map T.encSt T.noSt l) Tip.none), (43, AV.int IntKind.i64 (↑(List.length l) : Int)),
        (44, AV.int IntKind.i64 (IntKind.wrap IntKind.i64 (i + (1 : Int))))]
        [AObj.arr 1 (Seq.map T.encBo false u), AObj.cells [AV.msl 1 0 0 (List.length u)],
        AObj.arr 1 (Seq.raw (List.set (Seq.toList (Seq.map encI (0 : Int) t)) (0 + Int.toNat i) [AV.int IntKind.i64 (↑(List.length out) : Int)])), AObj.gone,
        AObj.cells
        [AV.int IntKind.i64 (Prod.fst x), AV.str { data := List.toArray (Prod.fst (Prod.snd x)) }, AV.int IntKind.i64 (Prod.fst (Prod.snd (Prod.snd x))),
        AV.str { data := List.toArray (Prod.fst (Prod.snd (Prod.snd (Prod.snd x)))) }, AV.int IntKind.i64 (Prod.fst (Prod.snd (Prod.snd (Prod.snd (Prod.snd x))))),
        AV.int IntKind.i64 (Prod.snd (Prod.snd (Prod.snd (Prod.snd (Prod.snd x)))))],
        AObj.tok]
        (q125_4 n Post)))) →
    AWP Try.prog 80 n c125_16
      [(3, AV.ptr 1 0), (6, AV.msl 1 2 0 (List.length t)), (7, AV.sl 6 (Seq.map T.encSt T.noSt out) (Tip.tok 3)),
        (8, AV.int IntKind.i64 i), (9, AV.ptr 4 0), (42, AV.sl 6 (Seq.map T.encSt T.noSt l) Tip.none),
        (43, AV.int IntKind.i64 (↑(List.length l) : Int)), (44, AV.int IntKind.i64 i)]
      [AObj.arr 1 (Seq.map T.encBo false u), AObj.cells [AV.msl 1 0 0 (List.length u)], AObj.arr 1 (Seq.map encI (0 : Int) t), AObj.tok, AObj.cells (T.encSt x)]
      (q125_7 n Post) := fun l u t out x i n Post h => Go.Ab.awp_sound g125 n _ _ _ _ (Go.Ab.kc (by kernel_rfl) h)

-- 3
noncomputable def l3 : Nat → List Nat
  | 8 => [0, 5]
  | _ => []
noncomputable def u3 : Nat → Bool
  | 8 => true
  | _ => false
noncomputable def m3 : Nat → Bool
  | _ => false
noncomputable def g3 : Cfg := { N := 81, live := l3, cut := u3, mu := m3, ret := rets }
noncomputable def c3 : Go.Code := Go.Ab.bodyOf Go.Proofs.Try.f3
noncomputable def q3_0 : Nat → (AV → List AObj → Prop) → AQ := fun (n : Nat) (Post : AV → List AObj → Prop) => endQ Try.prog (resultsOf Try.f3) Post
noncomputable def c3_8 : Go.Code := codeSnd (codeSnd (codeSnd (codeSnd (codeSnd (codeSnd c3)))))
theorem s3 : ∀ (l : List T.St) (b : List UInt8) (Post : AV → List AObj → Prop),
  (ASpec Try.prog 18 [AV.sl 6 (Seq.map T.encSt T.noSt l) Tip.none] [] fun (r : AV) (H' : List AObj) =>
      ∃ (x : Bool),
        r = AV.bool x ∧
        H' = [] ∧
        condP x (ASpec Try.prog 19 [] [] fun (r : AV) (H' : List AObj) => ∃ (x : Unit), r = AV.bool true ∧ H' = [] ∧ Post (AV.bool true) [])
        (condP (decide ((↑(List.length b) : Int) > (8000 : Int)))
        (ASpec Try.prog 19 [] [] fun (r : AV) (H' : List AObj) => ∃ (x : Unit), r = AV.bool true ∧ H' = [] ∧ Post (AV.bool true) [])
        (ASpec Try.prog 20 [AV.sl 6 (Seq.map T.encSt T.noSt l) Tip.none] [] fun (r : AV) (H' : List AObj) =>
        ∃ (x : List UInt8),
        r = AV.sl 1 (Seq.map encB (0 : UInt8) x) Tip.none ∧
        H' = [] ∧
        ASpec Try.prog 21 [AV.sl 1 (Seq.map encB (0 : UInt8) b) Tip.none] [] fun (r : AV) (H' : List AObj) =>
        ∃ (x_1 : List T.St × Int),
        r = AV.tup [AV.sl 6 (Seq.map T.encSt T.noSt (Prod.fst x_1)) Tip.none, AV.int IntKind.i64 (Prod.snd x_1)] ∧
        H' = [] ∧
        needP (allBytes (Seq.map encB (0 : UInt8) b))
        (ASpec Try.prog 22 [AV.str (bytesOf (Seq.map encB (0 : UInt8) b))] [] fun (r : AV) (H' : List AObj) =>
        ∃ (x_2 : List T.St × Int),
        r = AV.tup [AV.sl 6 (Seq.map T.encSt T.noSt (Prod.fst x_2)) Tip.none, AV.int IntKind.i64 (Prod.snd x_2)] ∧
        H' = [] ∧
        needP (allBytes (Seq.map encB (0 : UInt8) x))
        (ASpec Try.prog 23 [AV.sl 6 (Seq.map T.encSt T.noSt l) Tip.none] [] fun (r : AV) (H' : List AObj) =>
        ∃ (x_3 : ByteArray),
        r = AV.str x_3 ∧
        H' = [] ∧
        condP (!ByteArray.toList (bytesOf (Seq.map encB (0 : UInt8) x)) == ByteArray.toList x_3) (Post (AV.bool false) [])
        (ASpec Try.prog 24
        [AV.sl 6 (Seq.map T.encSt T.noSt (Prod.fst x_1)) Tip.none, AV.sl 6 (Seq.map T.encSt T.noSt (Prod.fst x_2)) Tip.none] []
        fun (r : AV) (H' : List AObj) =>
        ∃ (x_4 : Bool),
        r = AV.bool x_4 ∧
        H' = [] ∧
        condP (!x_4) (Post (AV.bool false) [])
        (condP (Prod.snd x_1 != Prod.snd x_2) (Post (AV.bool false) [])
        (condP (Prod.snd x_1 == (0 : Int))
        (needP (allBytes (Seq.map encB (0 : UInt8) b))
        (ASpec Try.prog 20 [AV.sl 6 (Seq.map T.encSt T.noSt (Prod.fst x_1)) Tip.none] [] fun (r : AV) (H' : List AObj) =>
        ∃ (x_5 : List UInt8),
        r = AV.sl 1 (Seq.map encB (0 : UInt8) x_5) Tip.none ∧
        H' = [] ∧
        needP (allBytes (Seq.map encB (0 : UInt8) x_5))
        (condP
        (!ByteArray.toList (bytesOf (Seq.map encB (0 : UInt8) x_5)) ==
        ByteArray.toList (bytesOf (Seq.map encB (0 : UInt8) b)))
        (Post (AV.bool false) [])
        (AWP Try.prog 81 0 c3_8
        [(0, AV.sl 6 (Seq.map T.encSt T.noSt l) Tip.none),
        (5, AV.sl 1 (Seq.map encB (0 : UInt8) x) Tip.none)]
        [] (q3_0 0 Post)))))
        (AWP Try.prog 81 0 c3_8
        [(0, AV.sl 6 (Seq.map T.encSt T.noSt l) Tip.none),
        (5, AV.sl 1 (Seq.map encB (0 : UInt8) x) Tip.none)]
        [] (q3_0 0 Post)))))))))) →
    ASpec Try.prog 3 [AV.sl 6 (Seq.map T.encSt T.noSt l) Tip.none, AV.sl 1 (Seq.map encB (0 : UInt8) b) Tip.none] [] Post := fun l b Post h => Go.Ab.ASpec.of_vc g3 Go.Proofs.Try.func3 (by kernel_rfl) (by kernel_rfl) (by kernel_rfl) (Go.Ab.kc (by kernel_rfl) h)
theorem v3_8 : ∀ (l : List T.St) (w : List UInt8) (n : Nat) (Post : AV → List AObj → Prop),
  (ASpec Try.prog 21 [AV.sl 1 (Seq.map encB (0 : UInt8) w) Tip.none] [] fun (r : AV) (H' : List AObj) =>
      ∃ (x : List T.St × Int),
        r = AV.tup [AV.sl 6 (Seq.map T.encSt T.noSt (Prod.fst x)) Tip.none, AV.int IntKind.i64 (Prod.snd x)] ∧
        H' = [] ∧
        ASpec Try.prog 25 [AV.sl 6 (Seq.map T.encSt T.noSt l) Tip.none] [] fun (r : AV) (H' : List AObj) =>
        ∃ (x_1 : Bool),
        r = AV.bool x_1 ∧
        H' = [] ∧
        condP (!x_1) (ASpec Try.prog 19 [] [] fun (r : AV) (H' : List AObj) => ∃ (x : Unit), r = AV.bool true ∧ H' = [] ∧ Post (AV.bool true) [])
        (condP (Prod.snd x == (0 : Int))
        (ASpec Try.prog 24 [AV.sl 6 (Seq.map T.encSt T.noSt (Prod.fst x)) Tip.none, AV.sl 6 (Seq.map T.encSt T.noSt l) Tip.none] []
        fun (r : AV) (H' : List AObj) =>
        ∃ (x : Bool),
        r = AV.bool x ∧
        H' = [] ∧
        condP x (ASpec Try.prog 19 [] [] fun (r : AV) (H' : List AObj) => ∃ (x : Unit), r = AV.bool true ∧ H' = [] ∧ Post (AV.bool true) []) (Post (AV.bool false) []))
        (Post (AV.bool false) []))) →
    AWP Try.prog 81 n c3_8 [(0, AV.sl 6 (Seq.map T.encSt T.noSt l) Tip.none), (5, AV.sl 1 (Seq.map encB (0 : UInt8) w) Tip.none)] [] (q3_0 n Post) := fun l w n Post h => Go.Ab.awp_sound g3 n _ _ _ _ (Go.Ab.kc (by kernel_rfl) h)

-- 19
noncomputable def l19 : Nat → List Nat
  | _ => []
noncomputable def u19 : Nat → Bool
  | _ => false
noncomputable def m19 : Nat → Bool
  | _ => false
noncomputable def g19 : Cfg := { N := 24, live := l19, cut := u19, mu := m19, ret := rets }
theorem s19 : ∀ (Post : AV → List AObj → Prop),
  (ASpec Try.prog 125
      [AV.sl 6
        (Seq.raw
        [[AV.int IntKind.i64 (1 : Int), AV.str { data := #[(97 : UInt8)] }, AV.int IntKind.i64 (0 : Int), AV.str { data := #[] }, AV.int IntKind.i64 (0 : Int), AV.int IntKind.i64 (0 : Int)],
        [AV.int IntKind.i64 (2 : Int), AV.str { data := #[(98 : UInt8)] }, AV.int IntKind.i64 (0 : Int), AV.str { data := #[] }, AV.int IntKind.i64 (0 : Int), AV.int IntKind.i64 (0 : Int)],
        [AV.int IntKind.i64 (2 : Int), AV.str { data := #[(97 : UInt8)] }, AV.int IntKind.i64 (0 : Int), AV.str { data := #[] }, AV.int IntKind.i64 (0 : Int), AV.int IntKind.i64 (0 : Int)],
        [AV.int IntKind.i64 (4 : Int), AV.str { data := #[(97 : UInt8)] }, AV.int IntKind.i64 (0 : Int), AV.str { data := #[] }, AV.int IntKind.i64 (0 : Int), AV.int IntKind.i64 (2 : Int)]])
        Tip.full]
      [] fun (r : AV) (H' : List AObj) =>
      ∃ (x : List T.St),
        r = AV.sl 6 (Seq.map T.encSt T.noSt x) Tip.none ∧
        H' = [] ∧
        ASpec Try.prog 123
        [AV.sl 6
        (Seq.raw
        [[AV.int IntKind.i64 (1 : Int), AV.str { data := #[(97 : UInt8)] }, AV.int IntKind.i64 (0 : Int), AV.str { data := #[] }, AV.int IntKind.i64 (0 : Int),
        AV.int IntKind.i64 (0 : Int)],
        [AV.int IntKind.i64 (2 : Int), AV.str { data := #[(98 : UInt8)] }, AV.int IntKind.i64 (0 : Int), AV.str { data := #[] }, AV.int IntKind.i64 (0 : Int),
        AV.int IntKind.i64 (0 : Int)],
        [AV.int IntKind.i64 (2 : Int), AV.str { data := #[(97 : UInt8)] }, AV.int IntKind.i64 (0 : Int), AV.str { data := #[] }, AV.int IntKind.i64 (0 : Int),
        AV.int IntKind.i64 (0 : Int)],
        [AV.int IntKind.i64 (4 : Int), AV.str { data := #[(97 : UInt8)] }, AV.int IntKind.i64 (0 : Int), AV.str { data := #[] }, AV.int IntKind.i64 (0 : Int),
        AV.int IntKind.i64 (2 : Int)]])
        Tip.full]
        [] fun (r : AV) (H' : List AObj) =>
        ∃ (x_1 : Bool),
        r = AV.bool x_1 ∧
        H' = [] ∧
        condP x_1
        (condP ((↑(List.length x) : Int) == (3 : Int))
        (needP ((0 : Int) ≤ (2 : Int) ∧ (2 : Int) < (↑(List.length x) : Int))
        (Post
        (AV.bool
        (Prod.fst (List.getD x 2 T.noSt) == (4 : Int) &&
        (ByteArray.toList { data := List.toArray (Prod.fst (Prod.snd (List.getD x 2 T.noSt))) } == ByteArray.toList { data := #[(97 : UInt8)] } &&
        (Prod.fst (Prod.snd (Prod.snd (List.getD x 2 T.noSt))) == (0 : Int) &&
        (ByteArray.toList { data := List.toArray (Prod.fst (Prod.snd (Prod.snd (Prod.snd (List.getD x 2 T.noSt))))) } == ByteArray.toList { data := #[] } &&
        (Prod.fst (Prod.snd (Prod.snd (Prod.snd (Prod.snd (List.getD x 2 T.noSt))))) == (0 : Int) &&
        (Prod.snd (Prod.snd (Prod.snd (Prod.snd (Prod.snd (List.getD x 2 T.noSt))))) == (1 : Int) && true)))))))
        []))
        (Post (AV.bool false) []))
        (Post (AV.bool false) [])) →
    ASpec Try.prog 19 [] [] Post := fun Post h => Go.Ab.ASpec.of_vc g19 Go.Proofs.Try.func19 (by kernel_rfl) (by kernel_rfl) (by kernel_rfl) (Go.Ab.kc (by kernel_rfl) h)

end
end Pf
end

section
/- Events as cells. -/

open Go Go.Ab Go.Proofs
namespace T
/-- kind, needs, ticks, ticket, body -/
abbrev Ev := Int × List Need × Int × Int × List UInt8
noncomputable def encE (x : Ev) : List AV := [.int .i64 x.1, .sl 2 (.map encN ([], []) x.2.1) .none, .int .i64 x.2.2.1, .int .i64 x.2.2.2.1, .sl 1 (.map encB 0 x.2.2.2.2) .none]
abbrev noEv : Ev := (0, [], 0, 0, [])
end T
end

section
/- Printed: what the code of functions 328, 329, 375, 376, 377, 394, 282, 48, 330, 190, 283, 189, 194, 70, 188, 187, 281, 415, 72, 71 asks for, by the framework's own reading of it; each line is checked against the code. -/

set_option linter.unusedVariables false
set_option maxRecDepth 100000
set_option maxHeartbeats 4000000
open Go Go.Ab Go.Proofs
namespace E
noncomputable section

noncomputable def retE : List (Nat × Ret) := [
  (71, ⟨Unit, fun _ _ _ => .bool true, fun _ H _ => H⟩),
  (190, ⟨Int × List T.Need, fun _ _ x => .iface 337 (.agg [.int .i64 x.1, .sl 2 (.map T.encN ([], []) x.2) .none]), fun _ H _ => H⟩),
  (190, ⟨Unit, fun _ _ _ => .iface 333 (.agg []), fun _ H _ => H⟩),
  (190, ⟨Int × List UInt8, fun _ _ x => .iface 339 (.agg [.int .i64 x.1, .sl 1 (.map encB 0 x.2) .none]), fun _ H _ => H⟩),
  (190, ⟨Int, fun _ _ x => .iface 341 (.agg [.int .i64 x]), fun _ H _ => H⟩),
  (190, ⟨Unit, fun _ _ _ => .nili, fun _ H _ => H⟩),
  (283, ⟨T.Ev × Bool, fun _ _ x => .tup [.agg (T.encE x.1), .bool x.2], fun _ H _ => H⟩),
  (281, ⟨Int, fun _ _ x => .int .i64 x, fun _ H _ => H⟩),
  (70, ⟨Bool, fun _ _ x => .bool x, fun _ H _ => H⟩),
  (189, ⟨Bool, fun _ _ x => .bool x, fun _ H _ => H⟩),
  (194, ⟨Bool, fun _ _ x => .bool x, fun _ H _ => H⟩),
  (282, ⟨Bool, fun _ _ x => .bool x, fun _ H _ => H⟩),
  (48, ⟨Bool, fun _ _ x => .bool x, fun _ H _ => H⟩),
  (328, ⟨Bool, fun _ _ x => .bool x, fun _ H _ => H⟩),
  (329, ⟨Bool, fun _ _ x => .bool x, fun _ H _ => H⟩),
  (187, ⟨Bool, fun _ _ x => .bool x, fun _ H _ => H⟩),
  (188, ⟨Bool, fun _ _ x => .bool x, fun _ H _ => H⟩),
  (330, ⟨Bool, fun _ _ x => .bool x, fun _ H _ => H⟩),
  (375, ⟨Bool, fun _ _ x => .bool x, fun _ H _ => H⟩),
  (376, ⟨Bool, fun _ _ x => .bool x, fun _ H _ => H⟩),
  (377, ⟨Bool, fun _ _ x => .bool x, fun _ H _ => H⟩),
  (394, ⟨Bool, fun _ _ x => .bool x, fun _ H _ => H⟩),
  (72, ⟨List UInt8, fun _ _ x => .sl 1 (.map encB 0 x) .none, fun _ H _ => H⟩),
  (415, ⟨List UInt8, fun _ _ x => .sl 1 (.map encB 0 x) .none, fun _ H _ => H⟩),
  (416, ⟨List UInt8, fun _ _ x => .sl 1 (.map encB 0 x) .none, fun _ H _ => H⟩),
  (417, ⟨List UInt8, fun _ _ x => .sl 1 (.map encB 0 x) .none, fun _ H _ => H⟩),
  (418, ⟨List UInt8, fun _ _ x => .sl 1 (.map encB 0 x) .none, fun _ H _ => H⟩)
  ]
noncomputable def rets : FuncId → List Ret := lookupR (retE ++ C.retC ++ V.retL)

-- 328
noncomputable def l187 : Nat → List Nat
  | _ => []
noncomputable def u187 : Nat → Bool
  | _ => false
noncomputable def m187 : Nat → Bool
  | _ => false
noncomputable def g187 : Cfg := { N := 9, live := l187, cut := u187, mu := m187, ret := rets }
theorem s187 : ∀ (l : List T.Ev) (Post : AV → List AObj → Prop),
  (ASpec Try.prog 281 [AV.sl 5 (Seq.map T.encE T.noEv l) Tip.none, AV.fn (188 : FuncId) []] [] fun (r : AV) (H' : List AObj) =>
      ∃ (x : Int), r = AV.int IntKind.i64 x ∧ H' = [] ∧ Post (AV.bool (decide (x ≥ (0 : Int)))) []) →
    ASpec Try.prog 187 [AV.sl 5 (Seq.map T.encE T.noEv l) Tip.none, AV.fn (188 : FuncId) []] [] Post := fun l Post h => Go.Ab.ASpec.of_vc g187 Go.Proofs.Try.func187 (by kernel_rfl) (by kernel_rfl) (by kernel_rfl) (Go.Ab.kc (by kernel_rfl) h)

-- 281
noncomputable def l281 : Nat → List Nat
  | 2 => [0, 1, 7, 8]
  | _ => []
noncomputable def u281 : Nat → Bool
  | _ => false
noncomputable def m281 : Nat → Bool
  | _ => false
noncomputable def g281 : Cfg := { N := 19, live := l281, cut := u281, mu := m281, ret := rets }
noncomputable def c281 : Go.Code := Go.Ab.bodyOf Go.Proofs.Try.f281
noncomputable def q281_0 : Nat → (AV → List AObj → Prop) → AQ := fun (n : Nat) (Post : AV → List AObj → Prop) => endQ Try.prog (resultsOf Try.f281) Post
noncomputable def q281_1 : Nat → (AV → List AObj → Prop) → AQ := fun (n : Nat) (Post : AV → List AObj → Prop) => seqQ (fun (s' : Slots) (H' : List AObj) => awp Try.prog g281 n (codeSnd (codeSnd c281)) s' H' (q281_0 n Post)) (q281_0 n Post)
noncomputable def q281_2 : Nat → (AV → List AObj → Prop) → AQ := fun (n : Nat) (Post : AV → List AObj → Prop) => blockQ 0 (q281_1 n Post)
noncomputable def c281_2 : Go.Code := codeFst (codeSnd (codeFst (codeSnd c281)))
theorem s281 : ∀ (l : List T.Ev) (Post : AV → List AObj → Prop),
  AWP Try.prog 19 0 c281_2
      [(0, AV.sl 5 (Seq.map T.encE T.noEv l) Tip.none), (1, AV.fn (188 : FuncId) []), (7, AV.int IntKind.i64 (↑(List.length l) : Int)),
        (8, AV.int IntKind.i64 (0 : Int))]
      [] (q281_2 0 Post) →
    ASpec Try.prog 281 [AV.sl 5 (Seq.map T.encE T.noEv l) Tip.none, AV.fn (188 : FuncId) []] [] Post := fun l Post h => Go.Ab.ASpec.of_vc g281 Go.Proofs.Try.func281 (by kernel_rfl) (by kernel_rfl) (by kernel_rfl) (Go.Ab.kc (by kernel_rfl) h)
theorem v281_2 : ∀ (l : List T.Ev) (n i : Int) (n_1 : Nat) (Post : AV → List AObj → Prop),
  condP (decide (i < n))
      (needP ((0 : Int) ≤ i ∧ i < (↑(List.length l) : Int))
        (ASpec Try.prog 188
        [AV.agg
        [AV.int IntKind.i64 (Prod.fst (List.getD l (Int.toNat i) T.noEv)), AV.sl 2 (Seq.map T.encN ([], []) (Prod.fst (Prod.snd (List.getD l (Int.toNat i) T.noEv)))) Tip.none,
        AV.int IntKind.i64 (Prod.fst (Prod.snd (Prod.snd (List.getD l (Int.toNat i) T.noEv)))),
        AV.int IntKind.i64 (Prod.fst (Prod.snd (Prod.snd (Prod.snd (List.getD l (Int.toNat i) T.noEv))))),
        AV.sl 1 (Seq.map encB (0 : UInt8) (Prod.snd (Prod.snd (Prod.snd (Prod.snd (List.getD l (Int.toNat i) T.noEv)))))) Tip.none]]
        [] fun (r : AV) (H' : List AObj) =>
        ∃ (x : Bool),
        r = AV.bool x ∧
        H' = [] ∧
        condP x (Post (AV.int IntKind.i64 i) [])
        (AWP Try.prog 19 n_1 c281_2
        [(0, AV.sl 5 (Seq.map T.encE T.noEv l) Tip.none), (1, AV.fn (188 : FuncId) []), (7, AV.int IntKind.i64 n),
        (8, AV.int IntKind.i64 (IntKind.wrap IntKind.i64 (i + (1 : Int))))]
        [] (q281_2 n_1 Post))))
      (Post (AV.int IntKind.i64 (-1 : Int)) []) →
    AWP Try.prog 19 n_1 c281_2
      [(0, AV.sl 5 (Seq.map T.encE T.noEv l) Tip.none), (1, AV.fn (188 : FuncId) []), (7, AV.int IntKind.i64 n), (8, AV.int IntKind.i64 i)] [] (q281_2 n_1 Post) := fun l n i n Post h => Go.Ab.AWP.loop' g281 (Cfg.live g281) c281_2 (by kernel_rfl) (by kernel_rfl) (Go.Ab.kc (by kernel_rfl) h)

-- 415
end
end E
end
