/- Q3: several of this proof's own texts, one behind the other: what each proves stands at its head. -/
import Derived.Test.YtbjcdgepclmmjaaProg
import Derived.Test.YtbjcdgepclmmjaaQ2
import Derived.Test.YtbjcdgepclmmjaaA1
section
/- Printed: what the code of functions 175, 269, 267, 268, 176, 177, 178, 179, 180, 56, 55 asks for, by the framework's own reading of it; each line is checked against the code. -/

set_option linter.unusedVariables false
set_option maxRecDepth 100000
set_option maxHeartbeats 4000000
open Go Go.Ab Go.Proofs
namespace Sx
noncomputable section

noncomputable def updX (args : List AV) (H : List AObj) (W : List T.Item) (S : List T.Ev) : List AObj := match args with
  | .ptr p _ :: _ => match H[p]? with
    | some (.cells [l, .sl _ _ (.tok a), .sl _ _ (.tok b)]) => (((H.set a .gone).set b .gone).set p (.cells [l, .sl 2 (.map T.encIt (0, []) W) (.tok H.length), .sl 5 (.map T.encE T.noEv S) (.tok (H.length + 1))])) ++ [.tok, .tok]
    | _ => H
  | _ => H
noncomputable def retX : List (Nat × Ret) := [
  (175, ⟨Int × List T.Item, fun _ _ x => .int .i64 x.1, fun a H x => Sd.updW a H x.2⟩),
  (176, ⟨T.Ev × Bool × List T.Item × List T.Ev, fun _ _ x => .tup [.agg (T.encE x.1), .bool x.2.1], fun a H x => updX a H x.2.2.1 x.2.2.2⟩), (176, ⟨T.Ev × Bool, fun _ _ x => .tup [.agg (T.encE x.1), .bool x.2], fun _ H _ => H⟩), (177, ⟨T.Ev × Bool × List T.Item × List T.Ev, fun _ _ x => .tup [.agg (T.encE x.1), .bool x.2.1], fun a H x => updX a H x.2.2.1 x.2.2.2⟩), (177, ⟨T.Ev × Bool, fun _ _ x => .tup [.agg (T.encE x.1), .bool x.2], fun _ H _ => H⟩), (178, ⟨T.Ev × Bool × List T.Item × List T.Ev, fun _ _ x => .tup [.agg (T.encE x.1), .bool x.2.1], fun a H x => updX a H x.2.2.1 x.2.2.2⟩), (178, ⟨T.Ev × Bool, fun _ _ x => .tup [.agg (T.encE x.1), .bool x.2], fun _ H _ => H⟩), (179, ⟨T.Ev × Bool × List T.Item, fun _ _ x => .tup [.agg (T.encE x.1), .bool x.2.1], fun a H x => Sd.updW a H x.2.2⟩), (179, ⟨T.Ev × Bool, fun _ _ x => .tup [.agg (T.encE x.1), .bool x.2], fun _ H _ => H⟩), (180, ⟨T.Ev × Bool, fun _ _ x => .tup [.agg (T.encE x.1), .bool x.2], fun _ H _ => H⟩), (267, ⟨T.Ev × Bool × List T.Item × List T.Ev, fun _ _ x => .tup [.agg (T.encE x.1), .bool x.2.1], fun a H x => updX a H x.2.2.1 x.2.2.2⟩),
  (268, ⟨ByteArray, fun _ _ x => .str x, fun _ H _ => H⟩),
  (269, ⟨List T.Item, fun _ _ _ => .tup [], fun a H x => Sd.updW a H x⟩),
  (56, ⟨Int × List UInt8 × Bool, fun _ _ x => .tup [.int .i64 x.1, .str ⟨x.2.1.toArray⟩, .bool x.2.2], fun _ H _ => H⟩), (55, ⟨T.Ev × Bool × List T.Item × List T.Ev, fun _ _ x => .tup [.agg (T.encE x.1), .bool x.2.1], fun a H x => updX a H x.2.2.1 x.2.2.2⟩)]
noncomputable def rets : FuncId → List Ret := fun f => match lookupR retX f with
  | [] => Sd.rets f
  | l => l

-- 175
noncomputable def l175 : Nat → List Nat
  | 3 => [0, 1, 5, 6]
  | _ => []
noncomputable def u175 : Nat → Bool
  | _ => false
noncomputable def m175 : Nat → Bool
  | _ => false
noncomputable def g175 : Cfg := { N := 42, live := l175, cut := u175, mu := m175, ret := rets }
noncomputable def c175 : Go.Code := Go.Ab.bodyOf Go.Proofs.Try.f175
noncomputable def q175_0 : Nat → (AV → List AObj → Prop) → AQ := fun (n : Nat) (Post : AV → List AObj → Prop) => endQ Try.prog (resultsOf Try.f175) Post
noncomputable def q175_1 : Nat → (AV → List AObj → Prop) → AQ := fun (n : Nat) (Post : AV → List AObj → Prop) => seqQ (fun (s' : Slots) (H' : List AObj) => awp Try.prog g175 n (codeSnd (codeSnd (codeSnd c175))) s' H' (q175_0 n Post)) (q175_0 n Post)
noncomputable def q175_2 : Nat → (AV → List AObj → Prop) → AQ := fun (n : Nat) (Post : AV → List AObj → Prop) => blockQ 0 (q175_1 n Post)
noncomputable def c175_3 : Go.Code := codeFst (codeSnd (codeFst (codeSnd (codeSnd c175))))
theorem s175 : ∀ (D : List T.Ent) (W : List T.Item) (S : List T.Ev) (l : List T.Ac) (Post : AV → List AObj → Prop),
  AWP Try.prog 42 3 c175_3
      [(0, AV.ptr 0 0), (1, AV.sl 7 (Seq.map T.encA ((0 : Int), (0 : Int), []) l) Tip.none), (5, AV.int IntKind.i64 (0 : Int)),
        (6, AV.int IntKind.i64 (0 : Int))]
      [AObj.cells
        [AV.sl 2 (Seq.map T.encEn ([], []) D) Tip.none, AV.sl 2 (Seq.map T.encIt ((0 : Int), []) W) (Tip.tok 1),
        AV.sl 5 (Seq.map T.encE T.noEv S) (Tip.tok 2)],
        AObj.tok, AObj.tok]
      (q175_2 3 Post) →
    ASpec Try.prog 175 [AV.ptr 0 0, AV.sl 7 (Seq.map T.encA ((0 : Int), (0 : Int), []) l) Tip.none] (T.HXr D W S) Post := fun D W S l Post h => Go.Ab.ASpec.of_vc g175 Go.Proofs.Try.func175 (by kernel_rfl) (by kernel_rfl) (by kernel_rfl) (Go.Ab.kc (by kernel_rfl) h)
theorem v175_3 : ∀ (D : List T.Ent) (W : List T.Item) (S : List T.Ev) (l : List T.Ac) (m i : Int) (n : Nat) (Post : AV → List AObj → Prop),
  condP (decide (i < (↑(List.length l) : Int)))
      (needP ((0 : Int) ≤ i ∧ i < (↑(List.length l) : Int))
        (condP (Prod.fst (List.getD l (Int.toNat i) ((0 : Int), (0 : Int), [])) == (1 : Int))
        (needP ((0 : Int) ≤ i ∧ i < (↑(List.length l) : Int))
        (needP ((0 : Int) ≤ i ∧ i < (↑(List.length l) : Int))
        (needP ((List.length W + 1) * 24 ≤ 140737488351232)
        (AWP Try.prog 42 n c175_3
        [(0, AV.ptr 0 0), (1, AV.sl 7 (Seq.map T.encA ((0 : Int), (0 : Int), []) l) Tip.none),
        (5, AV.int IntKind.i64 (IntKind.wrap IntKind.i64 (m + (1 : Int)))), (6, AV.int IntKind.i64 (IntKind.wrap IntKind.i64 (i + (1 : Int))))]
        [AObj.cells
        [AV.sl 2 (Seq.map T.encEn ([], []) D) Tip.none,
        AV.sl 2
        (Seq.app (Seq.map T.encIt ((0 : Int), []) W)
        (Seq.raw
        [[AV.int IntKind.i64 (Prod.fst (Prod.snd (List.getD l (Int.toNat i) ((0 : Int), (0 : Int), [])))),
        AV.str { data := List.toArray (Prod.snd (Prod.snd (List.getD l (Int.toNat i) ((0 : Int), (0 : Int), [])))) }]]))
        (Tip.tok 4),
        AV.sl 5 (Seq.map T.encE T.noEv S) (Tip.tok 2)],
        AObj.gone, AObj.tok, AObj.gone, AObj.tok]
        (q175_2 n Post)))))
        (AWP Try.prog 42 n c175_3
        [(0, AV.ptr 0 0), (1, AV.sl 7 (Seq.map T.encA ((0 : Int), (0 : Int), []) l) Tip.none), (5, AV.int IntKind.i64 m),
        (6, AV.int IntKind.i64 (IntKind.wrap IntKind.i64 (i + (1 : Int))))]
        [AObj.cells
        [AV.sl 2 (Seq.map T.encEn ([], []) D) Tip.none, AV.sl 2 (Seq.map T.encIt ((0 : Int), []) W) (Tip.tok 3),
        AV.sl 5 (Seq.map T.encE T.noEv S) (Tip.tok 2)],
        AObj.gone, AObj.tok, AObj.tok]
        (q175_2 n Post))))
      (Post (AV.int IntKind.i64 m)
        [AObj.cells
        [AV.sl 2 (Seq.map T.encEn ([], []) D) Tip.none, AV.sl 2 (Seq.map T.encIt ((0 : Int), []) W) (Tip.tok 3),
        AV.sl 5 (Seq.map T.encE T.noEv S) (Tip.tok 2)],
        AObj.gone, AObj.tok, AObj.tok]) →
    AWP Try.prog 42 n c175_3
      [(0, AV.ptr 0 0), (1, AV.sl 7 (Seq.map T.encA ((0 : Int), (0 : Int), []) l) Tip.none), (5, AV.int IntKind.i64 m),
        (6, AV.int IntKind.i64 i)]
      (T.HXr2 D W S) (q175_2 n Post) := fun D W S l m i n Post h => Go.Ab.AWP.loop' g175 (Cfg.live g175) c175_3 (by kernel_rfl) (by kernel_rfl) (Go.Ab.kc (by kernel_rfl) h)

-- 269
noncomputable def l269 : Nat → List Nat
  | 2 => [0, 1, 4, 5]
  | _ => []
noncomputable def u269 : Nat → Bool
  | _ => false
noncomputable def m269 : Nat → Bool
  | _ => false
noncomputable def g269 : Cfg := { N := 32, live := l269, cut := u269, mu := m269, ret := rets }
noncomputable def c269 : Go.Code := Go.Ab.bodyOf Go.Proofs.Try.f269
noncomputable def q269_0 : Nat → (AV → List AObj → Prop) → AQ := fun (n : Nat) (Post : AV → List AObj → Prop) => endQ Try.prog (resultsOf Try.f269) Post
noncomputable def q269_1 : Nat → (AV → List AObj → Prop) → AQ := fun (n : Nat) (Post : AV → List AObj → Prop) => seqQ (fun (s' : Slots) (H' : List AObj) => awp Try.prog g269 n (codeSnd (codeSnd c269)) s' H' (q269_0 n Post)) (q269_0 n Post)
noncomputable def q269_2 : Nat → (AV → List AObj → Prop) → AQ := fun (n : Nat) (Post : AV → List AObj → Prop) => blockQ 0 (q269_1 n Post)
noncomputable def c269_2 : Go.Code := codeFst (codeSnd (codeFst (codeSnd c269)))
theorem s269 : ∀ (D : List T.Ent) (W : List T.Item) (S : List T.Ev) (k : Int) (Post : AV → List AObj → Prop),
  AWP Try.prog 32 3 c269_2
      [(0, AV.ptr 0 0), (1, AV.int IntKind.i64 k), (4, AV.sl 0 (Seq.raw []) Tip.nil), (5, AV.int IntKind.i64 (0 : Int))]
      [AObj.cells
        [AV.sl 2 (Seq.map T.encEn ([], []) D) Tip.none, AV.sl 2 (Seq.map T.encIt ((0 : Int), []) W) (Tip.tok 1),
        AV.sl 5 (Seq.map T.encE T.noEv S) (Tip.tok 2)],
        AObj.tok, AObj.tok]
      (q269_2 3 Post) →
    ASpec Try.prog 269 [AV.ptr 0 0, AV.int IntKind.i64 k] (T.HXr D W S) Post := fun D W S k Post h => Go.Ab.ASpec.of_vc g269 Go.Proofs.Try.func269 (by kernel_rfl) (by kernel_rfl) (by kernel_rfl) (Go.Ab.kc (by kernel_rfl) h)
theorem v269_2 : ∀ (D : List T.Ent) (W : List T.Item) (S : List T.Ev) (k : Int) (acc : List T.Item) (i : Int) (n : Nat) (Post : AV → List AObj → Prop),
  condP (decide (i < (↑(List.length W) : Int)))
      (condP (i != k)
        (needP ((0 : Int) ≤ i ∧ i < (↑(List.length W) : Int))
        (needP ((List.length acc + 1) * 24 ≤ 140737488351232)
        (AWP Try.prog 32 n c269_2
        [(0, AV.ptr 0 0), (1, AV.int IntKind.i64 k),
        (4,
        AV.sl 2
        (Seq.app (Seq.map T.encIt ((0 : Int), []) acc)
        (Seq.raw [[AV.int IntKind.i64 (Prod.fst (List.getD W (Int.toNat i) ((0 : Int), []))), AV.str { data := List.toArray (Prod.snd (List.getD W (Int.toNat i) ((0 : Int), []))) }]]))
        (Tip.tok 4)),
        (5, AV.int IntKind.i64 (IntKind.wrap IntKind.i64 (i + (1 : Int))))]
        [AObj.cells
        [AV.sl 2 (Seq.map T.encEn ([], []) D) Tip.none, AV.sl 2 (Seq.map T.encIt ((0 : Int), []) W) (Tip.tok 1),
        AV.sl 5 (Seq.map T.encE T.noEv S) (Tip.tok 2)],
        AObj.tok, AObj.tok, AObj.gone, AObj.tok]
        (q269_2 n Post))))
        (AWP Try.prog 32 n c269_2
        [(0, AV.ptr 0 0), (1, AV.int IntKind.i64 k), (4, AV.sl 2 (Seq.map T.encIt ((0 : Int), []) acc) (Tip.tok 3)),
        (5, AV.int IntKind.i64 (IntKind.wrap IntKind.i64 (i + (1 : Int))))]
        [AObj.cells
        [AV.sl 2 (Seq.map T.encEn ([], []) D) Tip.none, AV.sl 2 (Seq.map T.encIt ((0 : Int), []) W) (Tip.tok 1),
        AV.sl 5 (Seq.map T.encE T.noEv S) (Tip.tok 2)],
        AObj.tok, AObj.tok, AObj.tok]
        (q269_2 n Post)))
      (Post (AV.tup [])
        [AObj.cells
        [AV.sl 2 (Seq.map T.encEn ([], []) D) Tip.none, AV.sl 2 (Seq.map T.encIt ((0 : Int), []) acc) (Tip.tok 3),
        AV.sl 5 (Seq.map T.encE T.noEv S) (Tip.tok 2)],
        AObj.tok, AObj.tok, AObj.tok]) →
    AWP Try.prog 32 n c269_2
      [(0, AV.ptr 0 0), (1, AV.int IntKind.i64 k), (4, AV.sl 2 (Seq.map T.encIt ((0 : Int), []) acc) (Tip.tok 3)),
        (5, AV.int IntKind.i64 i)]
      (T.HXr D W S ++ [AObj.tok]) (q269_2 n Post) := fun D W S k acc i n Post h => Go.Ab.AWP.loop' g269 (Cfg.live g269) c269_2 (by kernel_rfl) (by kernel_rfl) (Go.Ab.kc (by kernel_rfl) h)

-- 267
noncomputable def l267 : Nat → List Nat
  | _ => []
noncomputable def u267 : Nat → Bool
  | _ => false
noncomputable def m267 : Nat → Bool
  | _ => false
noncomputable def g267 : Cfg := { N := 34, live := l267, cut := u267, mu := m267, ret := rets }
theorem s267 : ∀ (D : List T.Ent) (W : List T.Item) (S : List T.Ev) (k : Int) (b : ByteArray) (Post : AV → List AObj → Prop),
  needP ((0 : Int) ≤ k ∧ k < (↑(List.length W) : Int))
      (ASpec Try.prog 269 [AV.ptr 0 0, AV.int IntKind.i64 k]
        [AObj.cells
        [AV.sl 2 (Seq.map T.encEn ([], []) D) Tip.none, AV.sl 2 (Seq.map T.encIt ((0 : Int), []) W) (Tip.tok 1),
        AV.sl 5 (Seq.map T.encE T.noEv S) (Tip.tok 2)],
        AObj.tok, AObj.tok,
        AObj.cells [AV.int IntKind.i64 (0 : Int), AV.sl 0 (Seq.raw []) Tip.nil, AV.int IntKind.i64 (0 : Int), AV.int IntKind.i64 (0 : Int), AV.sl 0 (Seq.raw []) Tip.nil],
        AObj.cells
        [AV.int IntKind.i64 (3 : Int), AV.sl 0 (Seq.raw []) Tip.nil, AV.int IntKind.i64 (0 : Int), AV.int IntKind.i64 (Prod.fst (List.getD W (Int.toNat k) ((0 : Int), []))),
        AV.sl 1 (bytesSeq b) Tip.none]]
        fun (r : AV) (H' : List AObj) =>
        ∃ (x : List T.Item),
        r = AV.tup [] ∧
        H' =
        [AObj.cells
        [AV.sl 2 (Seq.map T.encEn ([], []) D) Tip.none, AV.sl 2 (Seq.map T.encIt ((0 : Int), []) x) (Tip.tok 5),
        AV.sl 5 (Seq.map T.encE T.noEv S) (Tip.tok 2)],
        AObj.gone, AObj.tok,
        AObj.cells [AV.int IntKind.i64 (0 : Int), AV.sl 0 (Seq.raw []) Tip.nil, AV.int IntKind.i64 (0 : Int), AV.int IntKind.i64 (0 : Int), AV.sl 0 (Seq.raw []) Tip.nil],
        AObj.cells
        [AV.int IntKind.i64 (3 : Int), AV.sl 0 (Seq.raw []) Tip.nil, AV.int IntKind.i64 (0 : Int), AV.int IntKind.i64 (Prod.fst (List.getD W (Int.toNat k) ((0 : Int), []))),
        AV.sl 1 (bytesSeq b) Tip.none],
        AObj.tok] ∧
        needP ((List.length S + 1) * 72 ≤ 140737488351232)
        (Post
        (AV.tup
        [AV.agg
        [AV.int IntKind.i64 (3 : Int), AV.sl 0 (Seq.raw []) Tip.nil, AV.int IntKind.i64 (0 : Int), AV.int IntKind.i64 (Prod.fst (List.getD W (Int.toNat k) ((0 : Int), []))),
        AV.sl 1 (bytesSeq b) Tip.none],
        AV.bool true])
        [AObj.cells
        [AV.sl 2 (Seq.map T.encEn ([], []) D) Tip.none, AV.sl 2 (Seq.map T.encIt ((0 : Int), []) x) (Tip.tok 5),
        AV.sl 5
        (Seq.app (Seq.map T.encE T.noEv S)
        (Seq.raw
        [[AV.int IntKind.i64 (3 : Int), AV.sl 0 (Seq.raw []) Tip.nil, AV.int IntKind.i64 (0 : Int),
        AV.int IntKind.i64 (Prod.fst (List.getD W (Int.toNat k) ((0 : Int), []))), AV.sl 1 (bytesSeq b) Tip.none]]))
        (Tip.tok 6)],
        AObj.gone, AObj.gone,
        AObj.cells
        [AV.int IntKind.i64 (3 : Int), AV.sl 0 (Seq.raw []) Tip.nil, AV.int IntKind.i64 (0 : Int), AV.int IntKind.i64 (Prod.fst (List.getD W (Int.toNat k) ((0 : Int), []))),
        AV.sl 1 (bytesSeq b) Tip.none],
        AObj.cells
        [AV.int IntKind.i64 (3 : Int), AV.sl 0 (Seq.raw []) Tip.nil, AV.int IntKind.i64 (0 : Int), AV.int IntKind.i64 (Prod.fst (List.getD W (Int.toNat k) ((0 : Int), []))),
        AV.sl 1 (bytesSeq b) Tip.none],
        AObj.tok, AObj.tok])) →
    ASpec Try.prog 267 [AV.ptr 0 0, AV.int IntKind.i64 k, AV.str b] (T.HXr D W S) Post := fun D W S k b Post h => Go.Ab.ASpec.of_vc g267 Go.Proofs.Try.func267 (by kernel_rfl) (by kernel_rfl) (by kernel_rfl) (Go.Ab.kc (by kernel_rfl) h)

-- 268
noncomputable def l268 : Nat → List Nat
  | _ => []
noncomputable def u268 : Nat → Bool
  | _ => false
noncomputable def m268 : Nat → Bool
  | _ => false
noncomputable def g268 : Cfg := { N := 13, live := l268, cut := u268, mu := m268, ret := rets }
theorem s268 : ∀ (D : List T.Ent) (W : List T.Item) (S : List T.Ev) (t : T.Item) (Post : AV → List AObj → Prop),
  (ASpec Try.prog 47 [AV.sl 2 (Seq.map T.encEn ([], []) D) Tip.none, AV.str { data := List.toArray (Prod.snd t) }]
      [AObj.cells [AV.sl 2 (Seq.map T.encEn ([], []) D) Tip.none, AV.sl 2 (Seq.map T.encIt ((0 : Int), []) W) Tip.none, AV.sl 5 (Seq.map T.encE T.noEv S) Tip.none],
        AObj.cells [AV.int IntKind.i64 (Prod.fst t), AV.str { data := List.toArray (Prod.snd t) }]]
      fun (r : AV) (H' : List AObj) =>
      ∃ (x : ByteArray),
        r = AV.str x ∧
        H' =
        [AObj.cells [AV.sl 2 (Seq.map T.encEn ([], []) D) Tip.none, AV.sl 2 (Seq.map T.encIt ((0 : Int), []) W) Tip.none, AV.sl 5 (Seq.map T.encE T.noEv S) Tip.none],
        AObj.cells [AV.int IntKind.i64 (Prod.fst t), AV.str { data := List.toArray (Prod.snd t) }]] ∧
        (AV.str { data := List.toArray (Prod.snd t) } = AV.str { data := List.toArray (Prod.snd t) } ∧
        [AObj.cells [AV.sl 2 (Seq.map T.encEn ([], []) D) Tip.none, AV.sl 2 (Seq.map T.encIt ((0 : Int), []) W) Tip.none, AV.sl 5 (Seq.map T.encE T.noEv S) Tip.none],
        AObj.cells [AV.int IntKind.i64 (Prod.fst t), AV.str { data := List.toArray (Prod.snd t) }]] =
        [AObj.cells [AV.sl 2 (Seq.map T.encEn ([], []) D) Tip.none, AV.sl 2 (Seq.map T.encIt ((0 : Int), []) W) Tip.none, AV.sl 5 (Seq.map T.encE T.noEv S) Tip.none],
        AObj.cells [AV.int IntKind.i64 (Prod.fst t), AV.str { data := List.toArray (Prod.snd t) }]]) ∧
        ASpec Try.prog 325 [AV.str { data := List.toArray (Prod.snd t) }, AV.str x]
        [AObj.cells [AV.sl 2 (Seq.map T.encEn ([], []) D) Tip.none, AV.sl 2 (Seq.map T.encIt ((0 : Int), []) W) Tip.none, AV.sl 5 (Seq.map T.encE T.noEv S) Tip.none],
        AObj.cells [AV.int IntKind.i64 (Prod.fst t), AV.str { data := List.toArray (Prod.snd t) }]]
        fun (r : AV) (H' : List AObj) =>
        ∃ (x : ByteArray),
        r = AV.str x ∧
        H' =
        [AObj.cells
        [AV.sl 2 (Seq.map T.encEn ([], []) D) Tip.none, AV.sl 2 (Seq.map T.encIt ((0 : Int), []) W) Tip.none, AV.sl 5 (Seq.map T.encE T.noEv S) Tip.none],
        AObj.cells [AV.int IntKind.i64 (Prod.fst t), AV.str { data := List.toArray (Prod.snd t) }]] ∧
        Post (AV.str x)
        [AObj.cells
        [AV.sl 2 (Seq.map T.encEn ([], []) D) Tip.none, AV.sl 2 (Seq.map T.encIt ((0 : Int), []) W) Tip.none, AV.sl 5 (Seq.map T.encE T.noEv S) Tip.none],
        AObj.cells [AV.int IntKind.i64 (Prod.fst t), AV.str { data := List.toArray (Prod.snd t) }]]) →
    ASpec Try.prog 268 [AV.agg (T.encX D W S), AV.agg (T.encIt t)] [] Post := fun D W S t Post h => Go.Ab.ASpec.of_vc g268 Go.Proofs.Try.func268 (by kernel_rfl) (by kernel_rfl) (by kernel_rfl) (Go.Ab.kc (by kernel_rfl) h)

-- 176
noncomputable def l176 : Nat → List Nat
  | _ => []
noncomputable def u176 : Nat → Bool
  | _ => false
noncomputable def m176 : Nat → Bool
  | _ => false
noncomputable def g176 : Cfg := { N := 34, live := l176, cut := u176, mu := m176, ret := rets }
theorem s176 : ∀ (D : List T.Ent) (W : List T.Item) (S : List T.Ev) (k : Int) (Post : AV → List AObj → Prop),
  condP (decide (k < (0 : Int)))
      (Post
        (AV.tup
        [AV.agg [AV.int IntKind.i64 (0 : Int), AV.sl 0 (Seq.raw []) Tip.nil, AV.int IntKind.i64 (0 : Int), AV.int IntKind.i64 (0 : Int), AV.sl 0 (Seq.raw []) Tip.nil],
        AV.bool false])
        [AObj.cells
        [AV.sl 2 (Seq.map T.encEn ([], []) D) Tip.none, AV.sl 2 (Seq.map T.encIt ((0 : Int), []) W) (Tip.tok 1),
        AV.sl 5 (Seq.map T.encE T.noEv S) (Tip.tok 2)],
        AObj.tok, AObj.tok,
        AObj.cells [AV.int IntKind.i64 (0 : Int), AV.sl 0 (Seq.raw []) Tip.nil, AV.int IntKind.i64 (0 : Int), AV.int IntKind.i64 (0 : Int), AV.sl 0 (Seq.raw []) Tip.nil]])
      (condP (decide (k ≥ (↑(List.length W) : Int)))
        (Post
        (AV.tup
        [AV.agg [AV.int IntKind.i64 (0 : Int), AV.sl 0 (Seq.raw []) Tip.nil, AV.int IntKind.i64 (0 : Int), AV.int IntKind.i64 (0 : Int), AV.sl 0 (Seq.raw []) Tip.nil],
        AV.bool false])
        [AObj.cells
        [AV.sl 2 (Seq.map T.encEn ([], []) D) Tip.none, AV.sl 2 (Seq.map T.encIt ((0 : Int), []) W) (Tip.tok 1),
        AV.sl 5 (Seq.map T.encE T.noEv S) (Tip.tok 2)],
        AObj.tok, AObj.tok,
        AObj.cells [AV.int IntKind.i64 (0 : Int), AV.sl 0 (Seq.raw []) Tip.nil, AV.int IntKind.i64 (0 : Int), AV.int IntKind.i64 (0 : Int), AV.sl 0 (Seq.raw []) Tip.nil]])
        (needP ((0 : Int) ≤ k ∧ k < (↑(List.length W) : Int))
        (ASpec Try.prog 268
        [AV.agg
        [AV.sl 2 (Seq.map T.encEn ([], []) D) Tip.none, AV.sl 2 (Seq.map T.encIt ((0 : Int), []) W) (Tip.tok 1),
        AV.sl 5 (Seq.map T.encE T.noEv S) (Tip.tok 2)],
        AV.agg [AV.int IntKind.i64 (Prod.fst (List.getD W (Int.toNat k) ((0 : Int), []))), AV.str { data := List.toArray (Prod.snd (List.getD W (Int.toNat k) ((0 : Int), []))) }]]
        [AObj.cells
        [AV.sl 2 (Seq.map T.encEn ([], []) D) Tip.none, AV.sl 2 (Seq.map T.encIt ((0 : Int), []) W) (Tip.tok 1),
        AV.sl 5 (Seq.map T.encE T.noEv S) (Tip.tok 2)],
        AObj.tok, AObj.tok,
        AObj.cells [AV.int IntKind.i64 (0 : Int), AV.sl 0 (Seq.raw []) Tip.nil, AV.int IntKind.i64 (0 : Int), AV.int IntKind.i64 (0 : Int), AV.sl 0 (Seq.raw []) Tip.nil]]
        fun (r : AV) (H' : List AObj) =>
        ∃ (x : ByteArray),
        r = AV.str x ∧
        H' =
        [AObj.cells
        [AV.sl 2 (Seq.map T.encEn ([], []) D) Tip.none, AV.sl 2 (Seq.map T.encIt ((0 : Int), []) W) (Tip.tok 1),
        AV.sl 5 (Seq.map T.encE T.noEv S) (Tip.tok 2)],
        AObj.tok, AObj.tok,
        AObj.cells
        [AV.int IntKind.i64 (0 : Int), AV.sl 0 (Seq.raw []) Tip.nil, AV.int IntKind.i64 (0 : Int), AV.int IntKind.i64 (0 : Int), AV.sl 0 (Seq.raw []) Tip.nil]] ∧
        ASpec Try.prog 267 [AV.ptr 0 0, AV.int IntKind.i64 k, AV.str x]
        [AObj.cells
        [AV.sl 2 (Seq.map T.encEn ([], []) D) Tip.none, AV.sl 2 (Seq.map T.encIt ((0 : Int), []) W) (Tip.tok 1),
        AV.sl 5 (Seq.map T.encE T.noEv S) (Tip.tok 2)],
        AObj.tok, AObj.tok,
        AObj.cells [AV.int IntKind.i64 (0 : Int), AV.sl 0 (Seq.raw []) Tip.nil, AV.int IntKind.i64 (0 : Int), AV.int IntKind.i64 (0 : Int), AV.sl 0 (Seq.raw []) Tip.nil]]
        fun (r : AV) (H' : List AObj) =>
        ∃ (x : T.Ev × Bool × List T.Item × List T.Ev),
        r =
        AV.tup
        [AV.agg
        [AV.int IntKind.i64 (Prod.fst (Prod.fst x)), AV.sl 2 (Seq.map T.encN ([], []) (Prod.fst (Prod.snd (Prod.fst x)))) Tip.none,
        AV.int IntKind.i64 (Prod.fst (Prod.snd (Prod.snd (Prod.fst x)))), AV.int IntKind.i64 (Prod.fst (Prod.snd (Prod.snd (Prod.snd (Prod.fst x))))),
        AV.sl 1 (Seq.map encB (0 : UInt8) (Prod.snd (Prod.snd (Prod.snd (Prod.snd (Prod.fst x)))))) Tip.none],
        AV.bool (Prod.fst (Prod.snd x))] ∧
        H' =
        [AObj.cells
        [AV.sl 2 (Seq.map T.encEn ([], []) D) Tip.none, AV.sl 2 (Seq.map T.encIt ((0 : Int), []) (Prod.fst (Prod.snd (Prod.snd x)))) (Tip.tok 4),
        AV.sl 5 (Seq.map T.encE T.noEv (Prod.snd (Prod.snd (Prod.snd x)))) (Tip.tok 5)],
        AObj.gone, AObj.gone,
        AObj.cells
        [AV.int IntKind.i64 (0 : Int), AV.sl 0 (Seq.raw []) Tip.nil, AV.int IntKind.i64 (0 : Int), AV.int IntKind.i64 (0 : Int), AV.sl 0 (Seq.raw []) Tip.nil],
        AObj.tok, AObj.tok] ∧
        Post
        (AV.tup
        [AV.agg
        [AV.int IntKind.i64 (Prod.fst (Prod.fst x)), AV.sl 2 (Seq.map T.encN ([], []) (Prod.fst (Prod.snd (Prod.fst x)))) Tip.none,
        AV.int IntKind.i64 (Prod.fst (Prod.snd (Prod.snd (Prod.fst x)))), AV.int IntKind.i64 (Prod.fst (Prod.snd (Prod.snd (Prod.snd (Prod.fst x))))),
        AV.sl 1 (Seq.map encB (0 : UInt8) (Prod.snd (Prod.snd (Prod.snd (Prod.snd (Prod.fst x)))))) Tip.none],
        AV.bool (Prod.fst (Prod.snd x))])
        [AObj.cells
        [AV.sl 2 (Seq.map T.encEn ([], []) D) Tip.none, AV.sl 2 (Seq.map T.encIt ((0 : Int), []) (Prod.fst (Prod.snd (Prod.snd x)))) (Tip.tok 4),
        AV.sl 5 (Seq.map T.encE T.noEv (Prod.snd (Prod.snd (Prod.snd x)))) (Tip.tok 5)],
        AObj.gone, AObj.gone,
        AObj.cells
        [AV.int IntKind.i64 (Prod.fst (Prod.fst x)), AV.sl 2 (Seq.map T.encN ([], []) (Prod.fst (Prod.snd (Prod.fst x)))) Tip.none,
        AV.int IntKind.i64 (Prod.fst (Prod.snd (Prod.snd (Prod.fst x)))), AV.int IntKind.i64 (Prod.fst (Prod.snd (Prod.snd (Prod.snd (Prod.fst x))))),
        AV.sl 1 (Seq.map encB (0 : UInt8) (Prod.snd (Prod.snd (Prod.snd (Prod.snd (Prod.fst x)))))) Tip.none],
        AObj.tok, AObj.tok]))) →
    ASpec Try.prog 176 [AV.ptr 0 0, AV.int IntKind.i64 k] (T.HXr D W S) Post := fun D W S k Post h => Go.Ab.ASpec.of_vc g176 Go.Proofs.Try.func176 (by kernel_rfl) (by kernel_rfl) (by kernel_rfl) (Go.Ab.kc (by kernel_rfl) h)

-- 177
noncomputable def l177 : Nat → List Nat
  | 7 => [0, 1, 8, 10]
  | _ => []
noncomputable def u177 : Nat → Bool
  | 7 => true
  | _ => false
noncomputable def m177 : Nat → Bool
  | 35 => true
  | _ => false
noncomputable def g177 : Cfg := { N := 61, live := l177, cut := u177, mu := m177, ret := rets }
noncomputable def c177 : Go.Code := Go.Ab.bodyOf Go.Proofs.Try.f177
noncomputable def q177_0 : Nat → (AV → List AObj → Prop) → AQ := fun (n : Nat) (Post : AV → List AObj → Prop) => endQ Try.prog (resultsOf Try.f177) Post
noncomputable def c177_7 : Go.Code := codeSnd (codeSnd (codeSnd (codeSnd c177)))
theorem s177 : ∀ (D : List T.Ent) (W : List T.Item) (S : List T.Ev) (k a y : Int) (Post : AV → List AObj → Prop),
  condP (decide (k < (0 : Int)))
      (Post
        (AV.tup
        [AV.agg [AV.int IntKind.i64 (0 : Int), AV.sl 0 (Seq.raw []) Tip.nil, AV.int IntKind.i64 (0 : Int), AV.int IntKind.i64 (0 : Int), AV.sl 0 (Seq.raw []) Tip.nil],
        AV.bool false])
        [AObj.cells
        [AV.sl 2 (Seq.map T.encEn ([], []) D) Tip.none, AV.sl 2 (Seq.map T.encIt ((0 : Int), []) W) (Tip.tok 1),
        AV.sl 5 (Seq.map T.encE T.noEv S) (Tip.tok 2)],
        AObj.tok, AObj.tok,
        AObj.cells [AV.int IntKind.i64 (0 : Int), AV.sl 0 (Seq.raw []) Tip.nil, AV.int IntKind.i64 (0 : Int), AV.int IntKind.i64 (0 : Int), AV.sl 0 (Seq.raw []) Tip.nil]])
      (condP (decide (k ≥ (↑(List.length W) : Int)))
        (Post
        (AV.tup
        [AV.agg [AV.int IntKind.i64 (0 : Int), AV.sl 0 (Seq.raw []) Tip.nil, AV.int IntKind.i64 (0 : Int), AV.int IntKind.i64 (0 : Int), AV.sl 0 (Seq.raw []) Tip.nil],
        AV.bool false])
        [AObj.cells
        [AV.sl 2 (Seq.map T.encEn ([], []) D) Tip.none, AV.sl 2 (Seq.map T.encIt ((0 : Int), []) W) (Tip.tok 1),
        AV.sl 5 (Seq.map T.encE T.noEv S) (Tip.tok 2)],
        AObj.tok, AObj.tok,
        AObj.cells [AV.int IntKind.i64 (0 : Int), AV.sl 0 (Seq.raw []) Tip.nil, AV.int IntKind.i64 (0 : Int), AV.int IntKind.i64 (0 : Int), AV.sl 0 (Seq.raw []) Tip.nil]])
        (needP ((0 : Int) ≤ k ∧ k < (↑(List.length W) : Int))
        (ASpec Try.prog 268
        [AV.agg
        [AV.sl 2 (Seq.map T.encEn ([], []) D) Tip.none, AV.sl 2 (Seq.map T.encIt ((0 : Int), []) W) (Tip.tok 1),
        AV.sl 5 (Seq.map T.encE T.noEv S) (Tip.tok 2)],
        AV.agg [AV.int IntKind.i64 (Prod.fst (List.getD W (Int.toNat k) ((0 : Int), []))), AV.str { data := List.toArray (Prod.snd (List.getD W (Int.toNat k) ((0 : Int), []))) }]]
        [AObj.cells
        [AV.sl 2 (Seq.map T.encEn ([], []) D) Tip.none, AV.sl 2 (Seq.map T.encIt ((0 : Int), []) W) (Tip.tok 1),
        AV.sl 5 (Seq.map T.encE T.noEv S) (Tip.tok 2)],
        AObj.tok, AObj.tok,
        AObj.cells [AV.int IntKind.i64 (0 : Int), AV.sl 0 (Seq.raw []) Tip.nil, AV.int IntKind.i64 (0 : Int), AV.int IntKind.i64 (0 : Int), AV.sl 0 (Seq.raw []) Tip.nil]]
        fun (r : AV) (H' : List AObj) =>
        ∃ (x : ByteArray),
        r = AV.str x ∧
        H' =
        [AObj.cells
        [AV.sl 2 (Seq.map T.encEn ([], []) D) Tip.none, AV.sl 2 (Seq.map T.encIt ((0 : Int), []) W) (Tip.tok 1),
        AV.sl 5 (Seq.map T.encE T.noEv S) (Tip.tok 2)],
        AObj.tok, AObj.tok,
        AObj.cells
        [AV.int IntKind.i64 (0 : Int), AV.sl 0 (Seq.raw []) Tip.nil, AV.int IntKind.i64 (0 : Int), AV.int IntKind.i64 (0 : Int), AV.sl 0 (Seq.raw []) Tip.nil]] ∧
        condP (decide ((↑(ByteArray.size x) : Int) > (0 : Int)))
        (needP ((↑(ByteArray.size x) : Int) ≠ (0 : Int))
        (needP
        ((0 : Int) ≤ Int.tmod (if (0 : Int) > a then (0 : Int) else a) (↑(ByteArray.size x) : Int) ∧
        Int.tmod (if (0 : Int) > a then (0 : Int) else a) (↑(ByteArray.size x) : Int) < (↑(ByteArray.size x) : Int))
        (needP (0 + Int.toNat (Int.tmod (if (0 : Int) > a then (0 : Int) else a) (↑(ByteArray.size x) : Int)) < Seq.len (bytesSeq x))
        (needP
        ((0 : Int) ≤ Int.tmod (if (0 : Int) > a then (0 : Int) else a) (↑(ByteArray.size x) : Int) ∧
        Int.tmod (if (0 : Int) > a then (0 : Int) else a) (↑(ByteArray.size x) : Int) < (↑(ByteArray.size x) : Int))
        (needP (0 + Int.toNat (Int.tmod (if (0 : Int) > a then (0 : Int) else a) (↑(ByteArray.size x) : Int)) < Seq.len (bytesSeq x))
        (AWP Try.prog 61 3 c177_7
        [(0, AV.ptr 0 0), (1, AV.int IntKind.i64 k), (8, AV.ptr 3 0),
        (10, AV.msl 1 4 0 (ByteArray.size x))]
        [AObj.cells
        [AV.sl 2 (Seq.map T.encEn ([], []) D) Tip.none, AV.sl 2 (Seq.map T.encIt ((0 : Int), []) W) (Tip.tok 1),
        AV.sl 5 (Seq.map T.encE T.noEv S) (Tip.tok 2)],
        AObj.tok, AObj.tok,
        AObj.cells
        [AV.int IntKind.i64 (0 : Int), AV.sl 0 (Seq.raw []) Tip.nil, AV.int IntKind.i64 (0 : Int), AV.int IntKind.i64 (0 : Int),
        AV.sl 0 (Seq.raw []) Tip.nil],
        AObj.arr 1
        (Seq.raw
        (List.set (Seq.toList (bytesSeq x)) (0 + Int.toNat (Int.tmod (if (0 : Int) > a then (0 : Int) else a) (↑(ByteArray.size x) : Int)))
        (splice (Seq.getD (bytesSeq x) (0 + Int.toNat (Int.tmod (if (0 : Int) > a then (0 : Int) else a) (↑(ByteArray.size x) : Int)))) 0
        [ev
        [(53,
        AV.mptr 1 4 (0 + Int.toNat (Int.tmod (if (0 : Int) > a then (0 : Int) else a) (↑(ByteArray.size x) : Int))) 0),
        (52,
        AV.int IntKind.u8
        (IntKind.wrap IntKind.u8
        ((↑(UInt8.toNat
        (List.getD (Array.toList (ByteArray.data x))
        (0 + Int.toNat (Int.tmod (if (0 : Int) > a then (0 : Int) else a) (↑(ByteArray.size x) : Int))) (0 : UInt8))) :
        Int) +
        if (1 : Int) > y then (1 : Int) else y))),
        (51, AV.int IntKind.u8 (if (1 : Int) > y then (1 : Int) else y)), (50, AV.int IntKind.u8 y),
        (49,
        AV.int IntKind.u8
        (↑(UInt8.toNat
        (List.getD (Array.toList (ByteArray.data x))
        (0 + Int.toNat (Int.tmod (if (0 : Int) > a then (0 : Int) else a) (↑(ByteArray.size x) : Int))) (0 : UInt8))) :
        Int)),
        (48,
        AV.mptr 1 4 (0 + Int.toNat (Int.tmod (if (0 : Int) > a then (0 : Int) else a) (↑(ByteArray.size x) : Int))) 0),
        (47, AV.int IntKind.i64 (Int.tmod (if (0 : Int) > a then (0 : Int) else a) (↑(ByteArray.size x) : Int))),
        (46, AV.msl 1 4 0 (ByteArray.size x)),
        (45, AV.int IntKind.i64 (Int.tmod (if (0 : Int) > a then (0 : Int) else a) (↑(ByteArray.size x) : Int))),
        (44, AV.msl 1 4 0 (ByteArray.size x)),
        (11, AV.int IntKind.i64 (Int.tmod (if (0 : Int) > a then (0 : Int) else a) (↑(ByteArray.size x) : Int))),
        (43, AV.int IntKind.i64 (Int.tmod (if (0 : Int) > a then (0 : Int) else a) (↑(ByteArray.size x) : Int))),
        (42, AV.int IntKind.i64 (↑(ByteArray.size x) : Int)), (41, AV.msl 1 4 0 (ByteArray.size x)),
        (40, AV.int IntKind.i64 (if (0 : Int) > a then (0 : Int) else a)), (39, AV.int IntKind.i64 a),
        (38, AV.bool (decide ((↑(ByteArray.size x) : Int) > (0 : Int)))), (37, AV.int IntKind.i64 (↑(ByteArray.size x) : Int)),
        (36, AV.msl 1 4 0 (ByteArray.size x)), (10, AV.msl 1 4 0 (ByteArray.size x)),
        (35, AV.msl 1 4 0 (ByteArray.size x)), (34, AV.str x),
        (33,
        AV.agg
        [AV.int IntKind.i64 (Prod.fst (List.getD W (Int.toNat k) ((0 : Int), []))),
        AV.str { data := List.toArray (Prod.snd (List.getD W (Int.toNat k) ((0 : Int), []))) }]),
        (32,
        AV.iptr
        [AV.int IntKind.i64 (Prod.fst (List.getD W (Int.toNat k) ((0 : Int), []))),
        AV.str { data := List.toArray (Prod.snd (List.getD W (Int.toNat k) ((0 : Int), []))) }]
        0),
        (31, AV.int IntKind.i64 k), (30, AV.sl 2 (Seq.map T.encIt ((0 : Int), []) W) (Tip.tok 1)),
        (29, AV.ptr 0 1), (28, AV.ptr 0 0), (27, AV.ptr 0 0),
        (26,
        AV.agg
        [AV.sl 2 (Seq.map T.encEn ([], []) D) Tip.none, AV.sl 2 (Seq.map T.encIt ((0 : Int), []) W) (Tip.tok 1),
        AV.sl 5 (Seq.map T.encE T.noEv S) (Tip.tok 2)]),
        (25, AV.ptr 0 0), (24, AV.ptr 0 0), (22, AV.bool (decide (k ≥ (↑(List.length W) : Int)))),
        (21, AV.bool (decide (k ≥ (↑(List.length W) : Int)))), (14, AV.bool false), (20, AV.int IntKind.i64 (↑(List.length W) : Int)),
        (14, AV.bool false), (19, AV.sl 2 (Seq.map T.encIt ((0 : Int), []) W) (Tip.tok 1)), (14, AV.bool false),
        (18, AV.ptr 0 1), (14, AV.bool false), (17, AV.ptr 0 0), (14, AV.bool false),
        (16, AV.ptr 0 0), (14, AV.bool false), (15, AV.int IntKind.i64 k), (14, AV.bool false),
        (14, AV.bool (decide (k < (0 : Int)))), (13, AV.bool (decide (k < (0 : Int)))), (12, AV.int IntKind.i64 k),
        (9, AV.bool false), (8, AV.ptr 3 0), (0, AV.ptr 0 0), (1, AV.int IntKind.i64 k),
        (2, AV.int IntKind.i64 a), (3, AV.int IntKind.u8 y)]
        (Operand.tmp 52)])))]
        (q177_0 3 Post)))))))
        (AWP Try.prog 61 3 c177_7
        [(0, AV.ptr 0 0), (1, AV.int IntKind.i64 k), (8, AV.ptr 3 0),
        (10, AV.msl 1 4 0 (ByteArray.size x))]
        [AObj.cells
        [AV.sl 2 (Seq.map T.encEn ([], []) D) Tip.none, AV.sl 2 (Seq.map T.encIt ((0 : Int), []) W) (Tip.tok 1),
        AV.sl 5 (Seq.map T.encE T.noEv S) (Tip.tok 2)],
        AObj.tok, AObj.tok,
        AObj.cells
        [AV.int IntKind.i64 (0 : Int), AV.sl 0 (Seq.raw []) Tip.nil, AV.int IntKind.i64 (0 : Int), AV.int IntKind.i64 (0 : Int), AV.sl 0 (Seq.raw []) Tip.nil],
        AObj.arr 1 (bytesSeq x)]
        (q177_0 3 Post))))) →
    ASpec Try.prog 177 [AV.ptr 0 0, AV.int IntKind.i64 k, AV.int IntKind.i64 a, AV.int IntKind.u8 y] (T.HXr D W S) Post := fun D W S k a y Post h => Go.Ab.ASpec.of_vc g177 Go.Proofs.Try.func177 (by kernel_rfl) (by kernel_rfl) (by kernel_rfl) (Go.Ab.kc (by kernel_rfl) h)
theorem v177_7 : ∀ (D : List T.Ent) (W : List T.Item) (S : List T.Ev) (k : Int) (b : List UInt8) (n : Nat) (Post : AV → List AObj → Prop),
  needP (allBytes (Seq.map encB (0 : UInt8) b))
      (ASpec Try.prog 267 [AV.ptr 0 0, AV.int IntKind.i64 k, AV.str (bytesOf (Seq.map encB (0 : UInt8) b))]
        [AObj.cells
        [AV.sl 2 (Seq.map T.encEn ([], []) D) Tip.none, AV.sl 2 (Seq.map T.encIt ((0 : Int), []) W) (Tip.tok 1),
        AV.sl 5 (Seq.map T.encE T.noEv S) (Tip.tok 2)],
        AObj.tok, AObj.tok,
        AObj.cells [AV.int IntKind.i64 (0 : Int), AV.sl 0 (Seq.raw []) Tip.nil, AV.int IntKind.i64 (0 : Int), AV.int IntKind.i64 (0 : Int), AV.sl 0 (Seq.raw []) Tip.nil]]
        fun (r : AV) (H' : List AObj) =>
        ∃ (x : T.Ev × Bool × List T.Item × List T.Ev),
        r =
        AV.tup
        [AV.agg
        [AV.int IntKind.i64 (Prod.fst (Prod.fst x)), AV.sl 2 (Seq.map T.encN ([], []) (Prod.fst (Prod.snd (Prod.fst x)))) Tip.none,
        AV.int IntKind.i64 (Prod.fst (Prod.snd (Prod.snd (Prod.fst x)))), AV.int IntKind.i64 (Prod.fst (Prod.snd (Prod.snd (Prod.snd (Prod.fst x))))),
        AV.sl 1 (Seq.map encB (0 : UInt8) (Prod.snd (Prod.snd (Prod.snd (Prod.snd (Prod.fst x)))))) Tip.none],
        AV.bool (Prod.fst (Prod.snd x))] ∧
        H' =
        [AObj.cells
        [AV.sl 2 (Seq.map T.encEn ([], []) D) Tip.none, AV.sl 2 (Seq.map T.encIt ((0 : Int), []) (Prod.fst (Prod.snd (Prod.snd x)))) (Tip.tok 4),
        AV.sl 5 (Seq.map T.encE T.noEv (Prod.snd (Prod.snd (Prod.snd x)))) (Tip.tok 5)],
        AObj.gone, AObj.gone,
        AObj.cells [AV.int IntKind.i64 (0 : Int), AV.sl 0 (Seq.raw []) Tip.nil, AV.int IntKind.i64 (0 : Int), AV.int IntKind.i64 (0 : Int), AV.sl 0 (Seq.raw []) Tip.nil],
        AObj.tok, AObj.tok] ∧
        Post
        (AV.tup
        [AV.agg
        [AV.int IntKind.i64 (Prod.fst (Prod.fst x)), AV.sl 2 (Seq.map T.encN ([], []) (Prod.fst (Prod.snd (Prod.fst x)))) Tip.none,
        AV.int IntKind.i64 (Prod.fst (Prod.snd (Prod.snd (Prod.fst x)))), AV.int IntKind.i64 (Prod.fst (Prod.snd (Prod.snd (Prod.snd (Prod.fst x))))),
        AV.sl 1 (Seq.map encB (0 : UInt8) (Prod.snd (Prod.snd (Prod.snd (Prod.snd (Prod.fst x)))))) Tip.none],
        AV.bool (Prod.fst (Prod.snd x))])
        [AObj.cells
        [AV.sl 2 (Seq.map T.encEn ([], []) D) Tip.none, AV.sl 2 (Seq.map T.encIt ((0 : Int), []) (Prod.fst (Prod.snd (Prod.snd x)))) (Tip.tok 4),
        AV.sl 5 (Seq.map T.encE T.noEv (Prod.snd (Prod.snd (Prod.snd x)))) (Tip.tok 5)],
        AObj.gone, AObj.gone,
        AObj.cells
        [AV.int IntKind.i64 (Prod.fst (Prod.fst x)), AV.sl 2 (Seq.map T.encN ([], []) (Prod.fst (Prod.snd (Prod.fst x)))) Tip.none,
        AV.int IntKind.i64 (Prod.fst (Prod.snd (Prod.snd (Prod.fst x)))), AV.int IntKind.i64 (Prod.fst (Prod.snd (Prod.snd (Prod.snd (Prod.fst x))))),
        AV.sl 1 (Seq.map encB (0 : UInt8) (Prod.snd (Prod.snd (Prod.snd (Prod.snd (Prod.fst x)))))) Tip.none],
        AObj.tok, AObj.tok]) →
    AWP Try.prog 61 n c177_7
      [(0, AV.ptr 0 0), (1, AV.int IntKind.i64 k), (8, AV.ptr 3 0), (10, AV.sl 1 (Seq.map encB (0 : UInt8) b) Tip.none)]
      (T.HXr D W S ++
        [AObj.cells [AV.int IntKind.i64 (0 : Int), AV.sl 0 (Seq.raw []) Tip.nil, AV.int IntKind.i64 (0 : Int), AV.int IntKind.i64 (0 : Int), AV.sl 0 (Seq.raw []) Tip.nil]])
      (q177_0 n Post) := fun D W S k b n Post h => Go.Ab.awp_sound g177 n _ _ _ _ (Go.Ab.kc (by kernel_rfl) h)

-- 178
noncomputable def l178 : Nat → List Nat
  | 5 => [0, 1, 2, 6]
  | _ => []
noncomputable def u178 : Nat → Bool
  | 5 => true
  | _ => false
noncomputable def m178 : Nat → Bool
  | _ => false
noncomputable def g178 : Cfg := { N := 48, live := l178, cut := u178, mu := m178, ret := rets }
noncomputable def c178 : Go.Code := Go.Ab.bodyOf Go.Proofs.Try.f178
noncomputable def q178_0 : Nat → (AV → List AObj → Prop) → AQ := fun (n : Nat) (Post : AV → List AObj → Prop) => endQ Try.prog (resultsOf Try.f178) Post
noncomputable def c178_5 : Go.Code := codeSnd (codeSnd (codeSnd c178))
theorem s178 : ∀ (D : List T.Ent) (W : List T.Item) (S : List T.Ev) (k o : Int) (Post : AV → List AObj → Prop),
  condP (decide (k < (0 : Int)))
      (Post
        (AV.tup
        [AV.agg [AV.int IntKind.i64 (0 : Int), AV.sl 0 (Seq.raw []) Tip.nil, AV.int IntKind.i64 (0 : Int), AV.int IntKind.i64 (0 : Int), AV.sl 0 (Seq.raw []) Tip.nil],
        AV.bool false])
        [AObj.cells
        [AV.sl 2 (Seq.map T.encEn ([], []) D) Tip.none, AV.sl 2 (Seq.map T.encIt ((0 : Int), []) W) (Tip.tok 1),
        AV.sl 5 (Seq.map T.encE T.noEv S) (Tip.tok 2)],
        AObj.tok, AObj.tok,
        AObj.cells [AV.int IntKind.i64 (0 : Int), AV.sl 0 (Seq.raw []) Tip.nil, AV.int IntKind.i64 (0 : Int), AV.int IntKind.i64 (0 : Int), AV.sl 0 (Seq.raw []) Tip.nil]])
      (condP (decide (k ≥ (↑(List.length W) : Int)))
        (Post
        (AV.tup
        [AV.agg [AV.int IntKind.i64 (0 : Int), AV.sl 0 (Seq.raw []) Tip.nil, AV.int IntKind.i64 (0 : Int), AV.int IntKind.i64 (0 : Int), AV.sl 0 (Seq.raw []) Tip.nil],
        AV.bool false])
        [AObj.cells
        [AV.sl 2 (Seq.map T.encEn ([], []) D) Tip.none, AV.sl 2 (Seq.map T.encIt ((0 : Int), []) W) (Tip.tok 1),
        AV.sl 5 (Seq.map T.encE T.noEv S) (Tip.tok 2)],
        AObj.tok, AObj.tok,
        AObj.cells [AV.int IntKind.i64 (0 : Int), AV.sl 0 (Seq.raw []) Tip.nil, AV.int IntKind.i64 (0 : Int), AV.int IntKind.i64 (0 : Int), AV.sl 0 (Seq.raw []) Tip.nil]])
        (condP (decide (o < (0 : Int)))
        (AWP Try.prog 48 3 c178_5
        [(0, AV.ptr 0 0), (1, AV.int IntKind.i64 k), (2, AV.int IntKind.i64 k), (6, AV.ptr 3 0)]
        [AObj.cells
        [AV.sl 2 (Seq.map T.encEn ([], []) D) Tip.none, AV.sl 2 (Seq.map T.encIt ((0 : Int), []) W) (Tip.tok 1),
        AV.sl 5 (Seq.map T.encE T.noEv S) (Tip.tok 2)],
        AObj.tok, AObj.tok,
        AObj.cells [AV.int IntKind.i64 (0 : Int), AV.sl 0 (Seq.raw []) Tip.nil, AV.int IntKind.i64 (0 : Int), AV.int IntKind.i64 (0 : Int), AV.sl 0 (Seq.raw []) Tip.nil]]
        (q178_0 3 Post))
        (condP (decide (o ≥ (↑(List.length W) : Int)))
        (AWP Try.prog 48 3 c178_5
        [(0, AV.ptr 0 0), (1, AV.int IntKind.i64 k), (2, AV.int IntKind.i64 k), (6, AV.ptr 3 0)]
        [AObj.cells
        [AV.sl 2 (Seq.map T.encEn ([], []) D) Tip.none, AV.sl 2 (Seq.map T.encIt ((0 : Int), []) W) (Tip.tok 1),
        AV.sl 5 (Seq.map T.encE T.noEv S) (Tip.tok 2)],
        AObj.tok, AObj.tok,
        AObj.cells [AV.int IntKind.i64 (0 : Int), AV.sl 0 (Seq.raw []) Tip.nil, AV.int IntKind.i64 (0 : Int), AV.int IntKind.i64 (0 : Int), AV.sl 0 (Seq.raw []) Tip.nil]]
        (q178_0 3 Post))
        (AWP Try.prog 48 3 c178_5
        [(0, AV.ptr 0 0), (1, AV.int IntKind.i64 k), (2, AV.int IntKind.i64 o), (6, AV.ptr 3 0)]
        [AObj.cells
        [AV.sl 2 (Seq.map T.encEn ([], []) D) Tip.none, AV.sl 2 (Seq.map T.encIt ((0 : Int), []) W) (Tip.tok 1),
        AV.sl 5 (Seq.map T.encE T.noEv S) (Tip.tok 2)],
        AObj.tok, AObj.tok,
        AObj.cells [AV.int IntKind.i64 (0 : Int), AV.sl 0 (Seq.raw []) Tip.nil, AV.int IntKind.i64 (0 : Int), AV.int IntKind.i64 (0 : Int), AV.sl 0 (Seq.raw []) Tip.nil]]
        (q178_0 3 Post))))) →
    ASpec Try.prog 178 [AV.ptr 0 0, AV.int IntKind.i64 k, AV.int IntKind.i64 o] (T.HXr D W S) Post := fun D W S k o Post h => Go.Ab.ASpec.of_vc g178 Go.Proofs.Try.func178 (by kernel_rfl) (by kernel_rfl) (by kernel_rfl) (Go.Ab.kc (by kernel_rfl) h)
theorem v178_5 : ∀ (D : List T.Ent) (W : List T.Item) (S : List T.Ev) (k o : Int) (n : Nat) (Post : AV → List AObj → Prop),
  needP ((0 : Int) ≤ o ∧ o < (↑(List.length W) : Int))
      (ASpec Try.prog 268
        [AV.agg
        [AV.sl 2 (Seq.map T.encEn ([], []) D) Tip.none, AV.sl 2 (Seq.map T.encIt ((0 : Int), []) W) (Tip.tok 1),
        AV.sl 5 (Seq.map T.encE T.noEv S) (Tip.tok 2)],
        AV.agg [AV.int IntKind.i64 (Prod.fst (List.getD W (Int.toNat o) ((0 : Int), []))), AV.str { data := List.toArray (Prod.snd (List.getD W (Int.toNat o) ((0 : Int), []))) }]]
        [AObj.cells
        [AV.sl 2 (Seq.map T.encEn ([], []) D) Tip.none, AV.sl 2 (Seq.map T.encIt ((0 : Int), []) W) (Tip.tok 1),
        AV.sl 5 (Seq.map T.encE T.noEv S) (Tip.tok 2)],
        AObj.tok, AObj.tok,
        AObj.cells [AV.int IntKind.i64 (0 : Int), AV.sl 0 (Seq.raw []) Tip.nil, AV.int IntKind.i64 (0 : Int), AV.int IntKind.i64 (0 : Int), AV.sl 0 (Seq.raw []) Tip.nil]]
        fun (r : AV) (H' : List AObj) =>
        ∃ (x : ByteArray),
        r = AV.str x ∧
        H' =
        [AObj.cells
        [AV.sl 2 (Seq.map T.encEn ([], []) D) Tip.none, AV.sl 2 (Seq.map T.encIt ((0 : Int), []) W) (Tip.tok 1),
        AV.sl 5 (Seq.map T.encE T.noEv S) (Tip.tok 2)],
        AObj.tok, AObj.tok,
        AObj.cells [AV.int IntKind.i64 (0 : Int), AV.sl 0 (Seq.raw []) Tip.nil, AV.int IntKind.i64 (0 : Int), AV.int IntKind.i64 (0 : Int), AV.sl 0 (Seq.raw []) Tip.nil]] ∧
        ASpec Try.prog 267 [AV.ptr 0 0, AV.int IntKind.i64 k, AV.str x]
        [AObj.cells
        [AV.sl 2 (Seq.map T.encEn ([], []) D) Tip.none, AV.sl 2 (Seq.map T.encIt ((0 : Int), []) W) (Tip.tok 1),
        AV.sl 5 (Seq.map T.encE T.noEv S) (Tip.tok 2)],
        AObj.tok, AObj.tok,
        AObj.cells [AV.int IntKind.i64 (0 : Int), AV.sl 0 (Seq.raw []) Tip.nil, AV.int IntKind.i64 (0 : Int), AV.int IntKind.i64 (0 : Int), AV.sl 0 (Seq.raw []) Tip.nil]]
        fun (r : AV) (H' : List AObj) =>
        ∃ (x : T.Ev × Bool × List T.Item × List T.Ev),
        r =
        AV.tup
        [AV.agg
        [AV.int IntKind.i64 (Prod.fst (Prod.fst x)), AV.sl 2 (Seq.map T.encN ([], []) (Prod.fst (Prod.snd (Prod.fst x)))) Tip.none,
        AV.int IntKind.i64 (Prod.fst (Prod.snd (Prod.snd (Prod.fst x)))), AV.int IntKind.i64 (Prod.fst (Prod.snd (Prod.snd (Prod.snd (Prod.fst x))))),
        AV.sl 1 (Seq.map encB (0 : UInt8) (Prod.snd (Prod.snd (Prod.snd (Prod.snd (Prod.fst x)))))) Tip.none],
        AV.bool (Prod.fst (Prod.snd x))] ∧
        H' =
        [AObj.cells
        [AV.sl 2 (Seq.map T.encEn ([], []) D) Tip.none, AV.sl 2 (Seq.map T.encIt ((0 : Int), []) (Prod.fst (Prod.snd (Prod.snd x)))) (Tip.tok 4),
        AV.sl 5 (Seq.map T.encE T.noEv (Prod.snd (Prod.snd (Prod.snd x)))) (Tip.tok 5)],
        AObj.gone, AObj.gone,
        AObj.cells
        [AV.int IntKind.i64 (0 : Int), AV.sl 0 (Seq.raw []) Tip.nil, AV.int IntKind.i64 (0 : Int), AV.int IntKind.i64 (0 : Int), AV.sl 0 (Seq.raw []) Tip.nil],
        AObj.tok, AObj.tok] ∧
        Post
        (AV.tup
        [AV.agg
        [AV.int IntKind.i64 (Prod.fst (Prod.fst x)), AV.sl 2 (Seq.map T.encN ([], []) (Prod.fst (Prod.snd (Prod.fst x)))) Tip.none,
        AV.int IntKind.i64 (Prod.fst (Prod.snd (Prod.snd (Prod.fst x)))), AV.int IntKind.i64 (Prod.fst (Prod.snd (Prod.snd (Prod.snd (Prod.fst x))))),
        AV.sl 1 (Seq.map encB (0 : UInt8) (Prod.snd (Prod.snd (Prod.snd (Prod.snd (Prod.fst x)))))) Tip.none],
        AV.bool (Prod.fst (Prod.snd x))])
        [AObj.cells
        [AV.sl 2 (Seq.map T.encEn ([], []) D) Tip.none, AV.sl 2 (Seq.map T.encIt ((0 : Int), []) (Prod.fst (Prod.snd (Prod.snd x)))) (Tip.tok 4),
        AV.sl 5 (Seq.map T.encE T.noEv (Prod.snd (Prod.snd (Prod.snd x)))) (Tip.tok 5)],
        AObj.gone, AObj.gone,
        AObj.cells
        [AV.int IntKind.i64 (Prod.fst (Prod.fst x)), AV.sl 2 (Seq.map T.encN ([], []) (Prod.fst (Prod.snd (Prod.fst x)))) Tip.none,
        AV.int IntKind.i64 (Prod.fst (Prod.snd (Prod.snd (Prod.fst x)))), AV.int IntKind.i64 (Prod.fst (Prod.snd (Prod.snd (Prod.snd (Prod.fst x))))),
        AV.sl 1 (Seq.map encB (0 : UInt8) (Prod.snd (Prod.snd (Prod.snd (Prod.snd (Prod.fst x)))))) Tip.none],
        AObj.tok, AObj.tok]) →
    AWP Try.prog 48 n c178_5 [(0, AV.ptr 0 0), (1, AV.int IntKind.i64 k), (2, AV.int IntKind.i64 o), (6, AV.ptr 3 0)]
      (T.HXr D W S ++
        [AObj.cells [AV.int IntKind.i64 (0 : Int), AV.sl 0 (Seq.raw []) Tip.nil, AV.int IntKind.i64 (0 : Int), AV.int IntKind.i64 (0 : Int), AV.sl 0 (Seq.raw []) Tip.nil]])
      (q178_0 n Post) := fun D W S k o n Post h => Go.Ab.awp_sound g178 n _ _ _ _ (Go.Ab.kc (by kernel_rfl) h)

-- 179
noncomputable def l179 : Nat → List Nat
  | _ => []
noncomputable def u179 : Nat → Bool
  | _ => false
noncomputable def m179 : Nat → Bool
  | _ => false
noncomputable def g179 : Cfg := { N := 32, live := l179, cut := u179, mu := m179, ret := rets }
theorem s179 : ∀ (D : List T.Ent) (W : List T.Item) (S : List T.Ev) (k : Int) (Post : AV → List AObj → Prop),
  condP (decide (k < (0 : Int)))
      (Post
        (AV.tup
        [AV.agg [AV.int IntKind.i64 (0 : Int), AV.sl 0 (Seq.raw []) Tip.nil, AV.int IntKind.i64 (0 : Int), AV.int IntKind.i64 (0 : Int), AV.sl 0 (Seq.raw []) Tip.nil],
        AV.bool false])
        [AObj.cells
        [AV.sl 2 (Seq.map T.encEn ([], []) D) Tip.none, AV.sl 2 (Seq.map T.encIt ((0 : Int), []) W) (Tip.tok 1),
        AV.sl 5 (Seq.map T.encE T.noEv S) (Tip.tok 2)],
        AObj.tok, AObj.tok,
        AObj.cells [AV.int IntKind.i64 (0 : Int), AV.sl 0 (Seq.raw []) Tip.nil, AV.int IntKind.i64 (0 : Int), AV.int IntKind.i64 (0 : Int), AV.sl 0 (Seq.raw []) Tip.nil]])
      (condP (decide (k ≥ (↑(List.length W) : Int)))
        (Post
        (AV.tup
        [AV.agg [AV.int IntKind.i64 (0 : Int), AV.sl 0 (Seq.raw []) Tip.nil, AV.int IntKind.i64 (0 : Int), AV.int IntKind.i64 (0 : Int), AV.sl 0 (Seq.raw []) Tip.nil],
        AV.bool false])
        [AObj.cells
        [AV.sl 2 (Seq.map T.encEn ([], []) D) Tip.none, AV.sl 2 (Seq.map T.encIt ((0 : Int), []) W) (Tip.tok 1),
        AV.sl 5 (Seq.map T.encE T.noEv S) (Tip.tok 2)],
        AObj.tok, AObj.tok,
        AObj.cells [AV.int IntKind.i64 (0 : Int), AV.sl 0 (Seq.raw []) Tip.nil, AV.int IntKind.i64 (0 : Int), AV.int IntKind.i64 (0 : Int), AV.sl 0 (Seq.raw []) Tip.nil]])
        (needP ((0 : Int) ≤ k ∧ k < (↑(List.length W) : Int))
        (ASpec Try.prog 269 [AV.ptr 0 0, AV.int IntKind.i64 k]
        [AObj.cells
        [AV.sl 2 (Seq.map T.encEn ([], []) D) Tip.none, AV.sl 2 (Seq.map T.encIt ((0 : Int), []) W) (Tip.tok 1),
        AV.sl 5 (Seq.map T.encE T.noEv S) (Tip.tok 2)],
        AObj.tok, AObj.tok,
        AObj.cells [AV.int IntKind.i64 (0 : Int), AV.sl 0 (Seq.raw []) Tip.nil, AV.int IntKind.i64 (0 : Int), AV.int IntKind.i64 (0 : Int), AV.sl 0 (Seq.raw []) Tip.nil],
        AObj.cells
        [AV.int IntKind.i64 (4 : Int), AV.sl 0 (Seq.raw []) Tip.nil, AV.int IntKind.i64 (0 : Int), AV.int IntKind.i64 (Prod.fst (List.getD W (Int.toNat k) ((0 : Int), []))),
        AV.sl 0 (Seq.raw []) Tip.nil]]
        fun (r : AV) (H' : List AObj) =>
        ∃ (x : List T.Item),
        r = AV.tup [] ∧
        H' =
        [AObj.cells
        [AV.sl 2 (Seq.map T.encEn ([], []) D) Tip.none, AV.sl 2 (Seq.map T.encIt ((0 : Int), []) x) (Tip.tok 5),
        AV.sl 5 (Seq.map T.encE T.noEv S) (Tip.tok 2)],
        AObj.gone, AObj.tok,
        AObj.cells [AV.int IntKind.i64 (0 : Int), AV.sl 0 (Seq.raw []) Tip.nil, AV.int IntKind.i64 (0 : Int), AV.int IntKind.i64 (0 : Int), AV.sl 0 (Seq.raw []) Tip.nil],
        AObj.cells
        [AV.int IntKind.i64 (4 : Int), AV.sl 0 (Seq.raw []) Tip.nil, AV.int IntKind.i64 (0 : Int), AV.int IntKind.i64 (Prod.fst (List.getD W (Int.toNat k) ((0 : Int), []))),
        AV.sl 0 (Seq.raw []) Tip.nil],
        AObj.tok] ∧
        Post
        (AV.tup
        [AV.agg
        [AV.int IntKind.i64 (4 : Int), AV.sl 0 (Seq.raw []) Tip.nil, AV.int IntKind.i64 (0 : Int), AV.int IntKind.i64 (Prod.fst (List.getD W (Int.toNat k) ((0 : Int), []))),
        AV.sl 0 (Seq.raw []) Tip.nil],
        AV.bool true])
        [AObj.cells
        [AV.sl 2 (Seq.map T.encEn ([], []) D) Tip.none, AV.sl 2 (Seq.map T.encIt ((0 : Int), []) x) (Tip.tok 5),
        AV.sl 5 (Seq.map T.encE T.noEv S) (Tip.tok 2)],
        AObj.gone, AObj.tok,
        AObj.cells
        [AV.int IntKind.i64 (4 : Int), AV.sl 0 (Seq.raw []) Tip.nil, AV.int IntKind.i64 (0 : Int), AV.int IntKind.i64 (Prod.fst (List.getD W (Int.toNat k) ((0 : Int), []))),
        AV.sl 0 (Seq.raw []) Tip.nil],
        AObj.cells
        [AV.int IntKind.i64 (4 : Int), AV.sl 0 (Seq.raw []) Tip.nil, AV.int IntKind.i64 (0 : Int), AV.int IntKind.i64 (Prod.fst (List.getD W (Int.toNat k) ((0 : Int), []))),
        AV.sl 0 (Seq.raw []) Tip.nil],
        AObj.tok]))) →
    ASpec Try.prog 179 [AV.ptr 0 0, AV.int IntKind.i64 k] (T.HXr D W S) Post := fun D W S k Post h => Go.Ab.ASpec.of_vc g179 Go.Proofs.Try.func179 (by kernel_rfl) (by kernel_rfl) (by kernel_rfl) (Go.Ab.kc (by kernel_rfl) h)

-- 180
noncomputable def l180 : Nat → List Nat
  | _ => []
noncomputable def u180 : Nat → Bool
  | _ => false
noncomputable def m180 : Nat → Bool
  | _ => false
noncomputable def g180 : Cfg := { N := 21, live := l180, cut := u180, mu := m180, ret := rets }
theorem s180 : ∀ (D : List T.Ent) (W : List T.Item) (S : List T.Ev) (k : Int) (Post : AV → List AObj → Prop),
  condP (decide (k < (0 : Int)))
      (Post
        (AV.tup
        [AV.agg [AV.int IntKind.i64 (0 : Int), AV.sl 0 (Seq.raw []) Tip.nil, AV.int IntKind.i64 (0 : Int), AV.int IntKind.i64 (0 : Int), AV.sl 0 (Seq.raw []) Tip.nil],
        AV.bool false])
        [AObj.cells [AV.sl 2 (Seq.map T.encEn ([], []) D) Tip.none, AV.sl 2 (Seq.map T.encIt ((0 : Int), []) W) Tip.none, AV.sl 5 (Seq.map T.encE T.noEv S) Tip.none],
        AObj.cells [AV.int IntKind.i64 (0 : Int), AV.sl 0 (Seq.raw []) Tip.nil, AV.int IntKind.i64 (0 : Int), AV.int IntKind.i64 (0 : Int), AV.sl 0 (Seq.raw []) Tip.nil]])
      (condP (decide (k ≥ (↑(List.length S) : Int)))
        (Post
        (AV.tup
        [AV.agg [AV.int IntKind.i64 (0 : Int), AV.sl 0 (Seq.raw []) Tip.nil, AV.int IntKind.i64 (0 : Int), AV.int IntKind.i64 (0 : Int), AV.sl 0 (Seq.raw []) Tip.nil],
        AV.bool false])
        [AObj.cells [AV.sl 2 (Seq.map T.encEn ([], []) D) Tip.none, AV.sl 2 (Seq.map T.encIt ((0 : Int), []) W) Tip.none, AV.sl 5 (Seq.map T.encE T.noEv S) Tip.none],
        AObj.cells [AV.int IntKind.i64 (0 : Int), AV.sl 0 (Seq.raw []) Tip.nil, AV.int IntKind.i64 (0 : Int), AV.int IntKind.i64 (0 : Int), AV.sl 0 (Seq.raw []) Tip.nil]])
        (needP ((0 : Int) ≤ k ∧ k < (↑(List.length S) : Int))
        (Post
        (AV.tup
        [AV.agg
        [AV.int IntKind.i64 (Prod.fst (List.getD S (Int.toNat k) T.noEv)), AV.sl 2 (Seq.map T.encN ([], []) (Prod.fst (Prod.snd (List.getD S (Int.toNat k) T.noEv)))) Tip.none,
        AV.int IntKind.i64 (Prod.fst (Prod.snd (Prod.snd (List.getD S (Int.toNat k) T.noEv)))),
        AV.int IntKind.i64 (Prod.fst (Prod.snd (Prod.snd (Prod.snd (List.getD S (Int.toNat k) T.noEv))))),
        AV.sl 1 (Seq.map encB (0 : UInt8) (Prod.snd (Prod.snd (Prod.snd (Prod.snd (List.getD S (Int.toNat k) T.noEv)))))) Tip.none],
        AV.bool true])
        [AObj.cells [AV.sl 2 (Seq.map T.encEn ([], []) D) Tip.none, AV.sl 2 (Seq.map T.encIt ((0 : Int), []) W) Tip.none, AV.sl 5 (Seq.map T.encE T.noEv S) Tip.none],
        AObj.cells
        [AV.int IntKind.i64 (Prod.fst (List.getD S (Int.toNat k) T.noEv)), AV.sl 2 (Seq.map T.encN ([], []) (Prod.fst (Prod.snd (List.getD S (Int.toNat k) T.noEv)))) Tip.none,
        AV.int IntKind.i64 (Prod.fst (Prod.snd (Prod.snd (List.getD S (Int.toNat k) T.noEv)))),
        AV.int IntKind.i64 (Prod.fst (Prod.snd (Prod.snd (Prod.snd (List.getD S (Int.toNat k) T.noEv))))),
        AV.sl 1 (Seq.map encB (0 : UInt8) (Prod.snd (Prod.snd (Prod.snd (Prod.snd (List.getD S (Int.toNat k) T.noEv)))))) Tip.none]]))) →
    ASpec Try.prog 180 [AV.agg (T.encX D W S), AV.int IntKind.i64 k] [] Post := fun D W S k Post h => Go.Ab.ASpec.of_vc g180 Go.Proofs.Try.func180 (by kernel_rfl) (by kernel_rfl) (by kernel_rfl) (Go.Ab.kc (by kernel_rfl) h)

-- 56
noncomputable def l56 : Nat → List Nat
  | _ => []
noncomputable def u56 : Nat → Bool
  | _ => false
noncomputable def m56 : Nat → Bool
  | _ => false
noncomputable def g56 : Cfg := { N := 28, live := l56, cut := u56, mu := m56, ret := rets }
theorem s56 : ∀ (D : List T.Ent) (W : List T.Item) (S : List T.Ev) (k : Int) (Post : AV → List AObj → Prop),
  condP (decide (k < (0 : Int)))
      (Post (AV.tup [AV.int IntKind.i64 (0 : Int), AV.str { data := #[] }, AV.bool false])
        [AObj.cells [AV.sl 2 (Seq.map T.encEn ([], []) D) Tip.none, AV.sl 2 (Seq.map T.encIt ((0 : Int), []) W) Tip.none, AV.sl 5 (Seq.map T.encE T.noEv S) Tip.none]])
      (condP (decide (k ≥ (↑(List.length W) : Int)))
        (Post (AV.tup [AV.int IntKind.i64 (0 : Int), AV.str { data := #[] }, AV.bool false])
        [AObj.cells [AV.sl 2 (Seq.map T.encEn ([], []) D) Tip.none, AV.sl 2 (Seq.map T.encIt ((0 : Int), []) W) Tip.none, AV.sl 5 (Seq.map T.encE T.noEv S) Tip.none]])
        (needP ((0 : Int) ≤ k ∧ k < (↑(List.length W) : Int))
        (needP ((0 : Int) ≤ k ∧ k < (↑(List.length W) : Int))
        ((AV.str { data := List.toArray (Prod.snd (List.getD W (Int.toNat k) ((0 : Int), []))) } = AV.str { data := List.toArray (Prod.snd (List.getD W (Int.toNat k) ((0 : Int), []))) } ∧
        [AObj.cells [AV.sl 2 (Seq.map T.encEn ([], []) D) Tip.none, AV.sl 2 (Seq.map T.encIt ((0 : Int), []) W) Tip.none, AV.sl 5 (Seq.map T.encE T.noEv S) Tip.none]] =
        [AObj.cells
        [AV.sl 2 (Seq.map T.encEn ([], []) D) Tip.none, AV.sl 2 (Seq.map T.encIt ((0 : Int), []) W) Tip.none, AV.sl 5 (Seq.map T.encE T.noEv S) Tip.none]]) ∧
        (AV.sl 2 (Seq.map T.encIt ((0 : Int), []) W) Tip.none = AV.sl 2 (Seq.map T.encIt ((0 : Int), []) W) Tip.none ∧
        [AObj.cells
        [AV.sl 2 (Seq.map T.encEn ([], []) D) Tip.none, AV.sl 2 (Seq.map T.encIt ((0 : Int), []) W) Tip.none, AV.sl 5 (Seq.map T.encE T.noEv S) Tip.none]] =
        [AObj.cells
        [AV.sl 2 (Seq.map T.encEn ([], []) D) Tip.none, AV.sl 2 (Seq.map T.encIt ((0 : Int), []) W) Tip.none, AV.sl 5 (Seq.map T.encE T.noEv S) Tip.none]]) ∧
        Post
        (AV.tup
        [AV.int IntKind.i64 (Prod.fst (List.getD W (Int.toNat k) ((0 : Int), []))), AV.str { data := List.toArray (Prod.snd (List.getD W (Int.toNat k) ((0 : Int), []))) }, AV.bool true])
        [AObj.cells
        [AV.sl 2 (Seq.map T.encEn ([], []) D) Tip.none, AV.sl 2 (Seq.map T.encIt ((0 : Int), []) W) Tip.none, AV.sl 5 (Seq.map T.encE T.noEv S) Tip.none]])))) →
    ASpec Try.prog 56 [AV.agg (T.encX D W S), AV.int IntKind.i64 k] [] Post := fun D W S k Post h => Go.Ab.ASpec.of_vc g56 Go.Proofs.Try.func56 (by kernel_rfl) (by kernel_rfl) (by kernel_rfl) (Go.Ab.kc (by kernel_rfl) h)

-- 55
noncomputable def l55 : Nat → List Nat
  | _ => []
noncomputable def u55 : Nat → Bool
  | _ => false
noncomputable def m55 : Nat → Bool
  | _ => false
noncomputable def g55 : Cfg := { N := 66, live := l55, cut := u55, mu := m55, ret := rets }
theorem s55 : ∀ (D : List T.Ent) (W : List T.Item) (S : List T.Ev) (k n a y : Int) (nm : ByteArray) (Post : AV → List AObj → Prop),
  condP (k == (0 : Int))
      (ASpec Try.prog 175
        [AV.ptr 0 0,
        AV.sl 7
        (Seq.raw
        [[AV.int IntKind.i64 (1 : Int), AV.int IntKind.i64 n, AV.str nm, AV.int IntKind.i64 (0 : Int), AV.int IntKind.i64 (0 : Int), AV.sl 0 (Seq.raw []) Tip.nil,
        AV.sl 0 (Seq.raw []) Tip.nil]])
        Tip.full]
        [AObj.cells
        [AV.sl 2 (Seq.map T.encEn ([], []) D) Tip.none, AV.sl 2 (Seq.map T.encIt ((0 : Int), []) W) (Tip.tok 1),
        AV.sl 5 (Seq.map T.encE T.noEv S) (Tip.tok 2)],
        AObj.tok, AObj.tok, AObj.cells [AV.int IntKind.i64 k, AV.int IntKind.i64 n, AV.int IntKind.i64 a, AV.int IntKind.u8 y, AV.str nm],
        AObj.cells [AV.int IntKind.i64 (0 : Int), AV.sl 0 (Seq.raw []) Tip.nil, AV.int IntKind.i64 (0 : Int), AV.int IntKind.i64 (0 : Int), AV.sl 0 (Seq.raw []) Tip.nil]]
        fun (r : AV) (H' : List AObj) =>
        ∃ (x : Int × List T.Item),
        r = AV.int IntKind.i64 (Prod.fst x) ∧
        H' =
        [AObj.cells
        [AV.sl 2 (Seq.map T.encEn ([], []) D) Tip.none, AV.sl 2 (Seq.map T.encIt ((0 : Int), []) (Prod.snd x)) (Tip.tok 5),
        AV.sl 5 (Seq.map T.encE T.noEv S) (Tip.tok 2)],
        AObj.gone, AObj.tok, AObj.cells [AV.int IntKind.i64 k, AV.int IntKind.i64 n, AV.int IntKind.i64 a, AV.int IntKind.u8 y, AV.str nm],
        AObj.cells [AV.int IntKind.i64 (0 : Int), AV.sl 0 (Seq.raw []) Tip.nil, AV.int IntKind.i64 (0 : Int), AV.int IntKind.i64 (0 : Int), AV.sl 0 (Seq.raw []) Tip.nil],
        AObj.tok] ∧
        Post
        (AV.tup
        [AV.agg [AV.int IntKind.i64 (0 : Int), AV.sl 0 (Seq.raw []) Tip.nil, AV.int IntKind.i64 (0 : Int), AV.int IntKind.i64 (0 : Int), AV.sl 0 (Seq.raw []) Tip.nil],
        AV.bool (Prod.fst x == (1 : Int))])
        [AObj.cells
        [AV.sl 2 (Seq.map T.encEn ([], []) D) Tip.none, AV.sl 2 (Seq.map T.encIt ((0 : Int), []) (Prod.snd x)) (Tip.tok 5),
        AV.sl 5 (Seq.map T.encE T.noEv S) (Tip.tok 2)],
        AObj.gone, AObj.tok, AObj.cells [AV.int IntKind.i64 k, AV.int IntKind.i64 n, AV.int IntKind.i64 a, AV.int IntKind.u8 y, AV.str nm],
        AObj.cells [AV.int IntKind.i64 (0 : Int), AV.sl 0 (Seq.raw []) Tip.nil, AV.int IntKind.i64 (0 : Int), AV.int IntKind.i64 (0 : Int), AV.sl 0 (Seq.raw []) Tip.nil],
        AObj.tok])
      (condP (k == (1 : Int))
        (ASpec Try.prog 176 [AV.ptr 0 0, AV.int IntKind.i64 n]
        [AObj.cells
        [AV.sl 2 (Seq.map T.encEn ([], []) D) Tip.none, AV.sl 2 (Seq.map T.encIt ((0 : Int), []) W) (Tip.tok 1),
        AV.sl 5 (Seq.map T.encE T.noEv S) (Tip.tok 2)],
        AObj.tok, AObj.tok, AObj.cells [AV.int IntKind.i64 k, AV.int IntKind.i64 n, AV.int IntKind.i64 a, AV.int IntKind.u8 y, AV.str nm],
        AObj.cells [AV.int IntKind.i64 (0 : Int), AV.sl 0 (Seq.raw []) Tip.nil, AV.int IntKind.i64 (0 : Int), AV.int IntKind.i64 (0 : Int), AV.sl 0 (Seq.raw []) Tip.nil]]
        fun (r : AV) (H' : List AObj) =>
        (∃ (x : T.Ev × Bool × List T.Item × List T.Ev),
        r =
        AV.tup
        [AV.agg
        [AV.int IntKind.i64 (Prod.fst (Prod.fst x)), AV.sl 2 (Seq.map T.encN ([], []) (Prod.fst (Prod.snd (Prod.fst x)))) Tip.none,
        AV.int IntKind.i64 (Prod.fst (Prod.snd (Prod.snd (Prod.fst x)))), AV.int IntKind.i64 (Prod.fst (Prod.snd (Prod.snd (Prod.snd (Prod.fst x))))),
        AV.sl 1 (Seq.map encB (0 : UInt8) (Prod.snd (Prod.snd (Prod.snd (Prod.snd (Prod.fst x)))))) Tip.none],
        AV.bool (Prod.fst (Prod.snd x))] ∧
        H' =
        [AObj.cells
        [AV.sl 2 (Seq.map T.encEn ([], []) D) Tip.none, AV.sl 2 (Seq.map T.encIt ((0 : Int), []) (Prod.fst (Prod.snd (Prod.snd x)))) (Tip.tok 5),
        AV.sl 5 (Seq.map T.encE T.noEv (Prod.snd (Prod.snd (Prod.snd x)))) (Tip.tok 6)],
        AObj.gone, AObj.gone, AObj.cells [AV.int IntKind.i64 k, AV.int IntKind.i64 n, AV.int IntKind.i64 a, AV.int IntKind.u8 y, AV.str nm],
        AObj.cells [AV.int IntKind.i64 (0 : Int), AV.sl 0 (Seq.raw []) Tip.nil, AV.int IntKind.i64 (0 : Int), AV.int IntKind.i64 (0 : Int), AV.sl 0 (Seq.raw []) Tip.nil],
        AObj.tok, AObj.tok] ∧
        Post
        (AV.tup
        [AV.agg
        [AV.int IntKind.i64 (Prod.fst (Prod.fst x)), AV.sl 2 (Seq.map T.encN ([], []) (Prod.fst (Prod.snd (Prod.fst x)))) Tip.none,
        AV.int IntKind.i64 (Prod.fst (Prod.snd (Prod.snd (Prod.fst x)))), AV.int IntKind.i64 (Prod.fst (Prod.snd (Prod.snd (Prod.snd (Prod.fst x))))),
        AV.sl 1 (Seq.map encB (0 : UInt8) (Prod.snd (Prod.snd (Prod.snd (Prod.snd (Prod.fst x)))))) Tip.none],
        AV.bool (Prod.fst (Prod.snd x))])
        [AObj.cells
        [AV.sl 2 (Seq.map T.encEn ([], []) D) Tip.none, AV.sl 2 (Seq.map T.encIt ((0 : Int), []) (Prod.fst (Prod.snd (Prod.snd x)))) (Tip.tok 5),
        AV.sl 5 (Seq.map T.encE T.noEv (Prod.snd (Prod.snd (Prod.snd x)))) (Tip.tok 6)],
        AObj.gone, AObj.gone, AObj.cells [AV.int IntKind.i64 k, AV.int IntKind.i64 n, AV.int IntKind.i64 a, AV.int IntKind.u8 y, AV.str nm],
        AObj.cells
        [AV.int IntKind.i64 (Prod.fst (Prod.fst x)), AV.sl 2 (Seq.map T.encN ([], []) (Prod.fst (Prod.snd (Prod.fst x)))) Tip.none,
        AV.int IntKind.i64 (Prod.fst (Prod.snd (Prod.snd (Prod.fst x)))), AV.int IntKind.i64 (Prod.fst (Prod.snd (Prod.snd (Prod.snd (Prod.fst x))))),
        AV.sl 1 (Seq.map encB (0 : UInt8) (Prod.snd (Prod.snd (Prod.snd (Prod.snd (Prod.fst x)))))) Tip.none],
        AObj.tok, AObj.tok]) ∨
        ∃ (x : T.Ev × Bool),
        r =
        AV.tup
        [AV.agg
        [AV.int IntKind.i64 (Prod.fst (Prod.fst x)), AV.sl 2 (Seq.map T.encN ([], []) (Prod.fst (Prod.snd (Prod.fst x)))) Tip.none,
        AV.int IntKind.i64 (Prod.fst (Prod.snd (Prod.snd (Prod.fst x)))), AV.int IntKind.i64 (Prod.fst (Prod.snd (Prod.snd (Prod.snd (Prod.fst x))))),
        AV.sl 1 (Seq.map encB (0 : UInt8) (Prod.snd (Prod.snd (Prod.snd (Prod.snd (Prod.fst x)))))) Tip.none],
        AV.bool (Prod.snd x)] ∧
        H' =
        [AObj.cells
        [AV.sl 2 (Seq.map T.encEn ([], []) D) Tip.none, AV.sl 2 (Seq.map T.encIt ((0 : Int), []) W) (Tip.tok 1),
        AV.sl 5 (Seq.map T.encE T.noEv S) (Tip.tok 2)],
        AObj.tok, AObj.tok, AObj.cells [AV.int IntKind.i64 k, AV.int IntKind.i64 n, AV.int IntKind.i64 a, AV.int IntKind.u8 y, AV.str nm],
        AObj.cells
        [AV.int IntKind.i64 (0 : Int), AV.sl 0 (Seq.raw []) Tip.nil, AV.int IntKind.i64 (0 : Int), AV.int IntKind.i64 (0 : Int), AV.sl 0 (Seq.raw []) Tip.nil]] ∧
        Post
        (AV.tup
        [AV.agg
        [AV.int IntKind.i64 (Prod.fst (Prod.fst x)), AV.sl 2 (Seq.map T.encN ([], []) (Prod.fst (Prod.snd (Prod.fst x)))) Tip.none,
        AV.int IntKind.i64 (Prod.fst (Prod.snd (Prod.snd (Prod.fst x)))), AV.int IntKind.i64 (Prod.fst (Prod.snd (Prod.snd (Prod.snd (Prod.fst x))))),
        AV.sl 1 (Seq.map encB (0 : UInt8) (Prod.snd (Prod.snd (Prod.snd (Prod.snd (Prod.fst x)))))) Tip.none],
        AV.bool (Prod.snd x)])
        [AObj.cells
        [AV.sl 2 (Seq.map T.encEn ([], []) D) Tip.none, AV.sl 2 (Seq.map T.encIt ((0 : Int), []) W) (Tip.tok 1),
        AV.sl 5 (Seq.map T.encE T.noEv S) (Tip.tok 2)],
        AObj.tok, AObj.tok, AObj.cells [AV.int IntKind.i64 k, AV.int IntKind.i64 n, AV.int IntKind.i64 a, AV.int IntKind.u8 y, AV.str nm],
        AObj.cells
        [AV.int IntKind.i64 (Prod.fst (Prod.fst x)), AV.sl 2 (Seq.map T.encN ([], []) (Prod.fst (Prod.snd (Prod.fst x)))) Tip.none,
        AV.int IntKind.i64 (Prod.fst (Prod.snd (Prod.snd (Prod.fst x)))), AV.int IntKind.i64 (Prod.fst (Prod.snd (Prod.snd (Prod.snd (Prod.fst x))))),
        AV.sl 1 (Seq.map encB (0 : UInt8) (Prod.snd (Prod.snd (Prod.snd (Prod.snd (Prod.fst x)))))) Tip.none]])
        (condP (k == (2 : Int))
        (ASpec Try.prog 177 [AV.ptr 0 0, AV.int IntKind.i64 n, AV.int IntKind.i64 a, AV.int IntKind.u8 y]
        [AObj.cells
        [AV.sl 2 (Seq.map T.encEn ([], []) D) Tip.none, AV.sl 2 (Seq.map T.encIt ((0 : Int), []) W) (Tip.tok 1),
        AV.sl 5 (Seq.map T.encE T.noEv S) (Tip.tok 2)],
        AObj.tok, AObj.tok, AObj.cells [AV.int IntKind.i64 k, AV.int IntKind.i64 n, AV.int IntKind.i64 a, AV.int IntKind.u8 y, AV.str nm],
        AObj.cells [AV.int IntKind.i64 (0 : Int), AV.sl 0 (Seq.raw []) Tip.nil, AV.int IntKind.i64 (0 : Int), AV.int IntKind.i64 (0 : Int), AV.sl 0 (Seq.raw []) Tip.nil]]
        fun (r : AV) (H' : List AObj) =>
        (∃ (x : T.Ev × Bool × List T.Item × List T.Ev),
        r =
        AV.tup
        [AV.agg
        [AV.int IntKind.i64 (Prod.fst (Prod.fst x)), AV.sl 2 (Seq.map T.encN ([], []) (Prod.fst (Prod.snd (Prod.fst x)))) Tip.none,
        AV.int IntKind.i64 (Prod.fst (Prod.snd (Prod.snd (Prod.fst x)))), AV.int IntKind.i64 (Prod.fst (Prod.snd (Prod.snd (Prod.snd (Prod.fst x))))),
        AV.sl 1 (Seq.map encB (0 : UInt8) (Prod.snd (Prod.snd (Prod.snd (Prod.snd (Prod.fst x)))))) Tip.none],
        AV.bool (Prod.fst (Prod.snd x))] ∧
        H' =
        [AObj.cells
        [AV.sl 2 (Seq.map T.encEn ([], []) D) Tip.none, AV.sl 2 (Seq.map T.encIt ((0 : Int), []) (Prod.fst (Prod.snd (Prod.snd x)))) (Tip.tok 5),
        AV.sl 5 (Seq.map T.encE T.noEv (Prod.snd (Prod.snd (Prod.snd x)))) (Tip.tok 6)],
        AObj.gone, AObj.gone, AObj.cells [AV.int IntKind.i64 k, AV.int IntKind.i64 n, AV.int IntKind.i64 a, AV.int IntKind.u8 y, AV.str nm],
        AObj.cells
        [AV.int IntKind.i64 (0 : Int), AV.sl 0 (Seq.raw []) Tip.nil, AV.int IntKind.i64 (0 : Int), AV.int IntKind.i64 (0 : Int), AV.sl 0 (Seq.raw []) Tip.nil],
        AObj.tok, AObj.tok] ∧
        Post
        (AV.tup
        [AV.agg
        [AV.int IntKind.i64 (Prod.fst (Prod.fst x)), AV.sl 2 (Seq.map T.encN ([], []) (Prod.fst (Prod.snd (Prod.fst x)))) Tip.none,
        AV.int IntKind.i64 (Prod.fst (Prod.snd (Prod.snd (Prod.fst x)))), AV.int IntKind.i64 (Prod.fst (Prod.snd (Prod.snd (Prod.snd (Prod.fst x))))),
        AV.sl 1 (Seq.map encB (0 : UInt8) (Prod.snd (Prod.snd (Prod.snd (Prod.snd (Prod.fst x)))))) Tip.none],
        AV.bool (Prod.fst (Prod.snd x))])
        [AObj.cells
        [AV.sl 2 (Seq.map T.encEn ([], []) D) Tip.none, AV.sl 2 (Seq.map T.encIt ((0 : Int), []) (Prod.fst (Prod.snd (Prod.snd x)))) (Tip.tok 5),
        AV.sl 5 (Seq.map T.encE T.noEv (Prod.snd (Prod.snd (Prod.snd x)))) (Tip.tok 6)],
        AObj.gone, AObj.gone, AObj.cells [AV.int IntKind.i64 k, AV.int IntKind.i64 n, AV.int IntKind.i64 a, AV.int IntKind.u8 y, AV.str nm],
        AObj.cells
        [AV.int IntKind.i64 (Prod.fst (Prod.fst x)), AV.sl 2 (Seq.map T.encN ([], []) (Prod.fst (Prod.snd (Prod.fst x)))) Tip.none,
        AV.int IntKind.i64 (Prod.fst (Prod.snd (Prod.snd (Prod.fst x)))), AV.int IntKind.i64 (Prod.fst (Prod.snd (Prod.snd (Prod.snd (Prod.fst x))))),
        AV.sl 1 (Seq.map encB (0 : UInt8) (Prod.snd (Prod.snd (Prod.snd (Prod.snd (Prod.fst x)))))) Tip.none],
        AObj.tok, AObj.tok]) ∨
        ∃ (x : T.Ev × Bool),
        r =
        AV.tup
        [AV.agg
        [AV.int IntKind.i64 (Prod.fst (Prod.fst x)), AV.sl 2 (Seq.map T.encN ([], []) (Prod.fst (Prod.snd (Prod.fst x)))) Tip.none,
        AV.int IntKind.i64 (Prod.fst (Prod.snd (Prod.snd (Prod.fst x)))), AV.int IntKind.i64 (Prod.fst (Prod.snd (Prod.snd (Prod.snd (Prod.fst x))))),
        AV.sl 1 (Seq.map encB (0 : UInt8) (Prod.snd (Prod.snd (Prod.snd (Prod.snd (Prod.fst x)))))) Tip.none],
        AV.bool (Prod.snd x)] ∧
        H' =
        [AObj.cells
        [AV.sl 2 (Seq.map T.encEn ([], []) D) Tip.none, AV.sl 2 (Seq.map T.encIt ((0 : Int), []) W) (Tip.tok 1),
        AV.sl 5 (Seq.map T.encE T.noEv S) (Tip.tok 2)],
        AObj.tok, AObj.tok, AObj.cells [AV.int IntKind.i64 k, AV.int IntKind.i64 n, AV.int IntKind.i64 a, AV.int IntKind.u8 y, AV.str nm],
        AObj.cells
        [AV.int IntKind.i64 (0 : Int), AV.sl 0 (Seq.raw []) Tip.nil, AV.int IntKind.i64 (0 : Int), AV.int IntKind.i64 (0 : Int), AV.sl 0 (Seq.raw []) Tip.nil]] ∧
        Post
        (AV.tup
        [AV.agg
        [AV.int IntKind.i64 (Prod.fst (Prod.fst x)), AV.sl 2 (Seq.map T.encN ([], []) (Prod.fst (Prod.snd (Prod.fst x)))) Tip.none,
        AV.int IntKind.i64 (Prod.fst (Prod.snd (Prod.snd (Prod.fst x)))), AV.int IntKind.i64 (Prod.fst (Prod.snd (Prod.snd (Prod.snd (Prod.fst x))))),
        AV.sl 1 (Seq.map encB (0 : UInt8) (Prod.snd (Prod.snd (Prod.snd (Prod.snd (Prod.fst x)))))) Tip.none],
        AV.bool (Prod.snd x)])
        [AObj.cells
        [AV.sl 2 (Seq.map T.encEn ([], []) D) Tip.none, AV.sl 2 (Seq.map T.encIt ((0 : Int), []) W) (Tip.tok 1),
        AV.sl 5 (Seq.map T.encE T.noEv S) (Tip.tok 2)],
        AObj.tok, AObj.tok, AObj.cells [AV.int IntKind.i64 k, AV.int IntKind.i64 n, AV.int IntKind.i64 a, AV.int IntKind.u8 y, AV.str nm],
        AObj.cells
        [AV.int IntKind.i64 (Prod.fst (Prod.fst x)), AV.sl 2 (Seq.map T.encN ([], []) (Prod.fst (Prod.snd (Prod.fst x)))) Tip.none,
        AV.int IntKind.i64 (Prod.fst (Prod.snd (Prod.snd (Prod.fst x)))), AV.int IntKind.i64 (Prod.fst (Prod.snd (Prod.snd (Prod.snd (Prod.fst x))))),
        AV.sl 1 (Seq.map encB (0 : UInt8) (Prod.snd (Prod.snd (Prod.snd (Prod.snd (Prod.fst x)))))) Tip.none]])
        (condP (k == (3 : Int))
        (ASpec Try.prog 178 [AV.ptr 0 0, AV.int IntKind.i64 n, AV.int IntKind.i64 a]
        [AObj.cells
        [AV.sl 2 (Seq.map T.encEn ([], []) D) Tip.none, AV.sl 2 (Seq.map T.encIt ((0 : Int), []) W) (Tip.tok 1),
        AV.sl 5 (Seq.map T.encE T.noEv S) (Tip.tok 2)],
        AObj.tok, AObj.tok, AObj.cells [AV.int IntKind.i64 k, AV.int IntKind.i64 n, AV.int IntKind.i64 a, AV.int IntKind.u8 y, AV.str nm],
        AObj.cells [AV.int IntKind.i64 (0 : Int), AV.sl 0 (Seq.raw []) Tip.nil, AV.int IntKind.i64 (0 : Int), AV.int IntKind.i64 (0 : Int), AV.sl 0 (Seq.raw []) Tip.nil]]
        fun (r : AV) (H' : List AObj) =>
        (∃ (x : T.Ev × Bool × List T.Item × List T.Ev),
        r =
        AV.tup
        [AV.agg
        [AV.int IntKind.i64 (Prod.fst (Prod.fst x)), AV.sl 2 (Seq.map T.encN ([], []) (Prod.fst (Prod.snd (Prod.fst x)))) Tip.none,
        AV.int IntKind.i64 (Prod.fst (Prod.snd (Prod.snd (Prod.fst x)))), AV.int IntKind.i64 (Prod.fst (Prod.snd (Prod.snd (Prod.snd (Prod.fst x))))),
        AV.sl 1 (Seq.map encB (0 : UInt8) (Prod.snd (Prod.snd (Prod.snd (Prod.snd (Prod.fst x)))))) Tip.none],
        AV.bool (Prod.fst (Prod.snd x))] ∧
        H' =
        [AObj.cells
        [AV.sl 2 (Seq.map T.encEn ([], []) D) Tip.none, AV.sl 2 (Seq.map T.encIt ((0 : Int), []) (Prod.fst (Prod.snd (Prod.snd x)))) (Tip.tok 5),
        AV.sl 5 (Seq.map T.encE T.noEv (Prod.snd (Prod.snd (Prod.snd x)))) (Tip.tok 6)],
        AObj.gone, AObj.gone, AObj.cells [AV.int IntKind.i64 k, AV.int IntKind.i64 n, AV.int IntKind.i64 a, AV.int IntKind.u8 y, AV.str nm],
        AObj.cells
        [AV.int IntKind.i64 (0 : Int), AV.sl 0 (Seq.raw []) Tip.nil, AV.int IntKind.i64 (0 : Int), AV.int IntKind.i64 (0 : Int), AV.sl 0 (Seq.raw []) Tip.nil],
        AObj.tok, AObj.tok] ∧
        Post
        (AV.tup
        [AV.agg
        [AV.int IntKind.i64 (Prod.fst (Prod.fst x)), AV.sl 2 (Seq.map T.encN ([], []) (Prod.fst (Prod.snd (Prod.fst x)))) Tip.none,
        AV.int IntKind.i64 (Prod.fst (Prod.snd (Prod.snd (Prod.fst x)))), AV.int IntKind.i64 (Prod.fst (Prod.snd (Prod.snd (Prod.snd (Prod.fst x))))),
        AV.sl 1 (Seq.map encB (0 : UInt8) (Prod.snd (Prod.snd (Prod.snd (Prod.snd (Prod.fst x)))))) Tip.none],
        AV.bool (Prod.fst (Prod.snd x))])
        [AObj.cells
        [AV.sl 2 (Seq.map T.encEn ([], []) D) Tip.none, AV.sl 2 (Seq.map T.encIt ((0 : Int), []) (Prod.fst (Prod.snd (Prod.snd x)))) (Tip.tok 5),
        AV.sl 5 (Seq.map T.encE T.noEv (Prod.snd (Prod.snd (Prod.snd x)))) (Tip.tok 6)],
        AObj.gone, AObj.gone, AObj.cells [AV.int IntKind.i64 k, AV.int IntKind.i64 n, AV.int IntKind.i64 a, AV.int IntKind.u8 y, AV.str nm],
        AObj.cells
        [AV.int IntKind.i64 (Prod.fst (Prod.fst x)), AV.sl 2 (Seq.map T.encN ([], []) (Prod.fst (Prod.snd (Prod.fst x)))) Tip.none,
        AV.int IntKind.i64 (Prod.fst (Prod.snd (Prod.snd (Prod.fst x)))), AV.int IntKind.i64 (Prod.fst (Prod.snd (Prod.snd (Prod.snd (Prod.fst x))))),
        AV.sl 1 (Seq.map encB (0 : UInt8) (Prod.snd (Prod.snd (Prod.snd (Prod.snd (Prod.fst x)))))) Tip.none],
        AObj.tok, AObj.tok]) ∨
        ∃ (x : T.Ev × Bool),
        r =
        AV.tup
        [AV.agg
        [AV.int IntKind.i64 (Prod.fst (Prod.fst x)), AV.sl 2 (Seq.map T.encN ([], []) (Prod.fst (Prod.snd (Prod.fst x)))) Tip.none,
        AV.int IntKind.i64 (Prod.fst (Prod.snd (Prod.snd (Prod.fst x)))), AV.int IntKind.i64 (Prod.fst (Prod.snd (Prod.snd (Prod.snd (Prod.fst x))))),
        AV.sl 1 (Seq.map encB (0 : UInt8) (Prod.snd (Prod.snd (Prod.snd (Prod.snd (Prod.fst x)))))) Tip.none],
        AV.bool (Prod.snd x)] ∧
        H' =
        [AObj.cells
        [AV.sl 2 (Seq.map T.encEn ([], []) D) Tip.none, AV.sl 2 (Seq.map T.encIt ((0 : Int), []) W) (Tip.tok 1),
        AV.sl 5 (Seq.map T.encE T.noEv S) (Tip.tok 2)],
        AObj.tok, AObj.tok, AObj.cells [AV.int IntKind.i64 k, AV.int IntKind.i64 n, AV.int IntKind.i64 a, AV.int IntKind.u8 y, AV.str nm],
        AObj.cells
        [AV.int IntKind.i64 (0 : Int), AV.sl 0 (Seq.raw []) Tip.nil, AV.int IntKind.i64 (0 : Int), AV.int IntKind.i64 (0 : Int), AV.sl 0 (Seq.raw []) Tip.nil]] ∧
        Post
        (AV.tup
        [AV.agg
        [AV.int IntKind.i64 (Prod.fst (Prod.fst x)), AV.sl 2 (Seq.map T.encN ([], []) (Prod.fst (Prod.snd (Prod.fst x)))) Tip.none,
        AV.int IntKind.i64 (Prod.fst (Prod.snd (Prod.snd (Prod.fst x)))), AV.int IntKind.i64 (Prod.fst (Prod.snd (Prod.snd (Prod.snd (Prod.fst x))))),
        AV.sl 1 (Seq.map encB (0 : UInt8) (Prod.snd (Prod.snd (Prod.snd (Prod.snd (Prod.fst x)))))) Tip.none],
        AV.bool (Prod.snd x)])
        [AObj.cells
        [AV.sl 2 (Seq.map T.encEn ([], []) D) Tip.none, AV.sl 2 (Seq.map T.encIt ((0 : Int), []) W) (Tip.tok 1),
        AV.sl 5 (Seq.map T.encE T.noEv S) (Tip.tok 2)],
        AObj.tok, AObj.tok, AObj.cells [AV.int IntKind.i64 k, AV.int IntKind.i64 n, AV.int IntKind.i64 a, AV.int IntKind.u8 y, AV.str nm],
        AObj.cells
        [AV.int IntKind.i64 (Prod.fst (Prod.fst x)), AV.sl 2 (Seq.map T.encN ([], []) (Prod.fst (Prod.snd (Prod.fst x)))) Tip.none,
        AV.int IntKind.i64 (Prod.fst (Prod.snd (Prod.snd (Prod.fst x)))), AV.int IntKind.i64 (Prod.fst (Prod.snd (Prod.snd (Prod.snd (Prod.fst x))))),
        AV.sl 1 (Seq.map encB (0 : UInt8) (Prod.snd (Prod.snd (Prod.snd (Prod.snd (Prod.fst x)))))) Tip.none]])
        (condP (k == (4 : Int))
        (ASpec Try.prog 179 [AV.ptr 0 0, AV.int IntKind.i64 n]
        [AObj.cells
        [AV.sl 2 (Seq.map T.encEn ([], []) D) Tip.none, AV.sl 2 (Seq.map T.encIt ((0 : Int), []) W) (Tip.tok 1),
        AV.sl 5 (Seq.map T.encE T.noEv S) (Tip.tok 2)],
        AObj.tok, AObj.tok, AObj.cells [AV.int IntKind.i64 k, AV.int IntKind.i64 n, AV.int IntKind.i64 a, AV.int IntKind.u8 y, AV.str nm],
        AObj.cells [AV.int IntKind.i64 (0 : Int), AV.sl 0 (Seq.raw []) Tip.nil, AV.int IntKind.i64 (0 : Int), AV.int IntKind.i64 (0 : Int), AV.sl 0 (Seq.raw []) Tip.nil]]
        fun (r : AV) (H' : List AObj) =>
        (∃ (x : T.Ev × Bool × List T.Item),
        r =
        AV.tup
        [AV.agg
        [AV.int IntKind.i64 (Prod.fst (Prod.fst x)), AV.sl 2 (Seq.map T.encN ([], []) (Prod.fst (Prod.snd (Prod.fst x)))) Tip.none,
        AV.int IntKind.i64 (Prod.fst (Prod.snd (Prod.snd (Prod.fst x)))), AV.int IntKind.i64 (Prod.fst (Prod.snd (Prod.snd (Prod.snd (Prod.fst x))))),
        AV.sl 1 (Seq.map encB (0 : UInt8) (Prod.snd (Prod.snd (Prod.snd (Prod.snd (Prod.fst x)))))) Tip.none],
        AV.bool (Prod.fst (Prod.snd x))] ∧
        H' =
        [AObj.cells
        [AV.sl 2 (Seq.map T.encEn ([], []) D) Tip.none, AV.sl 2 (Seq.map T.encIt ((0 : Int), []) (Prod.snd (Prod.snd x))) (Tip.tok 5),
        AV.sl 5 (Seq.map T.encE T.noEv S) (Tip.tok 2)],
        AObj.gone, AObj.tok, AObj.cells [AV.int IntKind.i64 k, AV.int IntKind.i64 n, AV.int IntKind.i64 a, AV.int IntKind.u8 y, AV.str nm],
        AObj.cells
        [AV.int IntKind.i64 (0 : Int), AV.sl 0 (Seq.raw []) Tip.nil, AV.int IntKind.i64 (0 : Int), AV.int IntKind.i64 (0 : Int), AV.sl 0 (Seq.raw []) Tip.nil],
        AObj.tok] ∧
        Post
        (AV.tup
        [AV.agg
        [AV.int IntKind.i64 (Prod.fst (Prod.fst x)), AV.sl 2 (Seq.map T.encN ([], []) (Prod.fst (Prod.snd (Prod.fst x)))) Tip.none,
        AV.int IntKind.i64 (Prod.fst (Prod.snd (Prod.snd (Prod.fst x)))), AV.int IntKind.i64 (Prod.fst (Prod.snd (Prod.snd (Prod.snd (Prod.fst x))))),
        AV.sl 1 (Seq.map encB (0 : UInt8) (Prod.snd (Prod.snd (Prod.snd (Prod.snd (Prod.fst x)))))) Tip.none],
        AV.bool (Prod.fst (Prod.snd x))])
        [AObj.cells
        [AV.sl 2 (Seq.map T.encEn ([], []) D) Tip.none, AV.sl 2 (Seq.map T.encIt ((0 : Int), []) (Prod.snd (Prod.snd x))) (Tip.tok 5),
        AV.sl 5 (Seq.map T.encE T.noEv S) (Tip.tok 2)],
        AObj.gone, AObj.tok, AObj.cells [AV.int IntKind.i64 k, AV.int IntKind.i64 n, AV.int IntKind.i64 a, AV.int IntKind.u8 y, AV.str nm],
        AObj.cells
        [AV.int IntKind.i64 (Prod.fst (Prod.fst x)), AV.sl 2 (Seq.map T.encN ([], []) (Prod.fst (Prod.snd (Prod.fst x)))) Tip.none,
        AV.int IntKind.i64 (Prod.fst (Prod.snd (Prod.snd (Prod.fst x)))), AV.int IntKind.i64 (Prod.fst (Prod.snd (Prod.snd (Prod.snd (Prod.fst x))))),
        AV.sl 1 (Seq.map encB (0 : UInt8) (Prod.snd (Prod.snd (Prod.snd (Prod.snd (Prod.fst x)))))) Tip.none],
        AObj.tok]) ∨
        ∃ (x : T.Ev × Bool),
        r =
        AV.tup
        [AV.agg
        [AV.int IntKind.i64 (Prod.fst (Prod.fst x)), AV.sl 2 (Seq.map T.encN ([], []) (Prod.fst (Prod.snd (Prod.fst x)))) Tip.none,
        AV.int IntKind.i64 (Prod.fst (Prod.snd (Prod.snd (Prod.fst x)))), AV.int IntKind.i64 (Prod.fst (Prod.snd (Prod.snd (Prod.snd (Prod.fst x))))),
        AV.sl 1 (Seq.map encB (0 : UInt8) (Prod.snd (Prod.snd (Prod.snd (Prod.snd (Prod.fst x)))))) Tip.none],
        AV.bool (Prod.snd x)] ∧
        H' =
        [AObj.cells
        [AV.sl 2 (Seq.map T.encEn ([], []) D) Tip.none, AV.sl 2 (Seq.map T.encIt ((0 : Int), []) W) (Tip.tok 1),
        AV.sl 5 (Seq.map T.encE T.noEv S) (Tip.tok 2)],
        AObj.tok, AObj.tok, AObj.cells [AV.int IntKind.i64 k, AV.int IntKind.i64 n, AV.int IntKind.i64 a, AV.int IntKind.u8 y, AV.str nm],
        AObj.cells
        [AV.int IntKind.i64 (0 : Int), AV.sl 0 (Seq.raw []) Tip.nil, AV.int IntKind.i64 (0 : Int), AV.int IntKind.i64 (0 : Int), AV.sl 0 (Seq.raw []) Tip.nil]] ∧
        Post
        (AV.tup
        [AV.agg
        [AV.int IntKind.i64 (Prod.fst (Prod.fst x)), AV.sl 2 (Seq.map T.encN ([], []) (Prod.fst (Prod.snd (Prod.fst x)))) Tip.none,
        AV.int IntKind.i64 (Prod.fst (Prod.snd (Prod.snd (Prod.fst x)))), AV.int IntKind.i64 (Prod.fst (Prod.snd (Prod.snd (Prod.snd (Prod.fst x))))),
        AV.sl 1 (Seq.map encB (0 : UInt8) (Prod.snd (Prod.snd (Prod.snd (Prod.snd (Prod.fst x)))))) Tip.none],
        AV.bool (Prod.snd x)])
        [AObj.cells
        [AV.sl 2 (Seq.map T.encEn ([], []) D) Tip.none, AV.sl 2 (Seq.map T.encIt ((0 : Int), []) W) (Tip.tok 1),
        AV.sl 5 (Seq.map T.encE T.noEv S) (Tip.tok 2)],
        AObj.tok, AObj.tok, AObj.cells [AV.int IntKind.i64 k, AV.int IntKind.i64 n, AV.int IntKind.i64 a, AV.int IntKind.u8 y, AV.str nm],
        AObj.cells
        [AV.int IntKind.i64 (Prod.fst (Prod.fst x)), AV.sl 2 (Seq.map T.encN ([], []) (Prod.fst (Prod.snd (Prod.fst x)))) Tip.none,
        AV.int IntKind.i64 (Prod.fst (Prod.snd (Prod.snd (Prod.fst x)))), AV.int IntKind.i64 (Prod.fst (Prod.snd (Prod.snd (Prod.snd (Prod.fst x))))),
        AV.sl 1 (Seq.map encB (0 : UInt8) (Prod.snd (Prod.snd (Prod.snd (Prod.snd (Prod.fst x)))))) Tip.none]])
        (ASpec Try.prog 180
        [AV.agg
        [AV.sl 2 (Seq.map T.encEn ([], []) D) Tip.none, AV.sl 2 (Seq.map T.encIt ((0 : Int), []) W) (Tip.tok 1),
        AV.sl 5 (Seq.map T.encE T.noEv S) (Tip.tok 2)],
        AV.int IntKind.i64 n]
        [AObj.cells
        [AV.sl 2 (Seq.map T.encEn ([], []) D) Tip.none, AV.sl 2 (Seq.map T.encIt ((0 : Int), []) W) (Tip.tok 1),
        AV.sl 5 (Seq.map T.encE T.noEv S) (Tip.tok 2)],
        AObj.tok, AObj.tok, AObj.cells [AV.int IntKind.i64 k, AV.int IntKind.i64 n, AV.int IntKind.i64 a, AV.int IntKind.u8 y, AV.str nm],
        AObj.cells [AV.int IntKind.i64 (0 : Int), AV.sl 0 (Seq.raw []) Tip.nil, AV.int IntKind.i64 (0 : Int), AV.int IntKind.i64 (0 : Int), AV.sl 0 (Seq.raw []) Tip.nil]]
        fun (r : AV) (H' : List AObj) =>
        ∃ (x : T.Ev × Bool),
        r =
        AV.tup
        [AV.agg
        [AV.int IntKind.i64 (Prod.fst (Prod.fst x)), AV.sl 2 (Seq.map T.encN ([], []) (Prod.fst (Prod.snd (Prod.fst x)))) Tip.none,
        AV.int IntKind.i64 (Prod.fst (Prod.snd (Prod.snd (Prod.fst x)))), AV.int IntKind.i64 (Prod.fst (Prod.snd (Prod.snd (Prod.snd (Prod.fst x))))),
        AV.sl 1 (Seq.map encB (0 : UInt8) (Prod.snd (Prod.snd (Prod.snd (Prod.snd (Prod.fst x)))))) Tip.none],
        AV.bool (Prod.snd x)] ∧
        H' =
        [AObj.cells
        [AV.sl 2 (Seq.map T.encEn ([], []) D) Tip.none, AV.sl 2 (Seq.map T.encIt ((0 : Int), []) W) (Tip.tok 1),
        AV.sl 5 (Seq.map T.encE T.noEv S) (Tip.tok 2)],
        AObj.tok, AObj.tok, AObj.cells [AV.int IntKind.i64 k, AV.int IntKind.i64 n, AV.int IntKind.i64 a, AV.int IntKind.u8 y, AV.str nm],
        AObj.cells
        [AV.int IntKind.i64 (0 : Int), AV.sl 0 (Seq.raw []) Tip.nil, AV.int IntKind.i64 (0 : Int), AV.int IntKind.i64 (0 : Int), AV.sl 0 (Seq.raw []) Tip.nil]] ∧
        Post
        (AV.tup
        [AV.agg
        [AV.int IntKind.i64 (Prod.fst (Prod.fst x)), AV.sl 2 (Seq.map T.encN ([], []) (Prod.fst (Prod.snd (Prod.fst x)))) Tip.none,
        AV.int IntKind.i64 (Prod.fst (Prod.snd (Prod.snd (Prod.fst x)))), AV.int IntKind.i64 (Prod.fst (Prod.snd (Prod.snd (Prod.snd (Prod.fst x))))),
        AV.sl 1 (Seq.map encB (0 : UInt8) (Prod.snd (Prod.snd (Prod.snd (Prod.snd (Prod.fst x)))))) Tip.none],
        AV.bool (Prod.snd x)])
        [AObj.cells
        [AV.sl 2 (Seq.map T.encEn ([], []) D) Tip.none, AV.sl 2 (Seq.map T.encIt ((0 : Int), []) W) (Tip.tok 1),
        AV.sl 5 (Seq.map T.encE T.noEv S) (Tip.tok 2)],
        AObj.tok, AObj.tok, AObj.cells [AV.int IntKind.i64 k, AV.int IntKind.i64 n, AV.int IntKind.i64 a, AV.int IntKind.u8 y, AV.str nm],
        AObj.cells
        [AV.int IntKind.i64 (Prod.fst (Prod.fst x)), AV.sl 2 (Seq.map T.encN ([], []) (Prod.fst (Prod.snd (Prod.fst x)))) Tip.none,
        AV.int IntKind.i64 (Prod.fst (Prod.snd (Prod.snd (Prod.fst x)))), AV.int IntKind.i64 (Prod.fst (Prod.snd (Prod.snd (Prod.snd (Prod.fst x))))),
        AV.sl 1 (Seq.map encB (0 : UInt8) (Prod.snd (Prod.snd (Prod.snd (Prod.snd (Prod.fst x)))))) Tip.none]]))))) →
    ASpec Try.prog 55 [AV.ptr 0 0, AV.agg [AV.int IntKind.i64 k, AV.int IntKind.i64 n, AV.int IntKind.i64 a, AV.int IntKind.u8 y, AV.str nm]] (T.HXr D W S) Post := fun D W S k n a y nm Post h => Go.Ab.ASpec.of_vc g55 Go.Proofs.Try.func55 (by kernel_rfl) (by kernel_rfl) (by kernel_rfl) (Go.Ab.kc (by kernel_rfl) h)

end
end Sx
end

section
/- Printed: what the code of functions 50, 51, 52, 53, 54 asks for, by the framework's own reading of it; each line is checked against the code. -/

set_option linter.unusedVariables false
set_option maxRecDepth 100000
set_option maxHeartbeats 4000000
open Go Go.Ab Go.Proofs
namespace Sy
noncomputable section

noncomputable def retY : List (Nat × Ret) := [
  (50, ⟨Bool, fun _ _ x => .bool x, fun _ H _ => H⟩),
  (51, ⟨T.Ev × Bool × List T.Item × List T.Ev, fun _ _ x => .tup [.agg (T.encE x.1), .bool x.2.1], fun a H x => Sd.updS a H x.2.2.1 x.2.2.2⟩), (51, ⟨T.Ev × Bool, fun _ _ x => .tup [.agg (T.encE x.1), .bool x.2], fun _ H _ => H⟩), (52, ⟨T.Ev × Bool × List T.Item, fun _ _ x => .tup [.agg (T.encE x.1), .bool x.2.1], fun a H x => Sd.updW a H x.2.2⟩), (52, ⟨T.Ev × Bool, fun _ _ x => .tup [.agg (T.encE x.1), .bool x.2], fun _ H _ => H⟩), (53, ⟨Int × List UInt8 × Bool, fun _ _ x => .tup [.int .i64 x.1, .str ⟨x.2.1.toArray⟩, .bool x.2.2], fun _ H _ => H⟩), (54, ⟨T.Ev × Bool × List T.Item × List T.Ev, fun _ _ x => .tup [.agg (T.encE x.1), .bool x.2.1], fun a H x => Sd.updS a H x.2.2.1 x.2.2.2⟩)]
noncomputable def rets : FuncId → List Ret := fun f => match lookupR retY f with
  | [] => Sd.rets f
  | l => l

-- 50
noncomputable def l50 : Nat → List Nat
  | 4 => [0, 3]
  | _ => []
noncomputable def u50 : Nat → Bool
  | _ => false
noncomputable def m50 : Nat → Bool
  | _ => false
noncomputable def g50 : Cfg := { N := 20, live := l50, cut := u50, mu := m50, ret := rets }
noncomputable def c50 : Go.Code := Go.Ab.bodyOf Go.Proofs.Try.f50
noncomputable def q50_0 : Nat → (AV → List AObj → Prop) → AQ := fun (n : Nat) (Post : AV → List AObj → Prop) => endQ Try.prog (resultsOf Try.f50) Post
noncomputable def q50_1 : Nat → (AV → List AObj → Prop) → AQ := fun (n : Nat) (Post : AV → List AObj → Prop) => seqQ (fun (s' : Slots) (H' : List AObj) => awp Try.prog g50 n (codeSnd (codeSnd (codeSnd c50))) s' H' (q50_0 n Post)) (q50_0 n Post)
noncomputable def q50_2 : Nat → (AV → List AObj → Prop) → AQ := fun (n : Nat) (Post : AV → List AObj → Prop) => blockQ 0 (q50_1 n Post)
noncomputable def c50_4 : Go.Code := codeFst (codeSnd (codeFst (codeSnd (codeSnd c50))))
theorem s50 : ∀ (l : List T.Do) (Post : AV → List AObj → Prop),
  condP (decide ((↑(List.length l) : Int) > (100 : Int))) (Post (AV.bool true) [])
      (AWP Try.prog 20 0 c50_4 [(0, AV.sl 5 (Seq.map T.encDo T.noDo l) Tip.none), (3, AV.int IntKind.i64 (0 : Int))] [] (q50_2 0 Post)) →
    ASpec Try.prog 50 [AV.sl 5 (Seq.map T.encDo T.noDo l) Tip.none] [] Post := fun l Post h => Go.Ab.ASpec.of_vc g50 Go.Proofs.Try.func50 (by kernel_rfl) (by kernel_rfl) (by kernel_rfl) (Go.Ab.kc (by kernel_rfl) h)
theorem v50_4 : ∀ (l : List T.Do) (i : Int) (n : Nat) (Post : AV → List AObj → Prop),
  condP (decide (i < (↑(List.length l) : Int)))
      (needP ((0 : Int) ≤ i ∧ i < (↑(List.length l) : Int))
        (condP (decide ((↑(ByteArray.size { data := List.toArray (Prod.snd (Prod.snd (Prod.snd (Prod.snd (List.getD l (Int.toNat i) T.noDo))))) }) : Int) > (60 : Int))) (Post (AV.bool true) [])
        (AWP Try.prog 20 n c50_4 [(0, AV.sl 5 (Seq.map T.encDo T.noDo l) Tip.none), (3, AV.int IntKind.i64 (IntKind.wrap IntKind.i64 (i + (1 : Int))))] []
        (q50_2 n Post))))
      (Post (AV.bool false) []) →
    AWP Try.prog 20 n c50_4 [(0, AV.sl 5 (Seq.map T.encDo T.noDo l) Tip.none), (3, AV.int IntKind.i64 i)] [] (q50_2 n Post) := fun l i n Post h => Go.Ab.AWP.loop' g50 (Cfg.live g50) c50_4 (by kernel_rfl) (by kernel_rfl) (Go.Ab.kc (by kernel_rfl) h)

-- 51
noncomputable def l51 : Nat → List Nat
  | 5 => [0, 1, 2, 6]
  | _ => []
noncomputable def u51 : Nat → Bool
  | 5 => true
  | _ => false
noncomputable def m51 : Nat → Bool
  | _ => false
noncomputable def g51 : Cfg := { N := 26, live := l51, cut := u51, mu := m51, ret := rets }
noncomputable def c51 : Go.Code := Go.Ab.bodyOf Go.Proofs.Try.f51
noncomputable def q51_0 : Nat → (AV → List AObj → Prop) → AQ := fun (n : Nat) (Post : AV → List AObj → Prop) => endQ Try.prog (resultsOf Try.f51) Post
noncomputable def c51_5 : Go.Code := codeSnd (codeSnd (codeSnd c51))
theorem s51 : ∀ (D : List T.Ent) (W : List T.Item) (S : List T.Ev) (k o : Int) (Post : AV → List AObj → Prop),
  (ASpec Try.prog 167 [AV.ptr 0 0, AV.int IntKind.i64 k]
      [AObj.cells
        [AV.sl 2 (Seq.map T.encEn ([], []) D) Tip.none, AV.sl 2 (Seq.map T.encIt ((0 : Int), []) W) (Tip.tok 1),
        AV.sl 1 (Seq.map T.encSn T.noEv S) (Tip.tok 2)],
        AObj.tok, AObj.tok,
        AObj.cells [AV.int IntKind.i64 (0 : Int), AV.sl 0 (Seq.raw []) Tip.nil, AV.int IntKind.i64 (0 : Int), AV.int IntKind.i64 (0 : Int), AV.sl 0 (Seq.raw []) Tip.nil]]
      fun (r : AV) (H' : List AObj) =>
      ∃ (x : Bool),
        r = AV.bool x ∧
        H' =
        [AObj.cells
        [AV.sl 2 (Seq.map T.encEn ([], []) D) Tip.none, AV.sl 2 (Seq.map T.encIt ((0 : Int), []) W) (Tip.tok 1),
        AV.sl 1 (Seq.map T.encSn T.noEv S) (Tip.tok 2)],
        AObj.tok, AObj.tok,
        AObj.cells [AV.int IntKind.i64 (0 : Int), AV.sl 0 (Seq.raw []) Tip.nil, AV.int IntKind.i64 (0 : Int), AV.int IntKind.i64 (0 : Int), AV.sl 0 (Seq.raw []) Tip.nil]] ∧
        condP (!x)
        (Post
        (AV.tup
        [AV.agg [AV.int IntKind.i64 (0 : Int), AV.sl 0 (Seq.raw []) Tip.nil, AV.int IntKind.i64 (0 : Int), AV.int IntKind.i64 (0 : Int), AV.sl 0 (Seq.raw []) Tip.nil],
        AV.bool false])
        [AObj.cells
        [AV.sl 2 (Seq.map T.encEn ([], []) D) Tip.none, AV.sl 2 (Seq.map T.encIt ((0 : Int), []) W) (Tip.tok 1),
        AV.sl 1 (Seq.map T.encSn T.noEv S) (Tip.tok 2)],
        AObj.tok, AObj.tok,
        AObj.cells [AV.int IntKind.i64 (0 : Int), AV.sl 0 (Seq.raw []) Tip.nil, AV.int IntKind.i64 (0 : Int), AV.int IntKind.i64 (0 : Int), AV.sl 0 (Seq.raw []) Tip.nil]])
        (ASpec Try.prog 167 [AV.ptr 0 0, AV.int IntKind.i64 o]
        [AObj.cells
        [AV.sl 2 (Seq.map T.encEn ([], []) D) Tip.none, AV.sl 2 (Seq.map T.encIt ((0 : Int), []) W) (Tip.tok 1),
        AV.sl 1 (Seq.map T.encSn T.noEv S) (Tip.tok 2)],
        AObj.tok, AObj.tok,
        AObj.cells [AV.int IntKind.i64 (0 : Int), AV.sl 0 (Seq.raw []) Tip.nil, AV.int IntKind.i64 (0 : Int), AV.int IntKind.i64 (0 : Int), AV.sl 0 (Seq.raw []) Tip.nil]]
        fun (r : AV) (H' : List AObj) =>
        ∃ (x : Bool),
        r = AV.bool x ∧
        H' =
        [AObj.cells
        [AV.sl 2 (Seq.map T.encEn ([], []) D) Tip.none, AV.sl 2 (Seq.map T.encIt ((0 : Int), []) W) (Tip.tok 1),
        AV.sl 1 (Seq.map T.encSn T.noEv S) (Tip.tok 2)],
        AObj.tok, AObj.tok,
        AObj.cells
        [AV.int IntKind.i64 (0 : Int), AV.sl 0 (Seq.raw []) Tip.nil, AV.int IntKind.i64 (0 : Int), AV.int IntKind.i64 (0 : Int), AV.sl 0 (Seq.raw []) Tip.nil]] ∧
        condP (!x)
        (AWP Try.prog 26 3 c51_5
        [(0, AV.ptr 0 0), (1, AV.int IntKind.i64 k), (2, AV.int IntKind.i64 k), (6, AV.ptr 3 0)]
        [AObj.cells
        [AV.sl 2 (Seq.map T.encEn ([], []) D) Tip.none, AV.sl 2 (Seq.map T.encIt ((0 : Int), []) W) (Tip.tok 1),
        AV.sl 1 (Seq.map T.encSn T.noEv S) (Tip.tok 2)],
        AObj.tok, AObj.tok,
        AObj.cells
        [AV.int IntKind.i64 (0 : Int), AV.sl 0 (Seq.raw []) Tip.nil, AV.int IntKind.i64 (0 : Int), AV.int IntKind.i64 (0 : Int), AV.sl 0 (Seq.raw []) Tip.nil]]
        (q51_0 3 Post))
        (AWP Try.prog 26 3 c51_5
        [(0, AV.ptr 0 0), (1, AV.int IntKind.i64 k), (2, AV.int IntKind.i64 o), (6, AV.ptr 3 0)]
        [AObj.cells
        [AV.sl 2 (Seq.map T.encEn ([], []) D) Tip.none, AV.sl 2 (Seq.map T.encIt ((0 : Int), []) W) (Tip.tok 1),
        AV.sl 1 (Seq.map T.encSn T.noEv S) (Tip.tok 2)],
        AObj.tok, AObj.tok,
        AObj.cells
        [AV.int IntKind.i64 (0 : Int), AV.sl 0 (Seq.raw []) Tip.nil, AV.int IntKind.i64 (0 : Int), AV.int IntKind.i64 (0 : Int), AV.sl 0 (Seq.raw []) Tip.nil]]
        (q51_0 3 Post)))) →
    ASpec Try.prog 51 [AV.ptr 0 0, AV.int IntKind.i64 k, AV.int IntKind.i64 o] (T.HS D W S) Post := fun D W S k o Post h => Go.Ab.ASpec.of_vc g51 Go.Proofs.Try.func51 (by kernel_rfl) (by kernel_rfl) (by kernel_rfl) (Go.Ab.kc (by kernel_rfl) h)
theorem v51_5 : ∀ (D : List T.Ent) (W : List T.Item) (S : List T.Ev) (k o : Int) (n : Nat) (Post : AV → List AObj → Prop),
  (ASpec Try.prog 169 [AV.ptr 0 0, AV.int IntKind.i64 o]
      [AObj.cells
        [AV.sl 2 (Seq.map T.encEn ([], []) D) Tip.none, AV.sl 2 (Seq.map T.encIt ((0 : Int), []) W) (Tip.tok 1),
        AV.sl 1 (Seq.map T.encSn T.noEv S) (Tip.tok 2)],
        AObj.tok, AObj.tok,
        AObj.cells [AV.int IntKind.i64 (0 : Int), AV.sl 0 (Seq.raw []) Tip.nil, AV.int IntKind.i64 (0 : Int), AV.int IntKind.i64 (0 : Int), AV.sl 0 (Seq.raw []) Tip.nil]]
      fun (r : AV) (H' : List AObj) =>
      ∃ (x : List UInt8),
        r = AV.sl 1 (Seq.map encB (0 : UInt8) x) Tip.none ∧
        H' =
        [AObj.cells
        [AV.sl 2 (Seq.map T.encEn ([], []) D) Tip.none, AV.sl 2 (Seq.map T.encIt ((0 : Int), []) W) (Tip.tok 1),
        AV.sl 1 (Seq.map T.encSn T.noEv S) (Tip.tok 2)],
        AObj.tok, AObj.tok,
        AObj.cells [AV.int IntKind.i64 (0 : Int), AV.sl 0 (Seq.raw []) Tip.nil, AV.int IntKind.i64 (0 : Int), AV.int IntKind.i64 (0 : Int), AV.sl 0 (Seq.raw []) Tip.nil]] ∧
        ASpec Try.prog 168 [AV.ptr 0 0, AV.int IntKind.i64 k, AV.sl 1 (Seq.map encB (0 : UInt8) x) Tip.none]
        [AObj.cells
        [AV.sl 2 (Seq.map T.encEn ([], []) D) Tip.none, AV.sl 2 (Seq.map T.encIt ((0 : Int), []) W) (Tip.tok 1),
        AV.sl 1 (Seq.map T.encSn T.noEv S) (Tip.tok 2)],
        AObj.tok, AObj.tok,
        AObj.cells [AV.int IntKind.i64 (0 : Int), AV.sl 0 (Seq.raw []) Tip.nil, AV.int IntKind.i64 (0 : Int), AV.int IntKind.i64 (0 : Int), AV.sl 0 (Seq.raw []) Tip.nil]]
        fun (r : AV) (H' : List AObj) =>
        ∃ (x : T.Ev × Bool × List T.Item × List T.Ev),
        r =
        AV.tup
        [AV.agg
        [AV.int IntKind.i64 (Prod.fst (Prod.fst x)), AV.sl 2 (Seq.map T.encN ([], []) (Prod.fst (Prod.snd (Prod.fst x)))) Tip.none,
        AV.int IntKind.i64 (Prod.fst (Prod.snd (Prod.snd (Prod.fst x)))), AV.int IntKind.i64 (Prod.fst (Prod.snd (Prod.snd (Prod.snd (Prod.fst x))))),
        AV.sl 1 (Seq.map encB (0 : UInt8) (Prod.snd (Prod.snd (Prod.snd (Prod.snd (Prod.fst x)))))) Tip.none],
        AV.bool (Prod.fst (Prod.snd x))] ∧
        H' =
        [AObj.cells
        [AV.sl 2 (Seq.map T.encEn ([], []) D) Tip.none, AV.sl 2 (Seq.map T.encIt ((0 : Int), []) (Prod.fst (Prod.snd (Prod.snd x)))) (Tip.tok 4),
        AV.sl 1 (Seq.map T.encSn T.noEv (Prod.snd (Prod.snd (Prod.snd x)))) (Tip.tok 5)],
        AObj.gone, AObj.gone,
        AObj.cells
        [AV.int IntKind.i64 (0 : Int), AV.sl 0 (Seq.raw []) Tip.nil, AV.int IntKind.i64 (0 : Int), AV.int IntKind.i64 (0 : Int), AV.sl 0 (Seq.raw []) Tip.nil],
        AObj.tok, AObj.tok] ∧
        Post
        (AV.tup
        [AV.agg
        [AV.int IntKind.i64 (Prod.fst (Prod.fst x)), AV.sl 2 (Seq.map T.encN ([], []) (Prod.fst (Prod.snd (Prod.fst x)))) Tip.none,
        AV.int IntKind.i64 (Prod.fst (Prod.snd (Prod.snd (Prod.fst x)))), AV.int IntKind.i64 (Prod.fst (Prod.snd (Prod.snd (Prod.snd (Prod.fst x))))),
        AV.sl 1 (Seq.map encB (0 : UInt8) (Prod.snd (Prod.snd (Prod.snd (Prod.snd (Prod.fst x)))))) Tip.none],
        AV.bool (Prod.fst (Prod.snd x))])
        [AObj.cells
        [AV.sl 2 (Seq.map T.encEn ([], []) D) Tip.none, AV.sl 2 (Seq.map T.encIt ((0 : Int), []) (Prod.fst (Prod.snd (Prod.snd x)))) (Tip.tok 4),
        AV.sl 1 (Seq.map T.encSn T.noEv (Prod.snd (Prod.snd (Prod.snd x)))) (Tip.tok 5)],
        AObj.gone, AObj.gone,
        AObj.cells
        [AV.int IntKind.i64 (Prod.fst (Prod.fst x)), AV.sl 2 (Seq.map T.encN ([], []) (Prod.fst (Prod.snd (Prod.fst x)))) Tip.none,
        AV.int IntKind.i64 (Prod.fst (Prod.snd (Prod.snd (Prod.fst x)))), AV.int IntKind.i64 (Prod.fst (Prod.snd (Prod.snd (Prod.snd (Prod.fst x))))),
        AV.sl 1 (Seq.map encB (0 : UInt8) (Prod.snd (Prod.snd (Prod.snd (Prod.snd (Prod.fst x)))))) Tip.none],
        AObj.tok, AObj.tok]) →
    AWP Try.prog 26 n c51_5 [(0, AV.ptr 0 0), (1, AV.int IntKind.i64 k), (2, AV.int IntKind.i64 o), (6, AV.ptr 3 0)]
      (T.HS D W S ++
        [AObj.cells [AV.int IntKind.i64 (0 : Int), AV.sl 0 (Seq.raw []) Tip.nil, AV.int IntKind.i64 (0 : Int), AV.int IntKind.i64 (0 : Int), AV.sl 0 (Seq.raw []) Tip.nil]])
      (q51_0 n Post) := fun D W S k o n Post h => Go.Ab.awp_sound g51 n _ _ _ _ (Go.Ab.kc (by kernel_rfl) h)

-- 52
noncomputable def l52 : Nat → List Nat
  | _ => []
noncomputable def u52 : Nat → Bool
  | _ => false
noncomputable def m52 : Nat → Bool
  | _ => false
noncomputable def g52 : Cfg := { N := 16, live := l52, cut := u52, mu := m52, ret := rets }
theorem s52 : ∀ (D : List T.Ent) (W : List T.Item) (S : List T.Ev) (k : Int) (Post : AV → List AObj → Prop),
  (ASpec Try.prog 167 [AV.ptr 0 0, AV.int IntKind.i64 k]
      [AObj.cells
        [AV.sl 2 (Seq.map T.encEn ([], []) D) Tip.none, AV.sl 2 (Seq.map T.encIt ((0 : Int), []) W) (Tip.tok 1),
        AV.sl 1 (Seq.map T.encSn T.noEv S) (Tip.tok 2)],
        AObj.tok, AObj.tok,
        AObj.cells [AV.int IntKind.i64 (0 : Int), AV.sl 0 (Seq.raw []) Tip.nil, AV.int IntKind.i64 (0 : Int), AV.int IntKind.i64 (0 : Int), AV.sl 0 (Seq.raw []) Tip.nil]]
      fun (r : AV) (H' : List AObj) =>
      ∃ (x : Bool),
        r = AV.bool x ∧
        H' =
        [AObj.cells
        [AV.sl 2 (Seq.map T.encEn ([], []) D) Tip.none, AV.sl 2 (Seq.map T.encIt ((0 : Int), []) W) (Tip.tok 1),
        AV.sl 1 (Seq.map T.encSn T.noEv S) (Tip.tok 2)],
        AObj.tok, AObj.tok,
        AObj.cells [AV.int IntKind.i64 (0 : Int), AV.sl 0 (Seq.raw []) Tip.nil, AV.int IntKind.i64 (0 : Int), AV.int IntKind.i64 (0 : Int), AV.sl 0 (Seq.raw []) Tip.nil]] ∧
        condP (!x)
        (Post
        (AV.tup
        [AV.agg [AV.int IntKind.i64 (0 : Int), AV.sl 0 (Seq.raw []) Tip.nil, AV.int IntKind.i64 (0 : Int), AV.int IntKind.i64 (0 : Int), AV.sl 0 (Seq.raw []) Tip.nil],
        AV.bool false])
        [AObj.cells
        [AV.sl 2 (Seq.map T.encEn ([], []) D) Tip.none, AV.sl 2 (Seq.map T.encIt ((0 : Int), []) W) (Tip.tok 1),
        AV.sl 1 (Seq.map T.encSn T.noEv S) (Tip.tok 2)],
        AObj.tok, AObj.tok,
        AObj.cells [AV.int IntKind.i64 (0 : Int), AV.sl 0 (Seq.raw []) Tip.nil, AV.int IntKind.i64 (0 : Int), AV.int IntKind.i64 (0 : Int), AV.sl 0 (Seq.raw []) Tip.nil]])
        (ASpec Try.prog 174 [AV.ptr 0 0, AV.int IntKind.i64 k]
        [AObj.cells
        [AV.sl 2 (Seq.map T.encEn ([], []) D) Tip.none, AV.sl 2 (Seq.map T.encIt ((0 : Int), []) W) (Tip.tok 1),
        AV.sl 1 (Seq.map T.encSn T.noEv S) (Tip.tok 2)],
        AObj.tok, AObj.tok,
        AObj.cells [AV.int IntKind.i64 (0 : Int), AV.sl 0 (Seq.raw []) Tip.nil, AV.int IntKind.i64 (0 : Int), AV.int IntKind.i64 (0 : Int), AV.sl 0 (Seq.raw []) Tip.nil]]
        fun (r : AV) (H' : List AObj) =>
        ∃ (x : T.Item × List T.Item),
        r = AV.agg [AV.int IntKind.i64 (Prod.fst (Prod.fst x)), AV.str { data := List.toArray (Prod.snd (Prod.fst x)) }] ∧
        H' =
        [AObj.cells
        [AV.sl 2 (Seq.map T.encEn ([], []) D) Tip.none, AV.sl 2 (Seq.map T.encIt ((0 : Int), []) (Prod.snd x)) (Tip.tok 4),
        AV.sl 1 (Seq.map T.encSn T.noEv S) (Tip.tok 2)],
        AObj.gone, AObj.tok,
        AObj.cells
        [AV.int IntKind.i64 (0 : Int), AV.sl 0 (Seq.raw []) Tip.nil, AV.int IntKind.i64 (0 : Int), AV.int IntKind.i64 (0 : Int), AV.sl 0 (Seq.raw []) Tip.nil],
        AObj.tok] ∧
        Post
        (AV.tup
        [AV.agg
        [AV.int IntKind.i64 (4 : Int), AV.sl 0 (Seq.raw []) Tip.nil, AV.int IntKind.i64 (0 : Int), AV.int IntKind.i64 (Prod.fst (Prod.fst x)),
        AV.sl 0 (Seq.raw []) Tip.nil],
        AV.bool true])
        [AObj.cells
        [AV.sl 2 (Seq.map T.encEn ([], []) D) Tip.none, AV.sl 2 (Seq.map T.encIt ((0 : Int), []) (Prod.snd x)) (Tip.tok 4),
        AV.sl 1 (Seq.map T.encSn T.noEv S) (Tip.tok 2)],
        AObj.gone, AObj.tok,
        AObj.cells
        [AV.int IntKind.i64 (4 : Int), AV.sl 0 (Seq.raw []) Tip.nil, AV.int IntKind.i64 (0 : Int), AV.int IntKind.i64 (Prod.fst (Prod.fst x)),
        AV.sl 0 (Seq.raw []) Tip.nil],
        AObj.tok])) →
    ASpec Try.prog 52 [AV.ptr 0 0, AV.int IntKind.i64 k] (T.HS D W S) Post := fun D W S k Post h => Go.Ab.ASpec.of_vc g52 Go.Proofs.Try.func52 (by kernel_rfl) (by kernel_rfl) (by kernel_rfl) (Go.Ab.kc (by kernel_rfl) h)

-- 53
noncomputable def l53 : Nat → List Nat
  | _ => []
noncomputable def u53 : Nat → Bool
  | _ => false
noncomputable def m53 : Nat → Bool
  | _ => false
noncomputable def g53 : Cfg := { N := 27, live := l53, cut := u53, mu := m53, ret := rets }
theorem s53 : ∀ (D : List T.Ent) (W : List T.Item) (S : List T.Ev) (k : Int) (Post : AV → List AObj → Prop),
  (ASpec Try.prog 167 [AV.ptr 0 0, AV.int IntKind.i64 k]
      [AObj.cells
        [AV.sl 2 (Seq.map T.encEn ([], []) D) Tip.none, AV.sl 2 (Seq.map T.encIt ((0 : Int), []) W) (Tip.tok 1),
        AV.sl 1 (Seq.map T.encSn T.noEv S) (Tip.tok 2)],
        AObj.tok, AObj.tok]
      fun (r : AV) (H' : List AObj) =>
      ∃ (x : Bool),
        r = AV.bool x ∧
        H' =
        [AObj.cells
        [AV.sl 2 (Seq.map T.encEn ([], []) D) Tip.none, AV.sl 2 (Seq.map T.encIt ((0 : Int), []) W) (Tip.tok 1),
        AV.sl 1 (Seq.map T.encSn T.noEv S) (Tip.tok 2)],
        AObj.tok, AObj.tok] ∧
        condP (!x)
        (Post (AV.tup [AV.int IntKind.i64 (0 : Int), AV.str { data := #[] }, AV.bool false])
        [AObj.cells
        [AV.sl 2 (Seq.map T.encEn ([], []) D) Tip.none, AV.sl 2 (Seq.map T.encIt ((0 : Int), []) W) (Tip.tok 1),
        AV.sl 1 (Seq.map T.encSn T.noEv S) (Tip.tok 2)],
        AObj.tok, AObj.tok])
        (needP ((0 : Int) ≤ k ∧ k < (↑(List.length W) : Int))
        (needP ((0 : Int) ≤ k ∧ k < (↑(List.length W) : Int))
        ((AV.str { data := List.toArray (Prod.snd (List.getD W (Int.toNat k) ((0 : Int), []))) } = AV.str { data := List.toArray (Prod.snd (List.getD W (Int.toNat k) ((0 : Int), []))) } ∧
        [AObj.cells
        [AV.sl 2 (Seq.map T.encEn ([], []) D) Tip.none, AV.sl 2 (Seq.map T.encIt ((0 : Int), []) W) (Tip.tok 1),
        AV.sl 1 (Seq.map T.encSn T.noEv S) (Tip.tok 2)],
        AObj.tok, AObj.tok] =
        [AObj.cells
        [AV.sl 2 (Seq.map T.encEn ([], []) D) Tip.none, AV.sl 2 (Seq.map T.encIt ((0 : Int), []) W) (Tip.tok 1),
        AV.sl 1 (Seq.map T.encSn T.noEv S) (Tip.tok 2)],
        AObj.tok, AObj.tok]) ∧
        (AV.sl 2 (Seq.map T.encIt ((0 : Int), []) W) (Tip.tok 1) = AV.sl 2 (Seq.map T.encIt ((0 : Int), []) W) (Tip.tok 1) ∧
        [AObj.cells
        [AV.sl 2 (Seq.map T.encEn ([], []) D) Tip.none, AV.sl 2 (Seq.map T.encIt ((0 : Int), []) W) (Tip.tok 1),
        AV.sl 1 (Seq.map T.encSn T.noEv S) (Tip.tok 2)],
        AObj.tok, AObj.tok] =
        [AObj.cells
        [AV.sl 2 (Seq.map T.encEn ([], []) D) Tip.none, AV.sl 2 (Seq.map T.encIt ((0 : Int), []) W) (Tip.tok 1),
        AV.sl 1 (Seq.map T.encSn T.noEv S) (Tip.tok 2)],
        AObj.tok, AObj.tok]) ∧
        Post
        (AV.tup
        [AV.int IntKind.i64 (Prod.fst (List.getD W (Int.toNat k) ((0 : Int), []))), AV.str { data := List.toArray (Prod.snd (List.getD W (Int.toNat k) ((0 : Int), []))) },
        AV.bool true])
        [AObj.cells
        [AV.sl 2 (Seq.map T.encEn ([], []) D) Tip.none, AV.sl 2 (Seq.map T.encIt ((0 : Int), []) W) (Tip.tok 1),
        AV.sl 1 (Seq.map T.encSn T.noEv S) (Tip.tok 2)],
        AObj.tok, AObj.tok])))) →
    ASpec Try.prog 53 [AV.ptr 0 0, AV.int IntKind.i64 k] (T.HS D W S) Post := fun D W S k Post h => Go.Ab.ASpec.of_vc g53 Go.Proofs.Try.func53 (by kernel_rfl) (by kernel_rfl) (by kernel_rfl) (Go.Ab.kc (by kernel_rfl) h)

-- 54
noncomputable def l54 : Nat → List Nat
  | _ => []
noncomputable def u54 : Nat → Bool
  | _ => false
noncomputable def m54 : Nat → Bool
  | _ => false
noncomputable def g54 : Cfg := { N := 65, live := l54, cut := u54, mu := m54, ret := rets }
theorem s54 : ∀ (D : List T.Ent) (W : List T.Item) (S : List T.Ev) (k n a y : Int) (nm : ByteArray) (Post : AV → List AObj → Prop),
  condP (k == (0 : Int))
      (ASpec Try.prog 42
        [AV.ptr 0 0,
        AV.sl 7
        (Seq.raw
        [[AV.int IntKind.i64 (1 : Int), AV.int IntKind.i64 n, AV.str nm, AV.int IntKind.i64 (0 : Int), AV.int IntKind.i64 (0 : Int), AV.sl 0 (Seq.raw []) Tip.nil,
        AV.sl 0 (Seq.raw []) Tip.nil],
        [AV.int IntKind.i64 (2 : Int), AV.int IntKind.i64 (0 : Int), AV.str { data := #[] }, AV.int IntKind.i64 (0 : Int), AV.int IntKind.i64 (0 : Int), AV.sl 0 (Seq.raw []) Tip.nil,
        AV.sl 0 (Seq.raw []) Tip.nil]])
        Tip.full]
        [AObj.cells
        [AV.sl 2 (Seq.map T.encEn ([], []) D) Tip.none, AV.sl 2 (Seq.map T.encIt ((0 : Int), []) W) (Tip.tok 1),
        AV.sl 1 (Seq.map T.encSn T.noEv S) (Tip.tok 2)],
        AObj.tok, AObj.tok, AObj.cells [AV.int IntKind.i64 k, AV.int IntKind.i64 n, AV.int IntKind.i64 a, AV.int IntKind.u8 y, AV.str nm],
        AObj.cells [AV.int IntKind.i64 (0 : Int), AV.sl 0 (Seq.raw []) Tip.nil, AV.int IntKind.i64 (0 : Int), AV.int IntKind.i64 (0 : Int), AV.sl 0 (Seq.raw []) Tip.nil]]
        fun (r : AV) (H' : List AObj) =>
        ∃ (x : Int × List T.Item),
        r = AV.int IntKind.i64 (Prod.fst x) ∧
        H' =
        [AObj.cells
        [AV.sl 2 (Seq.map T.encEn ([], []) D) Tip.none, AV.sl 2 (Seq.map T.encIt ((0 : Int), []) (Prod.snd x)) (Tip.tok 5),
        AV.sl 1 (Seq.map T.encSn T.noEv S) (Tip.tok 2)],
        AObj.gone, AObj.tok, AObj.cells [AV.int IntKind.i64 k, AV.int IntKind.i64 n, AV.int IntKind.i64 a, AV.int IntKind.u8 y, AV.str nm],
        AObj.cells [AV.int IntKind.i64 (0 : Int), AV.sl 0 (Seq.raw []) Tip.nil, AV.int IntKind.i64 (0 : Int), AV.int IntKind.i64 (0 : Int), AV.sl 0 (Seq.raw []) Tip.nil],
        AObj.tok] ∧
        Post
        (AV.tup
        [AV.agg [AV.int IntKind.i64 (0 : Int), AV.sl 0 (Seq.raw []) Tip.nil, AV.int IntKind.i64 (0 : Int), AV.int IntKind.i64 (0 : Int), AV.sl 0 (Seq.raw []) Tip.nil],
        AV.bool (Prod.fst x == (1 : Int))])
        [AObj.cells
        [AV.sl 2 (Seq.map T.encEn ([], []) D) Tip.none, AV.sl 2 (Seq.map T.encIt ((0 : Int), []) (Prod.snd x)) (Tip.tok 5),
        AV.sl 1 (Seq.map T.encSn T.noEv S) (Tip.tok 2)],
        AObj.gone, AObj.tok, AObj.cells [AV.int IntKind.i64 k, AV.int IntKind.i64 n, AV.int IntKind.i64 a, AV.int IntKind.u8 y, AV.str nm],
        AObj.cells [AV.int IntKind.i64 (0 : Int), AV.sl 0 (Seq.raw []) Tip.nil, AV.int IntKind.i64 (0 : Int), AV.int IntKind.i64 (0 : Int), AV.sl 0 (Seq.raw []) Tip.nil],
        AObj.tok])
      (condP (k == (1 : Int))
        (ASpec Try.prog 43 [AV.ptr 0 0, AV.int IntKind.i64 n]
        [AObj.cells
        [AV.sl 2 (Seq.map T.encEn ([], []) D) Tip.none, AV.sl 2 (Seq.map T.encIt ((0 : Int), []) W) (Tip.tok 1),
        AV.sl 1 (Seq.map T.encSn T.noEv S) (Tip.tok 2)],
        AObj.tok, AObj.tok, AObj.cells [AV.int IntKind.i64 k, AV.int IntKind.i64 n, AV.int IntKind.i64 a, AV.int IntKind.u8 y, AV.str nm],
        AObj.cells [AV.int IntKind.i64 (0 : Int), AV.sl 0 (Seq.raw []) Tip.nil, AV.int IntKind.i64 (0 : Int), AV.int IntKind.i64 (0 : Int), AV.sl 0 (Seq.raw []) Tip.nil]]
        fun (r : AV) (H' : List AObj) =>
        (∃ (x : T.Ev × Bool × List T.Item × List T.Ev),
        r =
        AV.tup
        [AV.agg
        [AV.int IntKind.i64 (Prod.fst (Prod.fst x)), AV.sl 2 (Seq.map T.encN ([], []) (Prod.fst (Prod.snd (Prod.fst x)))) Tip.none,
        AV.int IntKind.i64 (Prod.fst (Prod.snd (Prod.snd (Prod.fst x)))), AV.int IntKind.i64 (Prod.fst (Prod.snd (Prod.snd (Prod.snd (Prod.fst x))))),
        AV.sl 1 (Seq.map encB (0 : UInt8) (Prod.snd (Prod.snd (Prod.snd (Prod.snd (Prod.fst x)))))) Tip.none],
        AV.bool (Prod.fst (Prod.snd x))] ∧
        H' =
        [AObj.cells
        [AV.sl 2 (Seq.map T.encEn ([], []) D) Tip.none, AV.sl 2 (Seq.map T.encIt ((0 : Int), []) (Prod.fst (Prod.snd (Prod.snd x)))) (Tip.tok 5),
        AV.sl 1 (Seq.map T.encSn T.noEv (Prod.snd (Prod.snd (Prod.snd x)))) (Tip.tok 6)],
        AObj.gone, AObj.gone, AObj.cells [AV.int IntKind.i64 k, AV.int IntKind.i64 n, AV.int IntKind.i64 a, AV.int IntKind.u8 y, AV.str nm],
        AObj.cells [AV.int IntKind.i64 (0 : Int), AV.sl 0 (Seq.raw []) Tip.nil, AV.int IntKind.i64 (0 : Int), AV.int IntKind.i64 (0 : Int), AV.sl 0 (Seq.raw []) Tip.nil],
        AObj.tok, AObj.tok] ∧
        Post
        (AV.tup
        [AV.agg
        [AV.int IntKind.i64 (Prod.fst (Prod.fst x)), AV.sl 2 (Seq.map T.encN ([], []) (Prod.fst (Prod.snd (Prod.fst x)))) Tip.none,
        AV.int IntKind.i64 (Prod.fst (Prod.snd (Prod.snd (Prod.fst x)))), AV.int IntKind.i64 (Prod.fst (Prod.snd (Prod.snd (Prod.snd (Prod.fst x))))),
        AV.sl 1 (Seq.map encB (0 : UInt8) (Prod.snd (Prod.snd (Prod.snd (Prod.snd (Prod.fst x)))))) Tip.none],
        AV.bool (Prod.fst (Prod.snd x))])
        [AObj.cells
        [AV.sl 2 (Seq.map T.encEn ([], []) D) Tip.none, AV.sl 2 (Seq.map T.encIt ((0 : Int), []) (Prod.fst (Prod.snd (Prod.snd x)))) (Tip.tok 5),
        AV.sl 1 (Seq.map T.encSn T.noEv (Prod.snd (Prod.snd (Prod.snd x)))) (Tip.tok 6)],
        AObj.gone, AObj.gone, AObj.cells [AV.int IntKind.i64 k, AV.int IntKind.i64 n, AV.int IntKind.i64 a, AV.int IntKind.u8 y, AV.str nm],
        AObj.cells
        [AV.int IntKind.i64 (Prod.fst (Prod.fst x)), AV.sl 2 (Seq.map T.encN ([], []) (Prod.fst (Prod.snd (Prod.fst x)))) Tip.none,
        AV.int IntKind.i64 (Prod.fst (Prod.snd (Prod.snd (Prod.fst x)))), AV.int IntKind.i64 (Prod.fst (Prod.snd (Prod.snd (Prod.snd (Prod.fst x))))),
        AV.sl 1 (Seq.map encB (0 : UInt8) (Prod.snd (Prod.snd (Prod.snd (Prod.snd (Prod.fst x)))))) Tip.none],
        AObj.tok, AObj.tok]) ∨
        ∃ (x : T.Ev × Bool),
        r =
        AV.tup
        [AV.agg
        [AV.int IntKind.i64 (Prod.fst (Prod.fst x)), AV.sl 2 (Seq.map T.encN ([], []) (Prod.fst (Prod.snd (Prod.fst x)))) Tip.none,
        AV.int IntKind.i64 (Prod.fst (Prod.snd (Prod.snd (Prod.fst x)))), AV.int IntKind.i64 (Prod.fst (Prod.snd (Prod.snd (Prod.snd (Prod.fst x))))),
        AV.sl 1 (Seq.map encB (0 : UInt8) (Prod.snd (Prod.snd (Prod.snd (Prod.snd (Prod.fst x)))))) Tip.none],
        AV.bool (Prod.snd x)] ∧
        H' =
        [AObj.cells
        [AV.sl 2 (Seq.map T.encEn ([], []) D) Tip.none, AV.sl 2 (Seq.map T.encIt ((0 : Int), []) W) (Tip.tok 1),
        AV.sl 1 (Seq.map T.encSn T.noEv S) (Tip.tok 2)],
        AObj.tok, AObj.tok, AObj.cells [AV.int IntKind.i64 k, AV.int IntKind.i64 n, AV.int IntKind.i64 a, AV.int IntKind.u8 y, AV.str nm],
        AObj.cells
        [AV.int IntKind.i64 (0 : Int), AV.sl 0 (Seq.raw []) Tip.nil, AV.int IntKind.i64 (0 : Int), AV.int IntKind.i64 (0 : Int), AV.sl 0 (Seq.raw []) Tip.nil]] ∧
        Post
        (AV.tup
        [AV.agg
        [AV.int IntKind.i64 (Prod.fst (Prod.fst x)), AV.sl 2 (Seq.map T.encN ([], []) (Prod.fst (Prod.snd (Prod.fst x)))) Tip.none,
        AV.int IntKind.i64 (Prod.fst (Prod.snd (Prod.snd (Prod.fst x)))), AV.int IntKind.i64 (Prod.fst (Prod.snd (Prod.snd (Prod.snd (Prod.fst x))))),
        AV.sl 1 (Seq.map encB (0 : UInt8) (Prod.snd (Prod.snd (Prod.snd (Prod.snd (Prod.fst x)))))) Tip.none],
        AV.bool (Prod.snd x)])
        [AObj.cells
        [AV.sl 2 (Seq.map T.encEn ([], []) D) Tip.none, AV.sl 2 (Seq.map T.encIt ((0 : Int), []) W) (Tip.tok 1),
        AV.sl 1 (Seq.map T.encSn T.noEv S) (Tip.tok 2)],
        AObj.tok, AObj.tok, AObj.cells [AV.int IntKind.i64 k, AV.int IntKind.i64 n, AV.int IntKind.i64 a, AV.int IntKind.u8 y, AV.str nm],
        AObj.cells
        [AV.int IntKind.i64 (Prod.fst (Prod.fst x)), AV.sl 2 (Seq.map T.encN ([], []) (Prod.fst (Prod.snd (Prod.fst x)))) Tip.none,
        AV.int IntKind.i64 (Prod.fst (Prod.snd (Prod.snd (Prod.fst x)))), AV.int IntKind.i64 (Prod.fst (Prod.snd (Prod.snd (Prod.snd (Prod.fst x))))),
        AV.sl 1 (Seq.map encB (0 : UInt8) (Prod.snd (Prod.snd (Prod.snd (Prod.snd (Prod.fst x)))))) Tip.none]])
        (condP (k == (2 : Int))
        (ASpec Try.prog 44 [AV.ptr 0 0, AV.int IntKind.i64 n, AV.int IntKind.i64 a, AV.int IntKind.u8 y]
        [AObj.cells
        [AV.sl 2 (Seq.map T.encEn ([], []) D) Tip.none, AV.sl 2 (Seq.map T.encIt ((0 : Int), []) W) (Tip.tok 1),
        AV.sl 1 (Seq.map T.encSn T.noEv S) (Tip.tok 2)],
        AObj.tok, AObj.tok, AObj.cells [AV.int IntKind.i64 k, AV.int IntKind.i64 n, AV.int IntKind.i64 a, AV.int IntKind.u8 y, AV.str nm],
        AObj.cells [AV.int IntKind.i64 (0 : Int), AV.sl 0 (Seq.raw []) Tip.nil, AV.int IntKind.i64 (0 : Int), AV.int IntKind.i64 (0 : Int), AV.sl 0 (Seq.raw []) Tip.nil]]
        fun (r : AV) (H' : List AObj) =>
        (∃ (x : T.Ev × Bool × List T.Item × List T.Ev),
        r =
        AV.tup
        [AV.agg
        [AV.int IntKind.i64 (Prod.fst (Prod.fst x)), AV.sl 2 (Seq.map T.encN ([], []) (Prod.fst (Prod.snd (Prod.fst x)))) Tip.none,
        AV.int IntKind.i64 (Prod.fst (Prod.snd (Prod.snd (Prod.fst x)))), AV.int IntKind.i64 (Prod.fst (Prod.snd (Prod.snd (Prod.snd (Prod.fst x))))),
        AV.sl 1 (Seq.map encB (0 : UInt8) (Prod.snd (Prod.snd (Prod.snd (Prod.snd (Prod.fst x)))))) Tip.none],
        AV.bool (Prod.fst (Prod.snd x))] ∧
        H' =
        [AObj.cells
        [AV.sl 2 (Seq.map T.encEn ([], []) D) Tip.none, AV.sl 2 (Seq.map T.encIt ((0 : Int), []) (Prod.fst (Prod.snd (Prod.snd x)))) (Tip.tok 5),
        AV.sl 1 (Seq.map T.encSn T.noEv (Prod.snd (Prod.snd (Prod.snd x)))) (Tip.tok 6)],
        AObj.gone, AObj.gone, AObj.cells [AV.int IntKind.i64 k, AV.int IntKind.i64 n, AV.int IntKind.i64 a, AV.int IntKind.u8 y, AV.str nm],
        AObj.cells
        [AV.int IntKind.i64 (0 : Int), AV.sl 0 (Seq.raw []) Tip.nil, AV.int IntKind.i64 (0 : Int), AV.int IntKind.i64 (0 : Int), AV.sl 0 (Seq.raw []) Tip.nil],
        AObj.tok, AObj.tok] ∧
        Post
        (AV.tup
        [AV.agg
        [AV.int IntKind.i64 (Prod.fst (Prod.fst x)), AV.sl 2 (Seq.map T.encN ([], []) (Prod.fst (Prod.snd (Prod.fst x)))) Tip.none,
        AV.int IntKind.i64 (Prod.fst (Prod.snd (Prod.snd (Prod.fst x)))), AV.int IntKind.i64 (Prod.fst (Prod.snd (Prod.snd (Prod.snd (Prod.fst x))))),
        AV.sl 1 (Seq.map encB (0 : UInt8) (Prod.snd (Prod.snd (Prod.snd (Prod.snd (Prod.fst x)))))) Tip.none],
        AV.bool (Prod.fst (Prod.snd x))])
        [AObj.cells
        [AV.sl 2 (Seq.map T.encEn ([], []) D) Tip.none, AV.sl 2 (Seq.map T.encIt ((0 : Int), []) (Prod.fst (Prod.snd (Prod.snd x)))) (Tip.tok 5),
        AV.sl 1 (Seq.map T.encSn T.noEv (Prod.snd (Prod.snd (Prod.snd x)))) (Tip.tok 6)],
        AObj.gone, AObj.gone, AObj.cells [AV.int IntKind.i64 k, AV.int IntKind.i64 n, AV.int IntKind.i64 a, AV.int IntKind.u8 y, AV.str nm],
        AObj.cells
        [AV.int IntKind.i64 (Prod.fst (Prod.fst x)), AV.sl 2 (Seq.map T.encN ([], []) (Prod.fst (Prod.snd (Prod.fst x)))) Tip.none,
        AV.int IntKind.i64 (Prod.fst (Prod.snd (Prod.snd (Prod.fst x)))), AV.int IntKind.i64 (Prod.fst (Prod.snd (Prod.snd (Prod.snd (Prod.fst x))))),
        AV.sl 1 (Seq.map encB (0 : UInt8) (Prod.snd (Prod.snd (Prod.snd (Prod.snd (Prod.fst x)))))) Tip.none],
        AObj.tok, AObj.tok]) ∨
        ∃ (x : T.Ev × Bool),
        r =
        AV.tup
        [AV.agg
        [AV.int IntKind.i64 (Prod.fst (Prod.fst x)), AV.sl 2 (Seq.map T.encN ([], []) (Prod.fst (Prod.snd (Prod.fst x)))) Tip.none,
        AV.int IntKind.i64 (Prod.fst (Prod.snd (Prod.snd (Prod.fst x)))), AV.int IntKind.i64 (Prod.fst (Prod.snd (Prod.snd (Prod.snd (Prod.fst x))))),
        AV.sl 1 (Seq.map encB (0 : UInt8) (Prod.snd (Prod.snd (Prod.snd (Prod.snd (Prod.fst x)))))) Tip.none],
        AV.bool (Prod.snd x)] ∧
        H' =
        [AObj.cells
        [AV.sl 2 (Seq.map T.encEn ([], []) D) Tip.none, AV.sl 2 (Seq.map T.encIt ((0 : Int), []) W) (Tip.tok 1),
        AV.sl 1 (Seq.map T.encSn T.noEv S) (Tip.tok 2)],
        AObj.tok, AObj.tok, AObj.cells [AV.int IntKind.i64 k, AV.int IntKind.i64 n, AV.int IntKind.i64 a, AV.int IntKind.u8 y, AV.str nm],
        AObj.cells
        [AV.int IntKind.i64 (0 : Int), AV.sl 0 (Seq.raw []) Tip.nil, AV.int IntKind.i64 (0 : Int), AV.int IntKind.i64 (0 : Int), AV.sl 0 (Seq.raw []) Tip.nil]] ∧
        Post
        (AV.tup
        [AV.agg
        [AV.int IntKind.i64 (Prod.fst (Prod.fst x)), AV.sl 2 (Seq.map T.encN ([], []) (Prod.fst (Prod.snd (Prod.fst x)))) Tip.none,
        AV.int IntKind.i64 (Prod.fst (Prod.snd (Prod.snd (Prod.fst x)))), AV.int IntKind.i64 (Prod.fst (Prod.snd (Prod.snd (Prod.snd (Prod.fst x))))),
        AV.sl 1 (Seq.map encB (0 : UInt8) (Prod.snd (Prod.snd (Prod.snd (Prod.snd (Prod.fst x)))))) Tip.none],
        AV.bool (Prod.snd x)])
        [AObj.cells
        [AV.sl 2 (Seq.map T.encEn ([], []) D) Tip.none, AV.sl 2 (Seq.map T.encIt ((0 : Int), []) W) (Tip.tok 1),
        AV.sl 1 (Seq.map T.encSn T.noEv S) (Tip.tok 2)],
        AObj.tok, AObj.tok, AObj.cells [AV.int IntKind.i64 k, AV.int IntKind.i64 n, AV.int IntKind.i64 a, AV.int IntKind.u8 y, AV.str nm],
        AObj.cells
        [AV.int IntKind.i64 (Prod.fst (Prod.fst x)), AV.sl 2 (Seq.map T.encN ([], []) (Prod.fst (Prod.snd (Prod.fst x)))) Tip.none,
        AV.int IntKind.i64 (Prod.fst (Prod.snd (Prod.snd (Prod.fst x)))), AV.int IntKind.i64 (Prod.fst (Prod.snd (Prod.snd (Prod.snd (Prod.fst x))))),
        AV.sl 1 (Seq.map encB (0 : UInt8) (Prod.snd (Prod.snd (Prod.snd (Prod.snd (Prod.fst x)))))) Tip.none]])
        (condP (k == (3 : Int))
        (ASpec Try.prog 51 [AV.ptr 0 0, AV.int IntKind.i64 n, AV.int IntKind.i64 a]
        [AObj.cells
        [AV.sl 2 (Seq.map T.encEn ([], []) D) Tip.none, AV.sl 2 (Seq.map T.encIt ((0 : Int), []) W) (Tip.tok 1),
        AV.sl 1 (Seq.map T.encSn T.noEv S) (Tip.tok 2)],
        AObj.tok, AObj.tok, AObj.cells [AV.int IntKind.i64 k, AV.int IntKind.i64 n, AV.int IntKind.i64 a, AV.int IntKind.u8 y, AV.str nm],
        AObj.cells [AV.int IntKind.i64 (0 : Int), AV.sl 0 (Seq.raw []) Tip.nil, AV.int IntKind.i64 (0 : Int), AV.int IntKind.i64 (0 : Int), AV.sl 0 (Seq.raw []) Tip.nil]]
        fun (r : AV) (H' : List AObj) =>
        (∃ (x : T.Ev × Bool × List T.Item × List T.Ev),
        r =
        AV.tup
        [AV.agg
        [AV.int IntKind.i64 (Prod.fst (Prod.fst x)), AV.sl 2 (Seq.map T.encN ([], []) (Prod.fst (Prod.snd (Prod.fst x)))) Tip.none,
        AV.int IntKind.i64 (Prod.fst (Prod.snd (Prod.snd (Prod.fst x)))), AV.int IntKind.i64 (Prod.fst (Prod.snd (Prod.snd (Prod.snd (Prod.fst x))))),
        AV.sl 1 (Seq.map encB (0 : UInt8) (Prod.snd (Prod.snd (Prod.snd (Prod.snd (Prod.fst x)))))) Tip.none],
        AV.bool (Prod.fst (Prod.snd x))] ∧
        H' =
        [AObj.cells
        [AV.sl 2 (Seq.map T.encEn ([], []) D) Tip.none, AV.sl 2 (Seq.map T.encIt ((0 : Int), []) (Prod.fst (Prod.snd (Prod.snd x)))) (Tip.tok 5),
        AV.sl 1 (Seq.map T.encSn T.noEv (Prod.snd (Prod.snd (Prod.snd x)))) (Tip.tok 6)],
        AObj.gone, AObj.gone, AObj.cells [AV.int IntKind.i64 k, AV.int IntKind.i64 n, AV.int IntKind.i64 a, AV.int IntKind.u8 y, AV.str nm],
        AObj.cells
        [AV.int IntKind.i64 (0 : Int), AV.sl 0 (Seq.raw []) Tip.nil, AV.int IntKind.i64 (0 : Int), AV.int IntKind.i64 (0 : Int), AV.sl 0 (Seq.raw []) Tip.nil],
        AObj.tok, AObj.tok] ∧
        Post
        (AV.tup
        [AV.agg
        [AV.int IntKind.i64 (Prod.fst (Prod.fst x)), AV.sl 2 (Seq.map T.encN ([], []) (Prod.fst (Prod.snd (Prod.fst x)))) Tip.none,
        AV.int IntKind.i64 (Prod.fst (Prod.snd (Prod.snd (Prod.fst x)))), AV.int IntKind.i64 (Prod.fst (Prod.snd (Prod.snd (Prod.snd (Prod.fst x))))),
        AV.sl 1 (Seq.map encB (0 : UInt8) (Prod.snd (Prod.snd (Prod.snd (Prod.snd (Prod.fst x)))))) Tip.none],
        AV.bool (Prod.fst (Prod.snd x))])
        [AObj.cells
        [AV.sl 2 (Seq.map T.encEn ([], []) D) Tip.none, AV.sl 2 (Seq.map T.encIt ((0 : Int), []) (Prod.fst (Prod.snd (Prod.snd x)))) (Tip.tok 5),
        AV.sl 1 (Seq.map T.encSn T.noEv (Prod.snd (Prod.snd (Prod.snd x)))) (Tip.tok 6)],
        AObj.gone, AObj.gone, AObj.cells [AV.int IntKind.i64 k, AV.int IntKind.i64 n, AV.int IntKind.i64 a, AV.int IntKind.u8 y, AV.str nm],
        AObj.cells
        [AV.int IntKind.i64 (Prod.fst (Prod.fst x)), AV.sl 2 (Seq.map T.encN ([], []) (Prod.fst (Prod.snd (Prod.fst x)))) Tip.none,
        AV.int IntKind.i64 (Prod.fst (Prod.snd (Prod.snd (Prod.fst x)))), AV.int IntKind.i64 (Prod.fst (Prod.snd (Prod.snd (Prod.snd (Prod.fst x))))),
        AV.sl 1 (Seq.map encB (0 : UInt8) (Prod.snd (Prod.snd (Prod.snd (Prod.snd (Prod.fst x)))))) Tip.none],
        AObj.tok, AObj.tok]) ∨
        ∃ (x : T.Ev × Bool),
        r =
        AV.tup
        [AV.agg
        [AV.int IntKind.i64 (Prod.fst (Prod.fst x)), AV.sl 2 (Seq.map T.encN ([], []) (Prod.fst (Prod.snd (Prod.fst x)))) Tip.none,
        AV.int IntKind.i64 (Prod.fst (Prod.snd (Prod.snd (Prod.fst x)))), AV.int IntKind.i64 (Prod.fst (Prod.snd (Prod.snd (Prod.snd (Prod.fst x))))),
        AV.sl 1 (Seq.map encB (0 : UInt8) (Prod.snd (Prod.snd (Prod.snd (Prod.snd (Prod.fst x)))))) Tip.none],
        AV.bool (Prod.snd x)] ∧
        H' =
        [AObj.cells
        [AV.sl 2 (Seq.map T.encEn ([], []) D) Tip.none, AV.sl 2 (Seq.map T.encIt ((0 : Int), []) W) (Tip.tok 1),
        AV.sl 1 (Seq.map T.encSn T.noEv S) (Tip.tok 2)],
        AObj.tok, AObj.tok, AObj.cells [AV.int IntKind.i64 k, AV.int IntKind.i64 n, AV.int IntKind.i64 a, AV.int IntKind.u8 y, AV.str nm],
        AObj.cells
        [AV.int IntKind.i64 (0 : Int), AV.sl 0 (Seq.raw []) Tip.nil, AV.int IntKind.i64 (0 : Int), AV.int IntKind.i64 (0 : Int), AV.sl 0 (Seq.raw []) Tip.nil]] ∧
        Post
        (AV.tup
        [AV.agg
        [AV.int IntKind.i64 (Prod.fst (Prod.fst x)), AV.sl 2 (Seq.map T.encN ([], []) (Prod.fst (Prod.snd (Prod.fst x)))) Tip.none,
        AV.int IntKind.i64 (Prod.fst (Prod.snd (Prod.snd (Prod.fst x)))), AV.int IntKind.i64 (Prod.fst (Prod.snd (Prod.snd (Prod.snd (Prod.fst x))))),
        AV.sl 1 (Seq.map encB (0 : UInt8) (Prod.snd (Prod.snd (Prod.snd (Prod.snd (Prod.fst x)))))) Tip.none],
        AV.bool (Prod.snd x)])
        [AObj.cells
        [AV.sl 2 (Seq.map T.encEn ([], []) D) Tip.none, AV.sl 2 (Seq.map T.encIt ((0 : Int), []) W) (Tip.tok 1),
        AV.sl 1 (Seq.map T.encSn T.noEv S) (Tip.tok 2)],
        AObj.tok, AObj.tok, AObj.cells [AV.int IntKind.i64 k, AV.int IntKind.i64 n, AV.int IntKind.i64 a, AV.int IntKind.u8 y, AV.str nm],
        AObj.cells
        [AV.int IntKind.i64 (Prod.fst (Prod.fst x)), AV.sl 2 (Seq.map T.encN ([], []) (Prod.fst (Prod.snd (Prod.fst x)))) Tip.none,
        AV.int IntKind.i64 (Prod.fst (Prod.snd (Prod.snd (Prod.fst x)))), AV.int IntKind.i64 (Prod.fst (Prod.snd (Prod.snd (Prod.snd (Prod.fst x))))),
        AV.sl 1 (Seq.map encB (0 : UInt8) (Prod.snd (Prod.snd (Prod.snd (Prod.snd (Prod.fst x)))))) Tip.none]])
        (condP (k == (4 : Int))
        (ASpec Try.prog 52 [AV.ptr 0 0, AV.int IntKind.i64 n]
        [AObj.cells
        [AV.sl 2 (Seq.map T.encEn ([], []) D) Tip.none, AV.sl 2 (Seq.map T.encIt ((0 : Int), []) W) (Tip.tok 1),
        AV.sl 1 (Seq.map T.encSn T.noEv S) (Tip.tok 2)],
        AObj.tok, AObj.tok, AObj.cells [AV.int IntKind.i64 k, AV.int IntKind.i64 n, AV.int IntKind.i64 a, AV.int IntKind.u8 y, AV.str nm],
        AObj.cells [AV.int IntKind.i64 (0 : Int), AV.sl 0 (Seq.raw []) Tip.nil, AV.int IntKind.i64 (0 : Int), AV.int IntKind.i64 (0 : Int), AV.sl 0 (Seq.raw []) Tip.nil]]
        fun (r : AV) (H' : List AObj) =>
        (∃ (x : T.Ev × Bool × List T.Item),
        r =
        AV.tup
        [AV.agg
        [AV.int IntKind.i64 (Prod.fst (Prod.fst x)), AV.sl 2 (Seq.map T.encN ([], []) (Prod.fst (Prod.snd (Prod.fst x)))) Tip.none,
        AV.int IntKind.i64 (Prod.fst (Prod.snd (Prod.snd (Prod.fst x)))), AV.int IntKind.i64 (Prod.fst (Prod.snd (Prod.snd (Prod.snd (Prod.fst x))))),
        AV.sl 1 (Seq.map encB (0 : UInt8) (Prod.snd (Prod.snd (Prod.snd (Prod.snd (Prod.fst x)))))) Tip.none],
        AV.bool (Prod.fst (Prod.snd x))] ∧
        H' =
        [AObj.cells
        [AV.sl 2 (Seq.map T.encEn ([], []) D) Tip.none, AV.sl 2 (Seq.map T.encIt ((0 : Int), []) (Prod.snd (Prod.snd x))) (Tip.tok 5),
        AV.sl 1 (Seq.map T.encSn T.noEv S) (Tip.tok 2)],
        AObj.gone, AObj.tok, AObj.cells [AV.int IntKind.i64 k, AV.int IntKind.i64 n, AV.int IntKind.i64 a, AV.int IntKind.u8 y, AV.str nm],
        AObj.cells
        [AV.int IntKind.i64 (0 : Int), AV.sl 0 (Seq.raw []) Tip.nil, AV.int IntKind.i64 (0 : Int), AV.int IntKind.i64 (0 : Int), AV.sl 0 (Seq.raw []) Tip.nil],
        AObj.tok] ∧
        Post
        (AV.tup
        [AV.agg
        [AV.int IntKind.i64 (Prod.fst (Prod.fst x)), AV.sl 2 (Seq.map T.encN ([], []) (Prod.fst (Prod.snd (Prod.fst x)))) Tip.none,
        AV.int IntKind.i64 (Prod.fst (Prod.snd (Prod.snd (Prod.fst x)))), AV.int IntKind.i64 (Prod.fst (Prod.snd (Prod.snd (Prod.snd (Prod.fst x))))),
        AV.sl 1 (Seq.map encB (0 : UInt8) (Prod.snd (Prod.snd (Prod.snd (Prod.snd (Prod.fst x)))))) Tip.none],
        AV.bool (Prod.fst (Prod.snd x))])
        [AObj.cells
        [AV.sl 2 (Seq.map T.encEn ([], []) D) Tip.none, AV.sl 2 (Seq.map T.encIt ((0 : Int), []) (Prod.snd (Prod.snd x))) (Tip.tok 5),
        AV.sl 1 (Seq.map T.encSn T.noEv S) (Tip.tok 2)],
        AObj.gone, AObj.tok, AObj.cells [AV.int IntKind.i64 k, AV.int IntKind.i64 n, AV.int IntKind.i64 a, AV.int IntKind.u8 y, AV.str nm],
        AObj.cells
        [AV.int IntKind.i64 (Prod.fst (Prod.fst x)), AV.sl 2 (Seq.map T.encN ([], []) (Prod.fst (Prod.snd (Prod.fst x)))) Tip.none,
        AV.int IntKind.i64 (Prod.fst (Prod.snd (Prod.snd (Prod.fst x)))), AV.int IntKind.i64 (Prod.fst (Prod.snd (Prod.snd (Prod.snd (Prod.fst x))))),
        AV.sl 1 (Seq.map encB (0 : UInt8) (Prod.snd (Prod.snd (Prod.snd (Prod.snd (Prod.fst x)))))) Tip.none],
        AObj.tok]) ∨
        ∃ (x : T.Ev × Bool),
        r =
        AV.tup
        [AV.agg
        [AV.int IntKind.i64 (Prod.fst (Prod.fst x)), AV.sl 2 (Seq.map T.encN ([], []) (Prod.fst (Prod.snd (Prod.fst x)))) Tip.none,
        AV.int IntKind.i64 (Prod.fst (Prod.snd (Prod.snd (Prod.fst x)))), AV.int IntKind.i64 (Prod.fst (Prod.snd (Prod.snd (Prod.snd (Prod.fst x))))),
        AV.sl 1 (Seq.map encB (0 : UInt8) (Prod.snd (Prod.snd (Prod.snd (Prod.snd (Prod.fst x)))))) Tip.none],
        AV.bool (Prod.snd x)] ∧
        H' =
        [AObj.cells
        [AV.sl 2 (Seq.map T.encEn ([], []) D) Tip.none, AV.sl 2 (Seq.map T.encIt ((0 : Int), []) W) (Tip.tok 1),
        AV.sl 1 (Seq.map T.encSn T.noEv S) (Tip.tok 2)],
        AObj.tok, AObj.tok, AObj.cells [AV.int IntKind.i64 k, AV.int IntKind.i64 n, AV.int IntKind.i64 a, AV.int IntKind.u8 y, AV.str nm],
        AObj.cells
        [AV.int IntKind.i64 (0 : Int), AV.sl 0 (Seq.raw []) Tip.nil, AV.int IntKind.i64 (0 : Int), AV.int IntKind.i64 (0 : Int), AV.sl 0 (Seq.raw []) Tip.nil]] ∧
        Post
        (AV.tup
        [AV.agg
        [AV.int IntKind.i64 (Prod.fst (Prod.fst x)), AV.sl 2 (Seq.map T.encN ([], []) (Prod.fst (Prod.snd (Prod.fst x)))) Tip.none,
        AV.int IntKind.i64 (Prod.fst (Prod.snd (Prod.snd (Prod.fst x)))), AV.int IntKind.i64 (Prod.fst (Prod.snd (Prod.snd (Prod.snd (Prod.fst x))))),
        AV.sl 1 (Seq.map encB (0 : UInt8) (Prod.snd (Prod.snd (Prod.snd (Prod.snd (Prod.fst x)))))) Tip.none],
        AV.bool (Prod.snd x)])
        [AObj.cells
        [AV.sl 2 (Seq.map T.encEn ([], []) D) Tip.none, AV.sl 2 (Seq.map T.encIt ((0 : Int), []) W) (Tip.tok 1),
        AV.sl 1 (Seq.map T.encSn T.noEv S) (Tip.tok 2)],
        AObj.tok, AObj.tok, AObj.cells [AV.int IntKind.i64 k, AV.int IntKind.i64 n, AV.int IntKind.i64 a, AV.int IntKind.u8 y, AV.str nm],
        AObj.cells
        [AV.int IntKind.i64 (Prod.fst (Prod.fst x)), AV.sl 2 (Seq.map T.encN ([], []) (Prod.fst (Prod.snd (Prod.fst x)))) Tip.none,
        AV.int IntKind.i64 (Prod.fst (Prod.snd (Prod.snd (Prod.fst x)))), AV.int IntKind.i64 (Prod.fst (Prod.snd (Prod.snd (Prod.snd (Prod.fst x))))),
        AV.sl 1 (Seq.map encB (0 : UInt8) (Prod.snd (Prod.snd (Prod.snd (Prod.snd (Prod.fst x)))))) Tip.none]])
        (ASpec Try.prog 46 [AV.ptr 0 0, AV.int IntKind.i64 n]
        [AObj.cells
        [AV.sl 2 (Seq.map T.encEn ([], []) D) Tip.none, AV.sl 2 (Seq.map T.encIt ((0 : Int), []) W) (Tip.tok 1),
        AV.sl 1 (Seq.map T.encSn T.noEv S) (Tip.tok 2)],
        AObj.tok, AObj.tok, AObj.cells [AV.int IntKind.i64 k, AV.int IntKind.i64 n, AV.int IntKind.i64 a, AV.int IntKind.u8 y, AV.str nm],
        AObj.cells [AV.int IntKind.i64 (0 : Int), AV.sl 0 (Seq.raw []) Tip.nil, AV.int IntKind.i64 (0 : Int), AV.int IntKind.i64 (0 : Int), AV.sl 0 (Seq.raw []) Tip.nil]]
        fun (r : AV) (H' : List AObj) =>
        ∃ (x : T.Ev × Bool),
        r =
        AV.tup
        [AV.agg
        [AV.int IntKind.i64 (Prod.fst (Prod.fst x)), AV.sl 2 (Seq.map T.encN ([], []) (Prod.fst (Prod.snd (Prod.fst x)))) Tip.none,
        AV.int IntKind.i64 (Prod.fst (Prod.snd (Prod.snd (Prod.fst x)))), AV.int IntKind.i64 (Prod.fst (Prod.snd (Prod.snd (Prod.snd (Prod.fst x))))),
        AV.sl 1 (Seq.map encB (0 : UInt8) (Prod.snd (Prod.snd (Prod.snd (Prod.snd (Prod.fst x)))))) Tip.none],
        AV.bool (Prod.snd x)] ∧
        H' =
        [AObj.cells
        [AV.sl 2 (Seq.map T.encEn ([], []) D) Tip.none, AV.sl 2 (Seq.map T.encIt ((0 : Int), []) W) (Tip.tok 1),
        AV.sl 1 (Seq.map T.encSn T.noEv S) (Tip.tok 2)],
        AObj.tok, AObj.tok, AObj.cells [AV.int IntKind.i64 k, AV.int IntKind.i64 n, AV.int IntKind.i64 a, AV.int IntKind.u8 y, AV.str nm],
        AObj.cells
        [AV.int IntKind.i64 (0 : Int), AV.sl 0 (Seq.raw []) Tip.nil, AV.int IntKind.i64 (0 : Int), AV.int IntKind.i64 (0 : Int), AV.sl 0 (Seq.raw []) Tip.nil]] ∧
        Post
        (AV.tup
        [AV.agg
        [AV.int IntKind.i64 (Prod.fst (Prod.fst x)), AV.sl 2 (Seq.map T.encN ([], []) (Prod.fst (Prod.snd (Prod.fst x)))) Tip.none,
        AV.int IntKind.i64 (Prod.fst (Prod.snd (Prod.snd (Prod.fst x)))), AV.int IntKind.i64 (Prod.fst (Prod.snd (Prod.snd (Prod.snd (Prod.fst x))))),
        AV.sl 1 (Seq.map encB (0 : UInt8) (Prod.snd (Prod.snd (Prod.snd (Prod.snd (Prod.fst x)))))) Tip.none],
        AV.bool (Prod.snd x)])
        [AObj.cells
        [AV.sl 2 (Seq.map T.encEn ([], []) D) Tip.none, AV.sl 2 (Seq.map T.encIt ((0 : Int), []) W) (Tip.tok 1),
        AV.sl 1 (Seq.map T.encSn T.noEv S) (Tip.tok 2)],
        AObj.tok, AObj.tok, AObj.cells [AV.int IntKind.i64 k, AV.int IntKind.i64 n, AV.int IntKind.i64 a, AV.int IntKind.u8 y, AV.str nm],
        AObj.cells
        [AV.int IntKind.i64 (Prod.fst (Prod.fst x)), AV.sl 2 (Seq.map T.encN ([], []) (Prod.fst (Prod.snd (Prod.fst x)))) Tip.none,
        AV.int IntKind.i64 (Prod.fst (Prod.snd (Prod.snd (Prod.fst x)))), AV.int IntKind.i64 (Prod.fst (Prod.snd (Prod.snd (Prod.snd (Prod.fst x))))),
        AV.sl 1 (Seq.map encB (0 : UInt8) (Prod.snd (Prod.snd (Prod.snd (Prod.snd (Prod.fst x)))))) Tip.none]]))))) →
    ASpec Try.prog 54 [AV.ptr 0 0, AV.agg [AV.int IntKind.i64 k, AV.int IntKind.i64 n, AV.int IntKind.i64 a, AV.int IntKind.u8 y, AV.str nm]] (T.HS D W S) Post := fun D W S k n a y nm Post h => Go.Ab.ASpec.of_vc g54 Go.Proofs.Try.func54 (by kernel_rfl) (by kernel_rfl) (by kernel_rfl) (Go.Ab.kc (by kernel_rfl) h)

end
end Sy
end

section
/- Printed: what the code of functions 6 asks for, by the framework's own reading of it; each line is checked against the code. -/

set_option linter.unusedVariables false
set_option maxRecDepth 100000
set_option maxHeartbeats 4000000
open Go Go.Ab Go.Proofs
namespace Sl
noncomputable section

noncomputable def HL (D : List T.Ent) (W : List T.Item) (S : List T.Ev) (W' : List T.Item) (S' : List T.Ev) : List AObj := [T.stO D W S 1 2, .tok, .tok, T.xO D W' S' 4 5, .tok, .tok]
noncomputable def rets : FuncId → List Ret := fun f => match lookupR Sx.retX f with
  | [] => Sy.rets f
  | l => l

-- 6
noncomputable def l6 : Nat → List Nat
  | 8 => [5, 7]
  | 9 => [5, 7, 9]
  | 10 => [5, 7, 9, 11]
  | 11 => [5, 7, 9, 11, 13]
  | 12 => [5, 7, 9, 11, 13, 15]
  | 13 => [5, 7, 9, 11, 13, 15, 18]
  | 16 => [1, 5, 19, 20]
  | 20 => [1, 5, 19, 20, 21, 22]
  | 21 => [1, 5, 19, 20, 21, 22, 23, 24]
  | 22 => [1, 5, 19, 20, 21, 22, 23, 24, 25, 26, 27]
  | 23 => [1, 5, 19, 20, 21, 22, 23, 24, 25, 26, 27, 28, 29, 30]
  | _ => []
noncomputable def u6 : Nat → Bool
  | 8 => true
  | 9 => true
  | 10 => true
  | 11 => true
  | 12 => true
  | 13 => true
  | 20 => true
  | 21 => true
  | 22 => true
  | 23 => true
  | _ => false
noncomputable def m6 : Nat → Bool
  | _ => false
noncomputable def g6 : Cfg := { N := 215, live := l6, cut := u6, mu := m6, ret := rets }
noncomputable def c6 : Go.Code := Go.Ab.bodyOf Go.Proofs.Try.f6
noncomputable def q6_0 : Nat → (AV → List AObj → Prop) → AQ := fun (n : Nat) (Post : AV → List AObj → Prop) => endQ Try.prog (resultsOf Try.f6) Post
noncomputable def q6_1 : Nat → (AV → List AObj → Prop) → AQ := fun (n : Nat) (Post : AV → List AObj → Prop) => seqQ (fun (s' : Slots) (H' : List AObj) => awp Try.prog g6 n (codeSnd (codeSnd (codeSnd (codeSnd (codeSnd c6))))) s' H' (q6_0 n Post)) (q6_0 n Post)
noncomputable def q6_2 : Nat → (AV → List AObj → Prop) → AQ := fun (n : Nat) (Post : AV → List AObj → Prop) => seqQ (fun (s' : Slots) (H' : List AObj) => awp Try.prog g6 n (codeSnd (codeSnd (codeSnd (codeSnd (codeSnd (codeSnd (codeSnd c6))))))) s' H' (q6_0 n Post)) (q6_0 n Post)
noncomputable def q6_3 : Nat → (AV → List AObj → Prop) → AQ := fun (n : Nat) (Post : AV → List AObj → Prop) => blockQ 0 (q6_2 n Post)
noncomputable def c6_16 : Go.Code := codeFst (codeSnd (codeFst (codeSnd (codeSnd (codeSnd (codeSnd (codeSnd (codeSnd c6))))))))
noncomputable def c6_8 : Go.Code := codeSnd (codeFst (codeSnd (codeFst (codeSnd (codeSnd (codeSnd (codeSnd c6)))))))
theorem s6 : ∀ (l : List T.Ent) (m : List T.Do) (Post : AV → List AObj → Prop),
  (ASpec Try.prog 37 [AV.sl 2 (Seq.map T.encEn ([], []) l) Tip.none] [] fun (r : AV) (H' : List AObj) =>
      ∃ (x : Bool),
        r = AV.bool x ∧
        H' = [] ∧
        condP x (ASpec Try.prog 40 [] [] fun (r : AV) (H' : List AObj) => ∃ (x : Unit), r = AV.bool true ∧ H' = [] ∧ Post (AV.bool true) [])
        (ASpec Try.prog 50 [AV.sl 5 (Seq.map T.encDo T.noDo m) Tip.none] [] fun (r : AV) (H' : List AObj) =>
        ∃ (x : Bool),
        r = AV.bool x ∧
        H' = [] ∧
        condP x (ASpec Try.prog 40 [] [] fun (r : AV) (H' : List AObj) => ∃ (x : Unit), r = AV.bool true ∧ H' = [] ∧ Post (AV.bool true) [])
        (ASpec Try.prog 41 [AV.sl 2 (Seq.map T.encEn ([], []) l) Tip.none] [] fun (r : AV) (H' : List AObj) =>
        (∃ (x : List T.Ent),
        r = AV.ptr 0 0 ∧
        H' =
        [AObj.cells
        [AV.sl 2 (Seq.map T.encEn ([], []) x) Tip.none, AV.sl 2 (Seq.map T.encIt ((0 : Int), []) []) (Tip.tok 1),
        AV.sl 1 (Seq.map T.encSn T.noEv []) (Tip.tok 2)],
        AObj.tok, AObj.tok] ∧
        ASpec Try.prog 38 [AV.sl 2 (Seq.map T.encEn ([], []) l) Tip.none]
        [AObj.cells
        [AV.sl 2 (Seq.map T.encEn ([], []) x) Tip.none, AV.sl 2 (Seq.map T.encIt ((0 : Int), []) []) (Tip.tok 1),
        AV.sl 1 (Seq.map T.encSn T.noEv []) (Tip.tok 2)],
        AObj.tok, AObj.tok]
        fun (r : AV) (H' : List AObj) =>
        ∃ (x_1 : Bool),
        r = AV.bool x_1 ∧
        H' =
        [AObj.cells
        [AV.sl 2 (Seq.map T.encEn ([], []) x) Tip.none, AV.sl 2 (Seq.map T.encIt ((0 : Int), []) []) (Tip.tok 1),
        AV.sl 1 (Seq.map T.encSn T.noEv []) (Tip.tok 2)],
        AObj.tok, AObj.tok] ∧
        condP (!false == !x_1)
        (Post (AV.bool false)
        [AObj.cells
        [AV.sl 2 (Seq.map T.encEn ([], []) x) Tip.none, AV.sl 2 (Seq.map T.encIt ((0 : Int), []) []) (Tip.tok 1),
        AV.sl 1 (Seq.map T.encSn T.noEv []) (Tip.tok 2)],
        AObj.tok, AObj.tok])
        (AWP Try.prog 215 0 c6_16
        [(1, AV.sl 5 (Seq.map T.encDo T.noDo m) Tip.none), (5, AV.ptr 0 0), (19, AV.ptr 3 0),
        (20, AV.int IntKind.i64 (0 : Int))]
        [AObj.cells
        [AV.sl 2 (Seq.map T.encEn ([], []) x) Tip.none, AV.sl 2 (Seq.map T.encIt ((0 : Int), []) []) (Tip.tok 1),
        AV.sl 1 (Seq.map T.encSn T.noEv []) (Tip.tok 2)],
        AObj.tok, AObj.tok,
        AObj.cells [AV.sl 2 (Seq.map T.encEn ([], []) l) Tip.none, AV.sl 0 (Seq.raw []) Tip.nil, AV.sl 0 (Seq.raw []) Tip.nil]]
        (q6_3 0 Post))) ∨
        ∃ (x : Unit),
        r = AV.nilp ∧
        H' = [] ∧
        ASpec Try.prog 38 [AV.sl 2 (Seq.map T.encEn ([], []) l) Tip.none] [] fun (r : AV) (H' : List AObj) =>
        ∃ (x : Bool),
        r = AV.bool x ∧
        H' = [] ∧
        condP (!true == !x) (Post (AV.bool false) [])
        (ASpec Try.prog 43 [AV.nilp, AV.int IntKind.i64 (0 : Int)] [] fun (r : AV) (H' : List AObj) =>
        (∃ (x : T.Ev × Bool × List T.Item × List T.Ev),
        r =
        AV.tup
        [AV.agg
        [AV.int IntKind.i64 (Prod.fst (Prod.fst x)), AV.sl 2 (Seq.map T.encN ([], []) (Prod.fst (Prod.snd (Prod.fst x)))) Tip.none,
        AV.int IntKind.i64 (Prod.fst (Prod.snd (Prod.snd (Prod.fst x)))),
        AV.int IntKind.i64 (Prod.fst (Prod.snd (Prod.snd (Prod.snd (Prod.fst x))))),
        AV.sl 1 (Seq.map encB (0 : UInt8) (Prod.snd (Prod.snd (Prod.snd (Prod.snd (Prod.fst x)))))) Tip.none],
        AV.bool (Prod.fst (Prod.snd x))] ∧
        H' = [] ∧
        AWP Try.prog 215 0 c6_8 [(5, AV.nilp), (7, AV.bool (Prod.fst (Prod.snd x)))]
        [AObj.cells
        [AV.int IntKind.i64 (Prod.fst (Prod.fst x)), AV.sl 2 (Seq.map T.encN ([], []) (Prod.fst (Prod.snd (Prod.fst x)))) Tip.none,
        AV.int IntKind.i64 (Prod.fst (Prod.snd (Prod.snd (Prod.fst x)))),
        AV.int IntKind.i64 (Prod.fst (Prod.snd (Prod.snd (Prod.snd (Prod.fst x))))),
        AV.sl 1 (Seq.map encB (0 : UInt8) (Prod.snd (Prod.snd (Prod.snd (Prod.snd (Prod.fst x)))))) Tip.none]]
        (q6_1 0 Post)) ∨
        ∃ (x : T.Ev × Bool),
        r =
        AV.tup
        [AV.agg
        [AV.int IntKind.i64 (Prod.fst (Prod.fst x)), AV.sl 2 (Seq.map T.encN ([], []) (Prod.fst (Prod.snd (Prod.fst x)))) Tip.none,
        AV.int IntKind.i64 (Prod.fst (Prod.snd (Prod.snd (Prod.fst x)))),
        AV.int IntKind.i64 (Prod.fst (Prod.snd (Prod.snd (Prod.snd (Prod.fst x))))),
        AV.sl 1 (Seq.map encB (0 : UInt8) (Prod.snd (Prod.snd (Prod.snd (Prod.snd (Prod.fst x)))))) Tip.none],
        AV.bool (Prod.snd x)] ∧
        H' = [] ∧
        AWP Try.prog 215 0 c6_8 [(5, AV.nilp), (7, AV.bool (Prod.snd x))]
        [AObj.cells
        [AV.int IntKind.i64 (Prod.fst (Prod.fst x)), AV.sl 2 (Seq.map T.encN ([], []) (Prod.fst (Prod.snd (Prod.fst x)))) Tip.none,
        AV.int IntKind.i64 (Prod.fst (Prod.snd (Prod.snd (Prod.fst x)))),
        AV.int IntKind.i64 (Prod.fst (Prod.snd (Prod.snd (Prod.snd (Prod.fst x))))),
        AV.sl 1 (Seq.map encB (0 : UInt8) (Prod.snd (Prod.snd (Prod.snd (Prod.snd (Prod.fst x)))))) Tip.none]]
        (q6_1 0 Post))))) →
    ASpec Try.prog 6 [AV.sl 2 (Seq.map T.encEn ([], []) l) Tip.none, AV.sl 5 (Seq.map T.encDo T.noDo m) Tip.none] [] Post := fun l m Post h => Go.Ab.ASpec.of_vc g6 Go.Proofs.Try.func6 (by kernel_rfl) (by kernel_rfl) (by kernel_rfl) (Go.Ab.kc (by kernel_rfl) h)
noncomputable def c6_9 : Go.Code := codeSnd c6_8
theorem v6_8 : ∀ (a : Bool) (n : Nat) (Post : AV → List AObj → Prop),
  (ASpec Try.prog 44 [AV.nilp, AV.int IntKind.i64 (0 : Int), AV.int IntKind.i64 (0 : Int), AV.int IntKind.u8 (0 : Int)] [] fun (r : AV) (H' : List AObj) =>
      (∃ (x : T.Ev × Bool × List T.Item × List T.Ev),
        r =
        AV.tup
        [AV.agg
        [AV.int IntKind.i64 (Prod.fst (Prod.fst x)), AV.sl 2 (Seq.map T.encN ([], []) (Prod.fst (Prod.snd (Prod.fst x)))) Tip.none,
        AV.int IntKind.i64 (Prod.fst (Prod.snd (Prod.snd (Prod.fst x)))), AV.int IntKind.i64 (Prod.fst (Prod.snd (Prod.snd (Prod.snd (Prod.fst x))))),
        AV.sl 1 (Seq.map encB (0 : UInt8) (Prod.snd (Prod.snd (Prod.snd (Prod.snd (Prod.fst x)))))) Tip.none],
        AV.bool (Prod.fst (Prod.snd x))] ∧
        H' = [] ∧
        AWP Try.prog 215 n c6_9 [(5, AV.nilp), (7, AV.bool a), (9, AV.bool (Prod.fst (Prod.snd x)))]
        [AObj.cells
        [AV.int IntKind.i64 (Prod.fst (Prod.fst x)), AV.sl 2 (Seq.map T.encN ([], []) (Prod.fst (Prod.snd (Prod.fst x)))) Tip.none,
        AV.int IntKind.i64 (Prod.fst (Prod.snd (Prod.snd (Prod.fst x)))), AV.int IntKind.i64 (Prod.fst (Prod.snd (Prod.snd (Prod.snd (Prod.fst x))))),
        AV.sl 1 (Seq.map encB (0 : UInt8) (Prod.snd (Prod.snd (Prod.snd (Prod.snd (Prod.fst x)))))) Tip.none]]
        (q6_1 n Post)) ∨
        ∃ (x : T.Ev × Bool),
        r =
        AV.tup
        [AV.agg
        [AV.int IntKind.i64 (Prod.fst (Prod.fst x)), AV.sl 2 (Seq.map T.encN ([], []) (Prod.fst (Prod.snd (Prod.fst x)))) Tip.none,
        AV.int IntKind.i64 (Prod.fst (Prod.snd (Prod.snd (Prod.fst x)))), AV.int IntKind.i64 (Prod.fst (Prod.snd (Prod.snd (Prod.snd (Prod.fst x))))),
        AV.sl 1 (Seq.map encB (0 : UInt8) (Prod.snd (Prod.snd (Prod.snd (Prod.snd (Prod.fst x)))))) Tip.none],
        AV.bool (Prod.snd x)] ∧
        H' = [] ∧
        AWP Try.prog 215 n c6_9 [(5, AV.nilp), (7, AV.bool a), (9, AV.bool (Prod.snd x))]
        [AObj.cells
        [AV.int IntKind.i64 (Prod.fst (Prod.fst x)), AV.sl 2 (Seq.map T.encN ([], []) (Prod.fst (Prod.snd (Prod.fst x)))) Tip.none,
        AV.int IntKind.i64 (Prod.fst (Prod.snd (Prod.snd (Prod.fst x)))), AV.int IntKind.i64 (Prod.fst (Prod.snd (Prod.snd (Prod.snd (Prod.fst x))))),
        AV.sl 1 (Seq.map encB (0 : UInt8) (Prod.snd (Prod.snd (Prod.snd (Prod.snd (Prod.fst x)))))) Tip.none]]
        (q6_1 n Post)) →
    AWP Try.prog 215 n c6_8 [(5, AV.nilp), (7, AV.bool a)] [] (q6_1 n Post) := fun a n Post h => Go.Ab.awp_sound g6 n _ _ _ _ (Go.Ab.kc (by kernel_rfl) h)
noncomputable def c6_10 : Go.Code := codeSnd c6_9
theorem v6_9 : ∀ (a b : Bool) (n : Nat) (Post : AV → List AObj → Prop),
  (ASpec Try.prog 51 [AV.nilp, AV.int IntKind.i64 (0 : Int), AV.int IntKind.i64 (0 : Int)] [] fun (r : AV) (H' : List AObj) =>
      (∃ (x : T.Ev × Bool × List T.Item × List T.Ev),
        r =
        AV.tup
        [AV.agg
        [AV.int IntKind.i64 (Prod.fst (Prod.fst x)), AV.sl 2 (Seq.map T.encN ([], []) (Prod.fst (Prod.snd (Prod.fst x)))) Tip.none,
        AV.int IntKind.i64 (Prod.fst (Prod.snd (Prod.snd (Prod.fst x)))), AV.int IntKind.i64 (Prod.fst (Prod.snd (Prod.snd (Prod.snd (Prod.fst x))))),
        AV.sl 1 (Seq.map encB (0 : UInt8) (Prod.snd (Prod.snd (Prod.snd (Prod.snd (Prod.fst x)))))) Tip.none],
        AV.bool (Prod.fst (Prod.snd x))] ∧
        H' = [] ∧
        AWP Try.prog 215 n c6_10 [(5, AV.nilp), (7, AV.bool a), (9, AV.bool b), (11, AV.bool (Prod.fst (Prod.snd x)))]
        [AObj.cells
        [AV.int IntKind.i64 (Prod.fst (Prod.fst x)), AV.sl 2 (Seq.map T.encN ([], []) (Prod.fst (Prod.snd (Prod.fst x)))) Tip.none,
        AV.int IntKind.i64 (Prod.fst (Prod.snd (Prod.snd (Prod.fst x)))), AV.int IntKind.i64 (Prod.fst (Prod.snd (Prod.snd (Prod.snd (Prod.fst x))))),
        AV.sl 1 (Seq.map encB (0 : UInt8) (Prod.snd (Prod.snd (Prod.snd (Prod.snd (Prod.fst x)))))) Tip.none]]
        (q6_1 n Post)) ∨
        ∃ (x : T.Ev × Bool),
        r =
        AV.tup
        [AV.agg
        [AV.int IntKind.i64 (Prod.fst (Prod.fst x)), AV.sl 2 (Seq.map T.encN ([], []) (Prod.fst (Prod.snd (Prod.fst x)))) Tip.none,
        AV.int IntKind.i64 (Prod.fst (Prod.snd (Prod.snd (Prod.fst x)))), AV.int IntKind.i64 (Prod.fst (Prod.snd (Prod.snd (Prod.snd (Prod.fst x))))),
        AV.sl 1 (Seq.map encB (0 : UInt8) (Prod.snd (Prod.snd (Prod.snd (Prod.snd (Prod.fst x)))))) Tip.none],
        AV.bool (Prod.snd x)] ∧
        H' = [] ∧
        AWP Try.prog 215 n c6_10 [(5, AV.nilp), (7, AV.bool a), (9, AV.bool b), (11, AV.bool (Prod.snd x))]
        [AObj.cells
        [AV.int IntKind.i64 (Prod.fst (Prod.fst x)), AV.sl 2 (Seq.map T.encN ([], []) (Prod.fst (Prod.snd (Prod.fst x)))) Tip.none,
        AV.int IntKind.i64 (Prod.fst (Prod.snd (Prod.snd (Prod.fst x)))), AV.int IntKind.i64 (Prod.fst (Prod.snd (Prod.snd (Prod.snd (Prod.fst x))))),
        AV.sl 1 (Seq.map encB (0 : UInt8) (Prod.snd (Prod.snd (Prod.snd (Prod.snd (Prod.fst x)))))) Tip.none]]
        (q6_1 n Post)) →
    AWP Try.prog 215 n c6_9 [(5, AV.nilp), (7, AV.bool a), (9, AV.bool b)] [] (q6_1 n Post) := fun a b n Post h => Go.Ab.awp_sound g6 n _ _ _ _ (Go.Ab.kc (by kernel_rfl) h)
noncomputable def c6_11 : Go.Code := codeSnd c6_10
theorem v6_10 : ∀ (a b c : Bool) (n : Nat) (Post : AV → List AObj → Prop),
  (ASpec Try.prog 52 [AV.nilp, AV.int IntKind.i64 (0 : Int)] [] fun (r : AV) (H' : List AObj) =>
      (∃ (x : T.Ev × Bool × List T.Item),
        r =
        AV.tup
        [AV.agg
        [AV.int IntKind.i64 (Prod.fst (Prod.fst x)), AV.sl 2 (Seq.map T.encN ([], []) (Prod.fst (Prod.snd (Prod.fst x)))) Tip.none,
        AV.int IntKind.i64 (Prod.fst (Prod.snd (Prod.snd (Prod.fst x)))), AV.int IntKind.i64 (Prod.fst (Prod.snd (Prod.snd (Prod.snd (Prod.fst x))))),
        AV.sl 1 (Seq.map encB (0 : UInt8) (Prod.snd (Prod.snd (Prod.snd (Prod.snd (Prod.fst x)))))) Tip.none],
        AV.bool (Prod.fst (Prod.snd x))] ∧
        H' = [] ∧
        AWP Try.prog 215 n c6_11 [(5, AV.nilp), (7, AV.bool a), (9, AV.bool b), (11, AV.bool c), (13, AV.bool (Prod.fst (Prod.snd x)))]
        [AObj.cells
        [AV.int IntKind.i64 (Prod.fst (Prod.fst x)), AV.sl 2 (Seq.map T.encN ([], []) (Prod.fst (Prod.snd (Prod.fst x)))) Tip.none,
        AV.int IntKind.i64 (Prod.fst (Prod.snd (Prod.snd (Prod.fst x)))), AV.int IntKind.i64 (Prod.fst (Prod.snd (Prod.snd (Prod.snd (Prod.fst x))))),
        AV.sl 1 (Seq.map encB (0 : UInt8) (Prod.snd (Prod.snd (Prod.snd (Prod.snd (Prod.fst x)))))) Tip.none]]
        (q6_1 n Post)) ∨
        ∃ (x : T.Ev × Bool),
        r =
        AV.tup
        [AV.agg
        [AV.int IntKind.i64 (Prod.fst (Prod.fst x)), AV.sl 2 (Seq.map T.encN ([], []) (Prod.fst (Prod.snd (Prod.fst x)))) Tip.none,
        AV.int IntKind.i64 (Prod.fst (Prod.snd (Prod.snd (Prod.fst x)))), AV.int IntKind.i64 (Prod.fst (Prod.snd (Prod.snd (Prod.snd (Prod.fst x))))),
        AV.sl 1 (Seq.map encB (0 : UInt8) (Prod.snd (Prod.snd (Prod.snd (Prod.snd (Prod.fst x)))))) Tip.none],
        AV.bool (Prod.snd x)] ∧
        H' = [] ∧
        AWP Try.prog 215 n c6_11 [(5, AV.nilp), (7, AV.bool a), (9, AV.bool b), (11, AV.bool c), (13, AV.bool (Prod.snd x))]
        [AObj.cells
        [AV.int IntKind.i64 (Prod.fst (Prod.fst x)), AV.sl 2 (Seq.map T.encN ([], []) (Prod.fst (Prod.snd (Prod.fst x)))) Tip.none,
        AV.int IntKind.i64 (Prod.fst (Prod.snd (Prod.snd (Prod.fst x)))), AV.int IntKind.i64 (Prod.fst (Prod.snd (Prod.snd (Prod.snd (Prod.fst x))))),
        AV.sl 1 (Seq.map encB (0 : UInt8) (Prod.snd (Prod.snd (Prod.snd (Prod.snd (Prod.fst x)))))) Tip.none]]
        (q6_1 n Post)) →
    AWP Try.prog 215 n c6_10 [(5, AV.nilp), (7, AV.bool a), (9, AV.bool b), (11, AV.bool c)] [] (q6_1 n Post) := fun a b c n Post h => Go.Ab.awp_sound g6 n _ _ _ _ (Go.Ab.kc (by kernel_rfl) h)
noncomputable def c6_12 : Go.Code := codeSnd c6_11
theorem v6_11 : ∀ (a b c d : Bool) (n : Nat) (Post : AV → List AObj → Prop),
  (ASpec Try.prog 46 [AV.nilp, AV.int IntKind.i64 (0 : Int)] [] fun (r : AV) (H' : List AObj) =>
      ∃ (x : T.Ev × Bool),
        r =
        AV.tup
        [AV.agg
        [AV.int IntKind.i64 (Prod.fst (Prod.fst x)), AV.sl 2 (Seq.map T.encN ([], []) (Prod.fst (Prod.snd (Prod.fst x)))) Tip.none,
        AV.int IntKind.i64 (Prod.fst (Prod.snd (Prod.snd (Prod.fst x)))), AV.int IntKind.i64 (Prod.fst (Prod.snd (Prod.snd (Prod.snd (Prod.fst x))))),
        AV.sl 1 (Seq.map encB (0 : UInt8) (Prod.snd (Prod.snd (Prod.snd (Prod.snd (Prod.fst x)))))) Tip.none],
        AV.bool (Prod.snd x)] ∧
        H' = [] ∧
        AWP Try.prog 215 n c6_12
        [(5, AV.nilp), (7, AV.bool a), (9, AV.bool b), (11, AV.bool c), (13, AV.bool d), (15, AV.bool (Prod.snd x))]
        [AObj.cells
        [AV.int IntKind.i64 (Prod.fst (Prod.fst x)), AV.sl 2 (Seq.map T.encN ([], []) (Prod.fst (Prod.snd (Prod.fst x)))) Tip.none,
        AV.int IntKind.i64 (Prod.fst (Prod.snd (Prod.snd (Prod.fst x)))), AV.int IntKind.i64 (Prod.fst (Prod.snd (Prod.snd (Prod.snd (Prod.fst x))))),
        AV.sl 1 (Seq.map encB (0 : UInt8) (Prod.snd (Prod.snd (Prod.snd (Prod.snd (Prod.fst x)))))) Tip.none]]
        (q6_1 n Post)) →
    AWP Try.prog 215 n c6_11 [(5, AV.nilp), (7, AV.bool a), (9, AV.bool b), (11, AV.bool c), (13, AV.bool d)] [] (q6_1 n Post) := fun a b c d n Post h => Go.Ab.awp_sound g6 n _ _ _ _ (Go.Ab.kc (by kernel_rfl) h)
noncomputable def c6_13 : Go.Code := codeSnd c6_12
theorem v6_12 : ∀ (a b c d e : Bool) (n : Nat) (Post : AV → List AObj → Prop),
  (ASpec Try.prog 53 [AV.nilp, AV.int IntKind.i64 (0 : Int)] [] fun (r : AV) (H' : List AObj) =>
      ∃ (x : Int × List UInt8 × Bool),
        r = AV.tup [AV.int IntKind.i64 (Prod.fst x), AV.str { data := List.toArray (Prod.fst (Prod.snd x)) }, AV.bool (Prod.snd (Prod.snd x))] ∧
        H' = [] ∧
        AWP Try.prog 215 n c6_13
        [(5, AV.nilp), (7, AV.bool a), (9, AV.bool b), (11, AV.bool c), (13, AV.bool d), (15, AV.bool e),
        (18, AV.bool (Prod.snd (Prod.snd x)))]
        [] (q6_1 n Post)) →
    AWP Try.prog 215 n c6_12 [(5, AV.nilp), (7, AV.bool a), (9, AV.bool b), (11, AV.bool c), (13, AV.bool d), (15, AV.bool e)] [] (q6_1 n Post) := fun a b c d e n Post h => Go.Ab.awp_sound g6 n _ _ _ _ (Go.Ab.kc (by kernel_rfl) h)
theorem v6_13 : ∀ (a b c d e f : Bool) (n : Nat) (Post : AV → List AObj → Prop),
  condP (!a)
      (condP (!b)
        (condP (!c)
        (condP (!d)
        (condP (!e)
        (condP (!f)
        (ASpec Try.prog 49 [AV.nilp] [] fun (r : AV) (H' : List AObj) =>
        ∃ (x : Int),
        r = AV.int IntKind.i64 x ∧
        H' = [] ∧
        ASpec Try.prog 42
        [AV.nilp,
        AV.sl 7
        (Seq.raw
        [[AV.int IntKind.i64 (1 : Int), AV.int IntKind.i64 (0 : Int), AV.str { data := #[] }, AV.int IntKind.i64 (0 : Int), AV.int IntKind.i64 (0 : Int),
        AV.sl 0 (Seq.raw []) Tip.nil, AV.sl 0 (Seq.raw []) Tip.nil]])
        Tip.full]
        [] fun (r : AV) (H' : List AObj) =>
        ∃ (x_1 : Int × List T.Item),
        r = AV.int IntKind.i64 (Prod.fst x_1) ∧
        H' = [] ∧
        condP (IntKind.wrap IntKind.i64 (x + Prod.fst x_1) == (0 : Int))
        (ASpec Try.prog 40 [] [] fun (r : AV) (H' : List AObj) => ∃ (x : Unit), r = AV.bool true ∧ H' = [] ∧ Post (AV.bool true) []) (Post (AV.bool false) []))
        (Post (AV.bool false) []))
        (Post (AV.bool false) []))
        (Post (AV.bool false) []))
        (Post (AV.bool false) []))
        (Post (AV.bool false) []))
      (Post (AV.bool false) []) →
    AWP Try.prog 215 n c6_13
      [(5, AV.nilp), (7, AV.bool a), (9, AV.bool b), (11, AV.bool c), (13, AV.bool d), (15, AV.bool e), (18, AV.bool f)] [] (q6_1 n Post) := fun a b c d e f n Post h => Go.Ab.awp_sound g6 n _ _ _ _ (Go.Ab.kc (by kernel_rfl) h)
noncomputable def q6_4 : Nat → (AV → List AObj → Prop) → AQ := fun (n : Nat) (Post : AV → List AObj → Prop) => loopQ Try.prog 215 n c6_16 (q6_3 n Post) (Cfg.live g6)
noncomputable def q6_5 : Nat → (AV → List AObj → Prop) → AQ := fun (n : Nat) (Post : AV → List AObj → Prop) => seqQ (fun (s' : Slots) (H' : List AObj) => awp Try.prog g6 n (codeSnd (codeSnd (codeFst c6_16))) s' H' (q6_4 n Post)) (q6_4 n Post)
noncomputable def q6_6 : Nat → (AV → List AObj → Prop) → AQ := fun (n : Nat) (Post : AV → List AObj → Prop) => blockQ 1 (q6_5 n Post)
noncomputable def c6_20 : Go.Code := codeSnd (codeSnd (codeFst (codeFst (codeSnd (codeFst c6_16)))))
theorem v6_16 : ∀ (m : List T.Do) (D : List T.Ent) (W : List T.Item) (S : List T.Ev) (i : Int) (n : Nat) (Post : AV → List AObj → Prop),
  condP (decide (i < (↑(List.length m) : Int)))
      (needP ((0 : Int) ≤ i ∧ i < (↑(List.length m) : Int))
        (condP (Prod.fst (List.getD m (Int.toNat i) T.noDo) == (0 : Int))
        (needP ((0 : Int) ≤ i ∧ i < (↑(List.length m) : Int))
        (ASpec Try.prog 39 [AV.str { data := List.toArray (Prod.snd (Prod.snd (Prod.snd (Prod.snd (List.getD m (Int.toNat i) T.noDo))))) }]
        [AObj.cells
        [AV.sl 2 (Seq.map T.encEn ([], []) D) Tip.none, AV.sl 2 (Seq.map T.encIt ((0 : Int), []) W) (Tip.tok 1),
        AV.sl 1 (Seq.map T.encSn T.noEv S) (Tip.tok 2)],
        AObj.tok, AObj.tok,
        AObj.cells
        [AV.sl 2 (Seq.map T.encEn ([], []) D) Tip.none, AV.sl 2 (Seq.map T.encIt ((0 : Int), []) W) (Tip.tok 4),
        AV.sl 5 (Seq.map T.encE T.noEv S) (Tip.tok 5)],
        AObj.tok, AObj.tok]
        fun (r : AV) (H' : List AObj) =>
        ∃ (x : Bool),
        r = AV.bool x ∧
        H' =
        [AObj.cells
        [AV.sl 2 (Seq.map T.encEn ([], []) D) Tip.none, AV.sl 2 (Seq.map T.encIt ((0 : Int), []) W) (Tip.tok 1),
        AV.sl 1 (Seq.map T.encSn T.noEv S) (Tip.tok 2)],
        AObj.tok, AObj.tok,
        AObj.cells
        [AV.sl 2 (Seq.map T.encEn ([], []) D) Tip.none, AV.sl 2 (Seq.map T.encIt ((0 : Int), []) W) (Tip.tok 4),
        AV.sl 5 (Seq.map T.encE T.noEv S) (Tip.tok 5)],
        AObj.tok, AObj.tok] ∧
        condP (!x)
        (AWP Try.prog 215 n c6_16
        [(1, AV.sl 5 (Seq.map T.encDo T.noDo m) Tip.none), (5, AV.ptr 0 0), (19, AV.ptr 3 0),
        (20, AV.int IntKind.i64 (IntKind.wrap IntKind.i64 (i + (1 : Int))))]
        [AObj.cells
        [AV.sl 2 (Seq.map T.encEn ([], []) D) Tip.none, AV.sl 2 (Seq.map T.encIt ((0 : Int), []) W) (Tip.tok 1),
        AV.sl 1 (Seq.map T.encSn T.noEv S) (Tip.tok 2)],
        AObj.tok, AObj.tok,
        AObj.cells
        [AV.sl 2 (Seq.map T.encEn ([], []) D) Tip.none, AV.sl 2 (Seq.map T.encIt ((0 : Int), []) W) (Tip.tok 4),
        AV.sl 5 (Seq.map T.encE T.noEv S) (Tip.tok 5)],
        AObj.tok, AObj.tok]
        (q6_3 n Post))
        (needP ((0 : Int) ≤ i ∧ i < (↑(List.length m) : Int))
        (ASpec Try.prog 54
        [AV.ptr 0 0,
        AV.agg
        [AV.int IntKind.i64 (Prod.fst (List.getD m (Int.toNat i) T.noDo)), AV.int IntKind.i64 (Prod.fst (Prod.snd (List.getD m (Int.toNat i) T.noDo))),
        AV.int IntKind.i64 (Prod.fst (Prod.snd (Prod.snd (List.getD m (Int.toNat i) T.noDo)))),
        AV.int IntKind.u8 (↑(UInt8.toNat (Prod.fst (Prod.snd (Prod.snd (Prod.snd (List.getD m (Int.toNat i) T.noDo)))))) : Int),
        AV.str { data := List.toArray (Prod.snd (Prod.snd (Prod.snd (Prod.snd (List.getD m (Int.toNat i) T.noDo))))) }]]
        [AObj.cells
        [AV.sl 2 (Seq.map T.encEn ([], []) D) Tip.none, AV.sl 2 (Seq.map T.encIt ((0 : Int), []) W) (Tip.tok 1),
        AV.sl 1 (Seq.map T.encSn T.noEv S) (Tip.tok 2)],
        AObj.tok, AObj.tok,
        AObj.cells
        [AV.sl 2 (Seq.map T.encEn ([], []) D) Tip.none, AV.sl 2 (Seq.map T.encIt ((0 : Int), []) W) (Tip.tok 4),
        AV.sl 5 (Seq.map T.encE T.noEv S) (Tip.tok 5)],
        AObj.tok, AObj.tok]
        fun (r : AV) (H' : List AObj) =>
        ∃ (x : T.Ev × Bool × List T.Item × List T.Ev),
        r =
        AV.tup
        [AV.agg
        [AV.int IntKind.i64 (Prod.fst (Prod.fst x)), AV.sl 2 (Seq.map T.encN ([], []) (Prod.fst (Prod.snd (Prod.fst x)))) Tip.none,
        AV.int IntKind.i64 (Prod.fst (Prod.snd (Prod.snd (Prod.fst x)))), AV.int IntKind.i64 (Prod.fst (Prod.snd (Prod.snd (Prod.snd (Prod.fst x))))),
        AV.sl 1 (Seq.map encB (0 : UInt8) (Prod.snd (Prod.snd (Prod.snd (Prod.snd (Prod.fst x)))))) Tip.none],
        AV.bool (Prod.fst (Prod.snd x))] ∧
        H' =
        [AObj.cells
        [AV.sl 2 (Seq.map T.encEn ([], []) D) Tip.none, AV.sl 2 (Seq.map T.encIt ((0 : Int), []) (Prod.fst (Prod.snd (Prod.snd x)))) (Tip.tok 6),
        AV.sl 1 (Seq.map T.encSn T.noEv (Prod.snd (Prod.snd (Prod.snd x)))) (Tip.tok 7)],
        AObj.gone, AObj.gone,
        AObj.cells
        [AV.sl 2 (Seq.map T.encEn ([], []) D) Tip.none, AV.sl 2 (Seq.map T.encIt ((0 : Int), []) W) (Tip.tok 4),
        AV.sl 5 (Seq.map T.encE T.noEv S) (Tip.tok 5)],
        AObj.tok, AObj.tok, AObj.tok, AObj.tok] ∧
        AWP Try.prog 215 n c6_20
        [(1, AV.sl 5 (Seq.map T.encDo T.noDo m) Tip.none), (5, AV.ptr 0 0), (19, AV.ptr 3 0),
        (20, AV.int IntKind.i64 i), (21, AV.ptr 8 0), (22, AV.bool (Prod.fst (Prod.snd x)))]
        [AObj.cells
        [AV.sl 2 (Seq.map T.encEn ([], []) D) Tip.none, AV.sl 2 (Seq.map T.encIt ((0 : Int), []) (Prod.fst (Prod.snd (Prod.snd x)))) (Tip.tok 6),
        AV.sl 1 (Seq.map T.encSn T.noEv (Prod.snd (Prod.snd (Prod.snd x)))) (Tip.tok 7)],
        AObj.gone, AObj.gone,
        AObj.cells
        [AV.sl 2 (Seq.map T.encEn ([], []) D) Tip.none, AV.sl 2 (Seq.map T.encIt ((0 : Int), []) W) (Tip.tok 4),
        AV.sl 5 (Seq.map T.encE T.noEv S) (Tip.tok 5)],
        AObj.tok, AObj.tok, AObj.tok, AObj.tok,
        AObj.cells
        [AV.int IntKind.i64 (Prod.fst (Prod.fst x)), AV.sl 2 (Seq.map T.encN ([], []) (Prod.fst (Prod.snd (Prod.fst x)))) Tip.none,
        AV.int IntKind.i64 (Prod.fst (Prod.snd (Prod.snd (Prod.fst x)))), AV.int IntKind.i64 (Prod.fst (Prod.snd (Prod.snd (Prod.snd (Prod.fst x))))),
        AV.sl 1 (Seq.map encB (0 : UInt8) (Prod.snd (Prod.snd (Prod.snd (Prod.snd (Prod.fst x)))))) Tip.none]]
        (q6_6 n Post)))))
        (needP ((0 : Int) ≤ i ∧ i < (↑(List.length m) : Int))
        (ASpec Try.prog 54
        [AV.ptr 0 0,
        AV.agg
        [AV.int IntKind.i64 (Prod.fst (List.getD m (Int.toNat i) T.noDo)), AV.int IntKind.i64 (Prod.fst (Prod.snd (List.getD m (Int.toNat i) T.noDo))),
        AV.int IntKind.i64 (Prod.fst (Prod.snd (Prod.snd (List.getD m (Int.toNat i) T.noDo)))),
        AV.int IntKind.u8 (↑(UInt8.toNat (Prod.fst (Prod.snd (Prod.snd (Prod.snd (List.getD m (Int.toNat i) T.noDo)))))) : Int),
        AV.str { data := List.toArray (Prod.snd (Prod.snd (Prod.snd (Prod.snd (List.getD m (Int.toNat i) T.noDo))))) }]]
        [AObj.cells
        [AV.sl 2 (Seq.map T.encEn ([], []) D) Tip.none, AV.sl 2 (Seq.map T.encIt ((0 : Int), []) W) (Tip.tok 1),
        AV.sl 1 (Seq.map T.encSn T.noEv S) (Tip.tok 2)],
        AObj.tok, AObj.tok,
        AObj.cells
        [AV.sl 2 (Seq.map T.encEn ([], []) D) Tip.none, AV.sl 2 (Seq.map T.encIt ((0 : Int), []) W) (Tip.tok 4),
        AV.sl 5 (Seq.map T.encE T.noEv S) (Tip.tok 5)],
        AObj.tok, AObj.tok]
        fun (r : AV) (H' : List AObj) =>
        ∃ (x : T.Ev × Bool × List T.Item × List T.Ev),
        r =
        AV.tup
        [AV.agg
        [AV.int IntKind.i64 (Prod.fst (Prod.fst x)), AV.sl 2 (Seq.map T.encN ([], []) (Prod.fst (Prod.snd (Prod.fst x)))) Tip.none,
        AV.int IntKind.i64 (Prod.fst (Prod.snd (Prod.snd (Prod.fst x)))), AV.int IntKind.i64 (Prod.fst (Prod.snd (Prod.snd (Prod.snd (Prod.fst x))))),
        AV.sl 1 (Seq.map encB (0 : UInt8) (Prod.snd (Prod.snd (Prod.snd (Prod.snd (Prod.fst x)))))) Tip.none],
        AV.bool (Prod.fst (Prod.snd x))] ∧
        H' =
        [AObj.cells
        [AV.sl 2 (Seq.map T.encEn ([], []) D) Tip.none, AV.sl 2 (Seq.map T.encIt ((0 : Int), []) (Prod.fst (Prod.snd (Prod.snd x)))) (Tip.tok 6),
        AV.sl 1 (Seq.map T.encSn T.noEv (Prod.snd (Prod.snd (Prod.snd x)))) (Tip.tok 7)],
        AObj.gone, AObj.gone,
        AObj.cells
        [AV.sl 2 (Seq.map T.encEn ([], []) D) Tip.none, AV.sl 2 (Seq.map T.encIt ((0 : Int), []) W) (Tip.tok 4),
        AV.sl 5 (Seq.map T.encE T.noEv S) (Tip.tok 5)],
        AObj.tok, AObj.tok, AObj.tok, AObj.tok] ∧
        AWP Try.prog 215 n c6_20
        [(1, AV.sl 5 (Seq.map T.encDo T.noDo m) Tip.none), (5, AV.ptr 0 0), (19, AV.ptr 3 0),
        (20, AV.int IntKind.i64 i), (21, AV.ptr 8 0), (22, AV.bool (Prod.fst (Prod.snd x)))]
        [AObj.cells
        [AV.sl 2 (Seq.map T.encEn ([], []) D) Tip.none, AV.sl 2 (Seq.map T.encIt ((0 : Int), []) (Prod.fst (Prod.snd (Prod.snd x)))) (Tip.tok 6),
        AV.sl 1 (Seq.map T.encSn T.noEv (Prod.snd (Prod.snd (Prod.snd x)))) (Tip.tok 7)],
        AObj.gone, AObj.gone,
        AObj.cells
        [AV.sl 2 (Seq.map T.encEn ([], []) D) Tip.none, AV.sl 2 (Seq.map T.encIt ((0 : Int), []) W) (Tip.tok 4),
        AV.sl 5 (Seq.map T.encE T.noEv S) (Tip.tok 5)],
        AObj.tok, AObj.tok, AObj.tok, AObj.tok,
        AObj.cells
        [AV.int IntKind.i64 (Prod.fst (Prod.fst x)), AV.sl 2 (Seq.map T.encN ([], []) (Prod.fst (Prod.snd (Prod.fst x)))) Tip.none,
        AV.int IntKind.i64 (Prod.fst (Prod.snd (Prod.snd (Prod.fst x)))), AV.int IntKind.i64 (Prod.fst (Prod.snd (Prod.snd (Prod.snd (Prod.fst x))))),
        AV.sl 1 (Seq.map encB (0 : UInt8) (Prod.snd (Prod.snd (Prod.snd (Prod.snd (Prod.fst x)))))) Tip.none]]
        (q6_6 n Post)))))
      (ASpec Try.prog 40 []
        [AObj.cells
        [AV.sl 2 (Seq.map T.encEn ([], []) D) Tip.none, AV.sl 2 (Seq.map T.encIt ((0 : Int), []) W) (Tip.tok 1),
        AV.sl 1 (Seq.map T.encSn T.noEv S) (Tip.tok 2)],
        AObj.tok, AObj.tok,
        AObj.cells
        [AV.sl 2 (Seq.map T.encEn ([], []) D) Tip.none, AV.sl 2 (Seq.map T.encIt ((0 : Int), []) W) (Tip.tok 4),
        AV.sl 5 (Seq.map T.encE T.noEv S) (Tip.tok 5)],
        AObj.tok, AObj.tok]
        fun (r : AV) (H' : List AObj) =>
        ∃ (x : Unit),
        r = AV.bool true ∧
        H' =
        [AObj.cells
        [AV.sl 2 (Seq.map T.encEn ([], []) D) Tip.none, AV.sl 2 (Seq.map T.encIt ((0 : Int), []) W) (Tip.tok 1),
        AV.sl 1 (Seq.map T.encSn T.noEv S) (Tip.tok 2)],
        AObj.tok, AObj.tok,
        AObj.cells
        [AV.sl 2 (Seq.map T.encEn ([], []) D) Tip.none, AV.sl 2 (Seq.map T.encIt ((0 : Int), []) W) (Tip.tok 4),
        AV.sl 5 (Seq.map T.encE T.noEv S) (Tip.tok 5)],
        AObj.tok, AObj.tok] ∧
        Post (AV.bool true)
        [AObj.cells
        [AV.sl 2 (Seq.map T.encEn ([], []) D) Tip.none, AV.sl 2 (Seq.map T.encIt ((0 : Int), []) W) (Tip.tok 1),
        AV.sl 1 (Seq.map T.encSn T.noEv S) (Tip.tok 2)],
        AObj.tok, AObj.tok,
        AObj.cells
        [AV.sl 2 (Seq.map T.encEn ([], []) D) Tip.none, AV.sl 2 (Seq.map T.encIt ((0 : Int), []) W) (Tip.tok 4),
        AV.sl 5 (Seq.map T.encE T.noEv S) (Tip.tok 5)],
        AObj.tok, AObj.tok]) →
    AWP Try.prog 215 n c6_16
      [(1, AV.sl 5 (Seq.map T.encDo T.noDo m) Tip.none), (5, AV.ptr 0 0), (19, AV.ptr 3 0), (20, AV.int IntKind.i64 i)]
      (HL D W S W S) (q6_3 n Post) := fun m D W S i n Post h => Go.Ab.AWP.loop' g6 (Cfg.live g6) c6_16 (by kernel_rfl) (by kernel_rfl) (Go.Ab.kc (by kernel_rfl) h)
noncomputable def c6_21 : Go.Code := codeSnd c6_20
theorem v6_20 : ∀ (m : List T.Do) (D : List T.Ent) (W : List T.Item) (S : List T.Ev) (W' : List T.Item) (S' : List T.Ev) (i : Int) (e : T.Ev) (c : Bool) (n : Nat) (Post : AV → List AObj → Prop),
  needP ((0 : Int) ≤ i ∧ i < (↑(List.length m) : Int))
      (ASpec Try.prog 55
        [AV.ptr 3 0,
        AV.agg
        [AV.int IntKind.i64 (Prod.fst (List.getD m (Int.toNat i) T.noDo)), AV.int IntKind.i64 (Prod.fst (Prod.snd (List.getD m (Int.toNat i) T.noDo))),
        AV.int IntKind.i64 (Prod.fst (Prod.snd (Prod.snd (List.getD m (Int.toNat i) T.noDo)))),
        AV.int IntKind.u8 (↑(UInt8.toNat (Prod.fst (Prod.snd (Prod.snd (Prod.snd (List.getD m (Int.toNat i) T.noDo)))))) : Int),
        AV.str { data := List.toArray (Prod.snd (Prod.snd (Prod.snd (Prod.snd (List.getD m (Int.toNat i) T.noDo))))) }]]
        [AObj.cells
        [AV.sl 2 (Seq.map T.encEn ([], []) D) Tip.none, AV.sl 2 (Seq.map T.encIt ((0 : Int), []) W) (Tip.tok 1),
        AV.sl 1 (Seq.map T.encSn T.noEv S) (Tip.tok 2)],
        AObj.tok, AObj.tok,
        AObj.cells
        [AV.sl 2 (Seq.map T.encEn ([], []) D) Tip.none, AV.sl 2 (Seq.map T.encIt ((0 : Int), []) W') (Tip.tok 4),
        AV.sl 5 (Seq.map T.encE T.noEv S') (Tip.tok 5)],
        AObj.tok, AObj.tok,
        AObj.cells
        [AV.int IntKind.i64 (Prod.fst e), AV.sl 2 (Seq.map T.encN ([], []) (Prod.fst (Prod.snd e))) Tip.none, AV.int IntKind.i64 (Prod.fst (Prod.snd (Prod.snd e))),
        AV.int IntKind.i64 (Prod.fst (Prod.snd (Prod.snd (Prod.snd e)))), AV.sl 1 (Seq.map encB (0 : UInt8) (Prod.snd (Prod.snd (Prod.snd (Prod.snd e))))) Tip.none]]
        fun (r : AV) (H' : List AObj) =>
        ∃ (x : T.Ev × Bool × List T.Item × List T.Ev),
        r =
        AV.tup
        [AV.agg
        [AV.int IntKind.i64 (Prod.fst (Prod.fst x)), AV.sl 2 (Seq.map T.encN ([], []) (Prod.fst (Prod.snd (Prod.fst x)))) Tip.none,
        AV.int IntKind.i64 (Prod.fst (Prod.snd (Prod.snd (Prod.fst x)))), AV.int IntKind.i64 (Prod.fst (Prod.snd (Prod.snd (Prod.snd (Prod.fst x))))),
        AV.sl 1 (Seq.map encB (0 : UInt8) (Prod.snd (Prod.snd (Prod.snd (Prod.snd (Prod.fst x)))))) Tip.none],
        AV.bool (Prod.fst (Prod.snd x))] ∧
        H' =
        [AObj.cells
        [AV.sl 2 (Seq.map T.encEn ([], []) D) Tip.none, AV.sl 2 (Seq.map T.encIt ((0 : Int), []) W) (Tip.tok 1),
        AV.sl 1 (Seq.map T.encSn T.noEv S) (Tip.tok 2)],
        AObj.tok, AObj.tok,
        AObj.cells
        [AV.sl 2 (Seq.map T.encEn ([], []) D) Tip.none, AV.sl 2 (Seq.map T.encIt ((0 : Int), []) (Prod.fst (Prod.snd (Prod.snd x)))) (Tip.tok 7),
        AV.sl 5 (Seq.map T.encE T.noEv (Prod.snd (Prod.snd (Prod.snd x)))) (Tip.tok 8)],
        AObj.gone, AObj.gone,
        AObj.cells
        [AV.int IntKind.i64 (Prod.fst e), AV.sl 2 (Seq.map T.encN ([], []) (Prod.fst (Prod.snd e))) Tip.none, AV.int IntKind.i64 (Prod.fst (Prod.snd (Prod.snd e))),
        AV.int IntKind.i64 (Prod.fst (Prod.snd (Prod.snd (Prod.snd e)))), AV.sl 1 (Seq.map encB (0 : UInt8) (Prod.snd (Prod.snd (Prod.snd (Prod.snd e))))) Tip.none],
        AObj.tok, AObj.tok] ∧
        AWP Try.prog 215 n c6_21
        [(1, AV.sl 5 (Seq.map T.encDo T.noDo m) Tip.none), (5, AV.ptr 0 0), (19, AV.ptr 3 0),
        (20, AV.int IntKind.i64 i), (21, AV.ptr 6 0), (22, AV.bool c), (23, AV.ptr 9 0),
        (24, AV.bool (Prod.fst (Prod.snd x)))]
        [AObj.cells
        [AV.sl 2 (Seq.map T.encEn ([], []) D) Tip.none, AV.sl 2 (Seq.map T.encIt ((0 : Int), []) W) (Tip.tok 1),
        AV.sl 1 (Seq.map T.encSn T.noEv S) (Tip.tok 2)],
        AObj.tok, AObj.tok,
        AObj.cells
        [AV.sl 2 (Seq.map T.encEn ([], []) D) Tip.none, AV.sl 2 (Seq.map T.encIt ((0 : Int), []) (Prod.fst (Prod.snd (Prod.snd x)))) (Tip.tok 7),
        AV.sl 5 (Seq.map T.encE T.noEv (Prod.snd (Prod.snd (Prod.snd x)))) (Tip.tok 8)],
        AObj.gone, AObj.gone,
        AObj.cells
        [AV.int IntKind.i64 (Prod.fst e), AV.sl 2 (Seq.map T.encN ([], []) (Prod.fst (Prod.snd e))) Tip.none, AV.int IntKind.i64 (Prod.fst (Prod.snd (Prod.snd e))),
        AV.int IntKind.i64 (Prod.fst (Prod.snd (Prod.snd (Prod.snd e)))), AV.sl 1 (Seq.map encB (0 : UInt8) (Prod.snd (Prod.snd (Prod.snd (Prod.snd e))))) Tip.none],
        AObj.tok, AObj.tok,
        AObj.cells
        [AV.int IntKind.i64 (Prod.fst (Prod.fst x)), AV.sl 2 (Seq.map T.encN ([], []) (Prod.fst (Prod.snd (Prod.fst x)))) Tip.none,
        AV.int IntKind.i64 (Prod.fst (Prod.snd (Prod.snd (Prod.fst x)))), AV.int IntKind.i64 (Prod.fst (Prod.snd (Prod.snd (Prod.snd (Prod.fst x))))),
        AV.sl 1 (Seq.map encB (0 : UInt8) (Prod.snd (Prod.snd (Prod.snd (Prod.snd (Prod.fst x)))))) Tip.none]]
        (q6_6 n Post)) →
    AWP Try.prog 215 n c6_20
      [(1, AV.sl 5 (Seq.map T.encDo T.noDo m) Tip.none), (5, AV.ptr 0 0), (19, AV.ptr 3 0), (20, AV.int IntKind.i64 i),
        (21, AV.ptr 6 0), (22, AV.bool c)]
      (HL D W S W' S' ++ [AObj.cells (T.encE e)]) (q6_6 n Post) := fun m D W S W' S' i e c n Post h => Go.Ab.awp_sound g6 n _ _ _ _ (Go.Ab.kc (by kernel_rfl) h)
noncomputable def c6_22 : Go.Code := codeSnd c6_21
theorem v6_21 : ∀ (m : List T.Do) (D : List T.Ent) (W : List T.Item) (S : List T.Ev) (i : Int) (e : T.Ev) (c : Bool) (f : T.Ev) (d : Bool) (n : Nat) (Post : AV → List AObj → Prop),
  needP ((0 : Int) ≤ i ∧ i < (↑(List.length m) : Int))
      (ASpec Try.prog 53 [AV.ptr 0 0, AV.int IntKind.i64 (Prod.fst (Prod.snd (List.getD m (Int.toNat i) T.noDo)))]
        [AObj.cells
        [AV.sl 2 (Seq.map T.encEn ([], []) D) Tip.none, AV.sl 2 (Seq.map T.encIt ((0 : Int), []) W) (Tip.tok 1),
        AV.sl 1 (Seq.map T.encSn T.noEv S) (Tip.tok 2)],
        AObj.tok, AObj.tok,
        AObj.cells
        [AV.sl 2 (Seq.map T.encEn ([], []) D) Tip.none, AV.sl 2 (Seq.map T.encIt ((0 : Int), []) W) (Tip.tok 4),
        AV.sl 5 (Seq.map T.encE T.noEv S) (Tip.tok 5)],
        AObj.tok, AObj.tok,
        AObj.cells
        [AV.int IntKind.i64 (Prod.fst e), AV.sl 2 (Seq.map T.encN ([], []) (Prod.fst (Prod.snd e))) Tip.none, AV.int IntKind.i64 (Prod.fst (Prod.snd (Prod.snd e))),
        AV.int IntKind.i64 (Prod.fst (Prod.snd (Prod.snd (Prod.snd e)))), AV.sl 1 (Seq.map encB (0 : UInt8) (Prod.snd (Prod.snd (Prod.snd (Prod.snd e))))) Tip.none],
        AObj.cells
        [AV.int IntKind.i64 (Prod.fst f), AV.sl 2 (Seq.map T.encN ([], []) (Prod.fst (Prod.snd f))) Tip.none, AV.int IntKind.i64 (Prod.fst (Prod.snd (Prod.snd f))),
        AV.int IntKind.i64 (Prod.fst (Prod.snd (Prod.snd (Prod.snd f)))), AV.sl 1 (Seq.map encB (0 : UInt8) (Prod.snd (Prod.snd (Prod.snd (Prod.snd f))))) Tip.none]]
        fun (r : AV) (H' : List AObj) =>
        ∃ (x : Int × List UInt8 × Bool),
        r = AV.tup [AV.int IntKind.i64 (Prod.fst x), AV.str { data := List.toArray (Prod.fst (Prod.snd x)) }, AV.bool (Prod.snd (Prod.snd x))] ∧
        H' =
        [AObj.cells
        [AV.sl 2 (Seq.map T.encEn ([], []) D) Tip.none, AV.sl 2 (Seq.map T.encIt ((0 : Int), []) W) (Tip.tok 1),
        AV.sl 1 (Seq.map T.encSn T.noEv S) (Tip.tok 2)],
        AObj.tok, AObj.tok,
        AObj.cells
        [AV.sl 2 (Seq.map T.encEn ([], []) D) Tip.none, AV.sl 2 (Seq.map T.encIt ((0 : Int), []) W) (Tip.tok 4),
        AV.sl 5 (Seq.map T.encE T.noEv S) (Tip.tok 5)],
        AObj.tok, AObj.tok,
        AObj.cells
        [AV.int IntKind.i64 (Prod.fst e), AV.sl 2 (Seq.map T.encN ([], []) (Prod.fst (Prod.snd e))) Tip.none, AV.int IntKind.i64 (Prod.fst (Prod.snd (Prod.snd e))),
        AV.int IntKind.i64 (Prod.fst (Prod.snd (Prod.snd (Prod.snd e)))), AV.sl 1 (Seq.map encB (0 : UInt8) (Prod.snd (Prod.snd (Prod.snd (Prod.snd e))))) Tip.none],
        AObj.cells
        [AV.int IntKind.i64 (Prod.fst f), AV.sl 2 (Seq.map T.encN ([], []) (Prod.fst (Prod.snd f))) Tip.none, AV.int IntKind.i64 (Prod.fst (Prod.snd (Prod.snd f))),
        AV.int IntKind.i64 (Prod.fst (Prod.snd (Prod.snd (Prod.snd f)))), AV.sl 1 (Seq.map encB (0 : UInt8) (Prod.snd (Prod.snd (Prod.snd (Prod.snd f))))) Tip.none]] ∧
        AWP Try.prog 215 n c6_22
        [(1, AV.sl 5 (Seq.map T.encDo T.noDo m) Tip.none), (5, AV.ptr 0 0), (19, AV.ptr 3 0),
        (20, AV.int IntKind.i64 i), (21, AV.ptr 6 0), (22, AV.bool c), (23, AV.ptr 7 0), (24, AV.bool d),
        (25, AV.int IntKind.i64 (Prod.fst x)), (26, AV.str { data := List.toArray (Prod.fst (Prod.snd x)) }), (27, AV.bool (Prod.snd (Prod.snd x)))]
        [AObj.cells
        [AV.sl 2 (Seq.map T.encEn ([], []) D) Tip.none, AV.sl 2 (Seq.map T.encIt ((0 : Int), []) W) (Tip.tok 1),
        AV.sl 1 (Seq.map T.encSn T.noEv S) (Tip.tok 2)],
        AObj.tok, AObj.tok,
        AObj.cells
        [AV.sl 2 (Seq.map T.encEn ([], []) D) Tip.none, AV.sl 2 (Seq.map T.encIt ((0 : Int), []) W) (Tip.tok 4),
        AV.sl 5 (Seq.map T.encE T.noEv S) (Tip.tok 5)],
        AObj.tok, AObj.tok,
        AObj.cells
        [AV.int IntKind.i64 (Prod.fst e), AV.sl 2 (Seq.map T.encN ([], []) (Prod.fst (Prod.snd e))) Tip.none, AV.int IntKind.i64 (Prod.fst (Prod.snd (Prod.snd e))),
        AV.int IntKind.i64 (Prod.fst (Prod.snd (Prod.snd (Prod.snd e)))), AV.sl 1 (Seq.map encB (0 : UInt8) (Prod.snd (Prod.snd (Prod.snd (Prod.snd e))))) Tip.none],
        AObj.cells
        [AV.int IntKind.i64 (Prod.fst f), AV.sl 2 (Seq.map T.encN ([], []) (Prod.fst (Prod.snd f))) Tip.none, AV.int IntKind.i64 (Prod.fst (Prod.snd (Prod.snd f))),
        AV.int IntKind.i64 (Prod.fst (Prod.snd (Prod.snd (Prod.snd f)))), AV.sl 1 (Seq.map encB (0 : UInt8) (Prod.snd (Prod.snd (Prod.snd (Prod.snd f))))) Tip.none]]
        (q6_6 n Post)) →
    AWP Try.prog 215 n c6_21
      [(1, AV.sl 5 (Seq.map T.encDo T.noDo m) Tip.none), (5, AV.ptr 0 0), (19, AV.ptr 3 0), (20, AV.int IntKind.i64 i),
        (21, AV.ptr 6 0), (22, AV.bool c), (23, AV.ptr 7 0), (24, AV.bool d)]
      (HL D W S W S ++ [AObj.cells (T.encE e), AObj.cells (T.encE f)]) (q6_6 n Post) := fun m D W S i e c f d n Post h => Go.Ab.awp_sound g6 n _ _ _ _ (Go.Ab.kc (by kernel_rfl) h)
noncomputable def c6_23 : Go.Code := codeSnd c6_22
theorem v6_22 : ∀ (m : List T.Do) (D : List T.Ent) (W : List T.Item) (S : List T.Ev) (i : Int) (e : T.Ev) (c : Bool) (f : T.Ev) (d : Bool) (t : Int) (n : ByteArray) (w : Bool) (n_1 : Nat)
  (Post : AV → List AObj → Prop),
  needP ((0 : Int) ≤ i ∧ i < (↑(List.length m) : Int))
      (ASpec Try.prog 56
        [AV.agg
        [AV.sl 2 (Seq.map T.encEn ([], []) D) Tip.none, AV.sl 2 (Seq.map T.encIt ((0 : Int), []) W) (Tip.tok 4),
        AV.sl 5 (Seq.map T.encE T.noEv S) (Tip.tok 5)],
        AV.int IntKind.i64 (Prod.fst (Prod.snd (List.getD m (Int.toNat i) T.noDo)))]
        [AObj.cells
        [AV.sl 2 (Seq.map T.encEn ([], []) D) Tip.none, AV.sl 2 (Seq.map T.encIt ((0 : Int), []) W) (Tip.tok 1),
        AV.sl 1 (Seq.map T.encSn T.noEv S) (Tip.tok 2)],
        AObj.tok, AObj.tok,
        AObj.cells
        [AV.sl 2 (Seq.map T.encEn ([], []) D) Tip.none, AV.sl 2 (Seq.map T.encIt ((0 : Int), []) W) (Tip.tok 4),
        AV.sl 5 (Seq.map T.encE T.noEv S) (Tip.tok 5)],
        AObj.tok, AObj.tok,
        AObj.cells
        [AV.int IntKind.i64 (Prod.fst e), AV.sl 2 (Seq.map T.encN ([], []) (Prod.fst (Prod.snd e))) Tip.none, AV.int IntKind.i64 (Prod.fst (Prod.snd (Prod.snd e))),
        AV.int IntKind.i64 (Prod.fst (Prod.snd (Prod.snd (Prod.snd e)))), AV.sl 1 (Seq.map encB (0 : UInt8) (Prod.snd (Prod.snd (Prod.snd (Prod.snd e))))) Tip.none],
        AObj.cells
        [AV.int IntKind.i64 (Prod.fst f), AV.sl 2 (Seq.map T.encN ([], []) (Prod.fst (Prod.snd f))) Tip.none, AV.int IntKind.i64 (Prod.fst (Prod.snd (Prod.snd f))),
        AV.int IntKind.i64 (Prod.fst (Prod.snd (Prod.snd (Prod.snd f)))), AV.sl 1 (Seq.map encB (0 : UInt8) (Prod.snd (Prod.snd (Prod.snd (Prod.snd f))))) Tip.none]]
        fun (r : AV) (H' : List AObj) =>
        ∃ (x : Int × List UInt8 × Bool),
        r = AV.tup [AV.int IntKind.i64 (Prod.fst x), AV.str { data := List.toArray (Prod.fst (Prod.snd x)) }, AV.bool (Prod.snd (Prod.snd x))] ∧
        H' =
        [AObj.cells
        [AV.sl 2 (Seq.map T.encEn ([], []) D) Tip.none, AV.sl 2 (Seq.map T.encIt ((0 : Int), []) W) (Tip.tok 1),
        AV.sl 1 (Seq.map T.encSn T.noEv S) (Tip.tok 2)],
        AObj.tok, AObj.tok,
        AObj.cells
        [AV.sl 2 (Seq.map T.encEn ([], []) D) Tip.none, AV.sl 2 (Seq.map T.encIt ((0 : Int), []) W) (Tip.tok 4),
        AV.sl 5 (Seq.map T.encE T.noEv S) (Tip.tok 5)],
        AObj.tok, AObj.tok,
        AObj.cells
        [AV.int IntKind.i64 (Prod.fst e), AV.sl 2 (Seq.map T.encN ([], []) (Prod.fst (Prod.snd e))) Tip.none, AV.int IntKind.i64 (Prod.fst (Prod.snd (Prod.snd e))),
        AV.int IntKind.i64 (Prod.fst (Prod.snd (Prod.snd (Prod.snd e)))), AV.sl 1 (Seq.map encB (0 : UInt8) (Prod.snd (Prod.snd (Prod.snd (Prod.snd e))))) Tip.none],
        AObj.cells
        [AV.int IntKind.i64 (Prod.fst f), AV.sl 2 (Seq.map T.encN ([], []) (Prod.fst (Prod.snd f))) Tip.none, AV.int IntKind.i64 (Prod.fst (Prod.snd (Prod.snd f))),
        AV.int IntKind.i64 (Prod.fst (Prod.snd (Prod.snd (Prod.snd f)))), AV.sl 1 (Seq.map encB (0 : UInt8) (Prod.snd (Prod.snd (Prod.snd (Prod.snd f))))) Tip.none]] ∧
        AWP Try.prog 215 n_1 c6_23
        [(1, AV.sl 5 (Seq.map T.encDo T.noDo m) Tip.none), (5, AV.ptr 0 0), (19, AV.ptr 3 0),
        (20, AV.int IntKind.i64 i), (21, AV.ptr 6 0), (22, AV.bool c), (23, AV.ptr 7 0), (24, AV.bool d),
        (25, AV.int IntKind.i64 t), (26, AV.str n), (27, AV.bool w), (28, AV.int IntKind.i64 (Prod.fst x)),
        (29, AV.str { data := List.toArray (Prod.fst (Prod.snd x)) }), (30, AV.bool (Prod.snd (Prod.snd x)))]
        [AObj.cells
        [AV.sl 2 (Seq.map T.encEn ([], []) D) Tip.none, AV.sl 2 (Seq.map T.encIt ((0 : Int), []) W) (Tip.tok 1),
        AV.sl 1 (Seq.map T.encSn T.noEv S) (Tip.tok 2)],
        AObj.tok, AObj.tok,
        AObj.cells
        [AV.sl 2 (Seq.map T.encEn ([], []) D) Tip.none, AV.sl 2 (Seq.map T.encIt ((0 : Int), []) W) (Tip.tok 4),
        AV.sl 5 (Seq.map T.encE T.noEv S) (Tip.tok 5)],
        AObj.tok, AObj.tok,
        AObj.cells
        [AV.int IntKind.i64 (Prod.fst e), AV.sl 2 (Seq.map T.encN ([], []) (Prod.fst (Prod.snd e))) Tip.none, AV.int IntKind.i64 (Prod.fst (Prod.snd (Prod.snd e))),
        AV.int IntKind.i64 (Prod.fst (Prod.snd (Prod.snd (Prod.snd e)))), AV.sl 1 (Seq.map encB (0 : UInt8) (Prod.snd (Prod.snd (Prod.snd (Prod.snd e))))) Tip.none],
        AObj.cells
        [AV.int IntKind.i64 (Prod.fst f), AV.sl 2 (Seq.map T.encN ([], []) (Prod.fst (Prod.snd f))) Tip.none, AV.int IntKind.i64 (Prod.fst (Prod.snd (Prod.snd f))),
        AV.int IntKind.i64 (Prod.fst (Prod.snd (Prod.snd (Prod.snd f)))), AV.sl 1 (Seq.map encB (0 : UInt8) (Prod.snd (Prod.snd (Prod.snd (Prod.snd f))))) Tip.none]]
        (q6_6 n_1 Post)) →
    AWP Try.prog 215 n_1 c6_22
      [(1, AV.sl 5 (Seq.map T.encDo T.noDo m) Tip.none), (5, AV.ptr 0 0), (19, AV.ptr 3 0), (20, AV.int IntKind.i64 i),
        (21, AV.ptr 6 0), (22, AV.bool c), (23, AV.ptr 7 0), (24, AV.bool d), (25, AV.int IntKind.i64 t),
        (26, AV.str n), (27, AV.bool w)]
      (HL D W S W S ++ [AObj.cells (T.encE e), AObj.cells (T.encE f)]) (q6_6 n_1 Post) := fun m D W S i e c f d t n w n Post h => Go.Ab.awp_sound g6 n _ _ _ _ (Go.Ab.kc (by kernel_rfl) h)
theorem v6_23 : ∀ (m : List T.Do) (D : List T.Ent) (W : List T.Item) (S : List T.Ev) (i : Int) (e : T.Ev) (c : Bool) (f : T.Ev) (d : Bool) (t : Int) (n : ByteArray) (w : Bool) (u : Int) (o : ByteArray) (v : Bool)
  (n_1 : Nat) (Post : AV → List AObj → Prop),
  (ASpec Try.prog 48
      [AV.agg
        [AV.int IntKind.i64 (Prod.fst e), AV.sl 2 (Seq.map T.encN ([], []) (Prod.fst (Prod.snd e))) Tip.none, AV.int IntKind.i64 (Prod.fst (Prod.snd (Prod.snd e))),
        AV.int IntKind.i64 (Prod.fst (Prod.snd (Prod.snd (Prod.snd e)))), AV.sl 1 (Seq.map encB (0 : UInt8) (Prod.snd (Prod.snd (Prod.snd (Prod.snd e))))) Tip.none],
        AV.agg
        [AV.int IntKind.i64 (Prod.fst f), AV.sl 2 (Seq.map T.encN ([], []) (Prod.fst (Prod.snd f))) Tip.none, AV.int IntKind.i64 (Prod.fst (Prod.snd (Prod.snd f))),
        AV.int IntKind.i64 (Prod.fst (Prod.snd (Prod.snd (Prod.snd f)))), AV.sl 1 (Seq.map encB (0 : UInt8) (Prod.snd (Prod.snd (Prod.snd (Prod.snd f))))) Tip.none]]
      [AObj.cells
        [AV.sl 2 (Seq.map T.encEn ([], []) D) Tip.none, AV.sl 2 (Seq.map T.encIt ((0 : Int), []) W) (Tip.tok 1),
        AV.sl 1 (Seq.map T.encSn T.noEv S) (Tip.tok 2)],
        AObj.tok, AObj.tok,
        AObj.cells
        [AV.sl 2 (Seq.map T.encEn ([], []) D) Tip.none, AV.sl 2 (Seq.map T.encIt ((0 : Int), []) W) (Tip.tok 4),
        AV.sl 5 (Seq.map T.encE T.noEv S) (Tip.tok 5)],
        AObj.tok, AObj.tok,
        AObj.cells
        [AV.int IntKind.i64 (Prod.fst e), AV.sl 2 (Seq.map T.encN ([], []) (Prod.fst (Prod.snd e))) Tip.none, AV.int IntKind.i64 (Prod.fst (Prod.snd (Prod.snd e))),
        AV.int IntKind.i64 (Prod.fst (Prod.snd (Prod.snd (Prod.snd e)))), AV.sl 1 (Seq.map encB (0 : UInt8) (Prod.snd (Prod.snd (Prod.snd (Prod.snd e))))) Tip.none],
        AObj.cells
        [AV.int IntKind.i64 (Prod.fst f), AV.sl 2 (Seq.map T.encN ([], []) (Prod.fst (Prod.snd f))) Tip.none, AV.int IntKind.i64 (Prod.fst (Prod.snd (Prod.snd f))),
        AV.int IntKind.i64 (Prod.fst (Prod.snd (Prod.snd (Prod.snd f)))), AV.sl 1 (Seq.map encB (0 : UInt8) (Prod.snd (Prod.snd (Prod.snd (Prod.snd f))))) Tip.none]]
      fun (r : AV) (H' : List AObj) =>
      ∃ (x : Bool),
        r = AV.bool x ∧
        H' =
        [AObj.cells
        [AV.sl 2 (Seq.map T.encEn ([], []) D) Tip.none, AV.sl 2 (Seq.map T.encIt ((0 : Int), []) W) (Tip.tok 1),
        AV.sl 1 (Seq.map T.encSn T.noEv S) (Tip.tok 2)],
        AObj.tok, AObj.tok,
        AObj.cells
        [AV.sl 2 (Seq.map T.encEn ([], []) D) Tip.none, AV.sl 2 (Seq.map T.encIt ((0 : Int), []) W) (Tip.tok 4),
        AV.sl 5 (Seq.map T.encE T.noEv S) (Tip.tok 5)],
        AObj.tok, AObj.tok,
        AObj.cells
        [AV.int IntKind.i64 (Prod.fst e), AV.sl 2 (Seq.map T.encN ([], []) (Prod.fst (Prod.snd e))) Tip.none, AV.int IntKind.i64 (Prod.fst (Prod.snd (Prod.snd e))),
        AV.int IntKind.i64 (Prod.fst (Prod.snd (Prod.snd (Prod.snd e)))), AV.sl 1 (Seq.map encB (0 : UInt8) (Prod.snd (Prod.snd (Prod.snd (Prod.snd e))))) Tip.none],
        AObj.cells
        [AV.int IntKind.i64 (Prod.fst f), AV.sl 2 (Seq.map T.encN ([], []) (Prod.fst (Prod.snd f))) Tip.none, AV.int IntKind.i64 (Prod.fst (Prod.snd (Prod.snd f))),
        AV.int IntKind.i64 (Prod.fst (Prod.snd (Prod.snd (Prod.snd f)))), AV.sl 1 (Seq.map encB (0 : UInt8) (Prod.snd (Prod.snd (Prod.snd (Prod.snd f))))) Tip.none]] ∧
        condP (!x)
        (AV.tup [] = AV.tup [] ∧
        AV.tup [] = AV.tup [] ∧
        Post (AV.bool false)
        [AObj.cells
        [AV.sl 2 (Seq.map T.encEn ([], []) D) Tip.none, AV.sl 2 (Seq.map T.encIt ((0 : Int), []) W) (Tip.tok 1),
        AV.sl 1 (Seq.map T.encSn T.noEv S) (Tip.tok 2)],
        AObj.tok, AObj.tok,
        AObj.cells
        [AV.sl 2 (Seq.map T.encEn ([], []) D) Tip.none, AV.sl 2 (Seq.map T.encIt ((0 : Int), []) W) (Tip.tok 4),
        AV.sl 5 (Seq.map T.encE T.noEv S) (Tip.tok 5)],
        AObj.tok, AObj.tok,
        AObj.cells
        [AV.int IntKind.i64 (Prod.fst e), AV.sl 2 (Seq.map T.encN ([], []) (Prod.fst (Prod.snd e))) Tip.none, AV.int IntKind.i64 (Prod.fst (Prod.snd (Prod.snd e))),
        AV.int IntKind.i64 (Prod.fst (Prod.snd (Prod.snd (Prod.snd e)))), AV.sl 1 (Seq.map encB (0 : UInt8) (Prod.snd (Prod.snd (Prod.snd (Prod.snd e))))) Tip.none],
        AObj.cells
        [AV.int IntKind.i64 (Prod.fst f), AV.sl 2 (Seq.map T.encN ([], []) (Prod.fst (Prod.snd f))) Tip.none, AV.int IntKind.i64 (Prod.fst (Prod.snd (Prod.snd f))),
        AV.int IntKind.i64 (Prod.fst (Prod.snd (Prod.snd (Prod.snd f)))), AV.sl 1 (Seq.map encB (0 : UInt8) (Prod.snd (Prod.snd (Prod.snd (Prod.snd f))))) Tip.none]])
        (condP (!c == d)
        (AV.tup [] = AV.tup [] ∧
        AV.tup [] = AV.tup [] ∧
        Post (AV.bool false)
        [AObj.cells
        [AV.sl 2 (Seq.map T.encEn ([], []) D) Tip.none, AV.sl 2 (Seq.map T.encIt ((0 : Int), []) W) (Tip.tok 1),
        AV.sl 1 (Seq.map T.encSn T.noEv S) (Tip.tok 2)],
        AObj.tok, AObj.tok,
        AObj.cells
        [AV.sl 2 (Seq.map T.encEn ([], []) D) Tip.none, AV.sl 2 (Seq.map T.encIt ((0 : Int), []) W) (Tip.tok 4),
        AV.sl 5 (Seq.map T.encE T.noEv S) (Tip.tok 5)],
        AObj.tok, AObj.tok,
        AObj.cells
        [AV.int IntKind.i64 (Prod.fst e), AV.sl 2 (Seq.map T.encN ([], []) (Prod.fst (Prod.snd e))) Tip.none, AV.int IntKind.i64 (Prod.fst (Prod.snd (Prod.snd e))),
        AV.int IntKind.i64 (Prod.fst (Prod.snd (Prod.snd (Prod.snd e)))), AV.sl 1 (Seq.map encB (0 : UInt8) (Prod.snd (Prod.snd (Prod.snd (Prod.snd e))))) Tip.none],
        AObj.cells
        [AV.int IntKind.i64 (Prod.fst f), AV.sl 2 (Seq.map T.encN ([], []) (Prod.fst (Prod.snd f))) Tip.none, AV.int IntKind.i64 (Prod.fst (Prod.snd (Prod.snd f))),
        AV.int IntKind.i64 (Prod.fst (Prod.snd (Prod.snd (Prod.snd f)))), AV.sl 1 (Seq.map encB (0 : UInt8) (Prod.snd (Prod.snd (Prod.snd (Prod.snd f))))) Tip.none]])
        (condP (t != u)
        (AV.tup [] = AV.tup [] ∧
        AV.tup [] = AV.tup [] ∧
        Post (AV.bool false)
        [AObj.cells
        [AV.sl 2 (Seq.map T.encEn ([], []) D) Tip.none, AV.sl 2 (Seq.map T.encIt ((0 : Int), []) W) (Tip.tok 1),
        AV.sl 1 (Seq.map T.encSn T.noEv S) (Tip.tok 2)],
        AObj.tok, AObj.tok,
        AObj.cells
        [AV.sl 2 (Seq.map T.encEn ([], []) D) Tip.none, AV.sl 2 (Seq.map T.encIt ((0 : Int), []) W) (Tip.tok 4),
        AV.sl 5 (Seq.map T.encE T.noEv S) (Tip.tok 5)],
        AObj.tok, AObj.tok,
        AObj.cells
        [AV.int IntKind.i64 (Prod.fst e), AV.sl 2 (Seq.map T.encN ([], []) (Prod.fst (Prod.snd e))) Tip.none, AV.int IntKind.i64 (Prod.fst (Prod.snd (Prod.snd e))),
        AV.int IntKind.i64 (Prod.fst (Prod.snd (Prod.snd (Prod.snd e)))), AV.sl 1 (Seq.map encB (0 : UInt8) (Prod.snd (Prod.snd (Prod.snd (Prod.snd e))))) Tip.none],
        AObj.cells
        [AV.int IntKind.i64 (Prod.fst f), AV.sl 2 (Seq.map T.encN ([], []) (Prod.fst (Prod.snd f))) Tip.none, AV.int IntKind.i64 (Prod.fst (Prod.snd (Prod.snd f))),
        AV.int IntKind.i64 (Prod.fst (Prod.snd (Prod.snd (Prod.snd f)))), AV.sl 1 (Seq.map encB (0 : UInt8) (Prod.snd (Prod.snd (Prod.snd (Prod.snd f))))) Tip.none]])
        (condP (!ByteArray.toList n == ByteArray.toList o)
        (AV.tup [] = AV.tup [] ∧
        AV.tup [] = AV.tup [] ∧
        Post (AV.bool false)
        [AObj.cells
        [AV.sl 2 (Seq.map T.encEn ([], []) D) Tip.none, AV.sl 2 (Seq.map T.encIt ((0 : Int), []) W) (Tip.tok 1),
        AV.sl 1 (Seq.map T.encSn T.noEv S) (Tip.tok 2)],
        AObj.tok, AObj.tok,
        AObj.cells
        [AV.sl 2 (Seq.map T.encEn ([], []) D) Tip.none, AV.sl 2 (Seq.map T.encIt ((0 : Int), []) W) (Tip.tok 4),
        AV.sl 5 (Seq.map T.encE T.noEv S) (Tip.tok 5)],
        AObj.tok, AObj.tok,
        AObj.cells
        [AV.int IntKind.i64 (Prod.fst e), AV.sl 2 (Seq.map T.encN ([], []) (Prod.fst (Prod.snd e))) Tip.none, AV.int IntKind.i64 (Prod.fst (Prod.snd (Prod.snd e))),
        AV.int IntKind.i64 (Prod.fst (Prod.snd (Prod.snd (Prod.snd e)))), AV.sl 1 (Seq.map encB (0 : UInt8) (Prod.snd (Prod.snd (Prod.snd (Prod.snd e))))) Tip.none],
        AObj.cells
        [AV.int IntKind.i64 (Prod.fst f), AV.sl 2 (Seq.map T.encN ([], []) (Prod.fst (Prod.snd f))) Tip.none, AV.int IntKind.i64 (Prod.fst (Prod.snd (Prod.snd f))),
        AV.int IntKind.i64 (Prod.fst (Prod.snd (Prod.snd (Prod.snd f)))), AV.sl 1 (Seq.map encB (0 : UInt8) (Prod.snd (Prod.snd (Prod.snd (Prod.snd f))))) Tip.none]])
        (condP (!w == v)
        (AV.tup [] = AV.tup [] ∧
        AV.tup [] = AV.tup [] ∧
        Post (AV.bool false)
        [AObj.cells
        [AV.sl 2 (Seq.map T.encEn ([], []) D) Tip.none, AV.sl 2 (Seq.map T.encIt ((0 : Int), []) W) (Tip.tok 1),
        AV.sl 1 (Seq.map T.encSn T.noEv S) (Tip.tok 2)],
        AObj.tok, AObj.tok,
        AObj.cells
        [AV.sl 2 (Seq.map T.encEn ([], []) D) Tip.none, AV.sl 2 (Seq.map T.encIt ((0 : Int), []) W) (Tip.tok 4),
        AV.sl 5 (Seq.map T.encE T.noEv S) (Tip.tok 5)],
        AObj.tok, AObj.tok,
        AObj.cells
        [AV.int IntKind.i64 (Prod.fst e), AV.sl 2 (Seq.map T.encN ([], []) (Prod.fst (Prod.snd e))) Tip.none, AV.int IntKind.i64 (Prod.fst (Prod.snd (Prod.snd e))),
        AV.int IntKind.i64 (Prod.fst (Prod.snd (Prod.snd (Prod.snd e)))), AV.sl 1 (Seq.map encB (0 : UInt8) (Prod.snd (Prod.snd (Prod.snd (Prod.snd e))))) Tip.none],
        AObj.cells
        [AV.int IntKind.i64 (Prod.fst f), AV.sl 2 (Seq.map T.encN ([], []) (Prod.fst (Prod.snd f))) Tip.none, AV.int IntKind.i64 (Prod.fst (Prod.snd (Prod.snd f))),
        AV.int IntKind.i64 (Prod.fst (Prod.snd (Prod.snd (Prod.snd f)))), AV.sl 1 (Seq.map encB (0 : UInt8) (Prod.snd (Prod.snd (Prod.snd (Prod.snd f))))) Tip.none]])
        (ASpec Try.prog 49 [AV.ptr 0 0]
        [AObj.cells
        [AV.sl 2 (Seq.map T.encEn ([], []) D) Tip.none, AV.sl 2 (Seq.map T.encIt ((0 : Int), []) W) (Tip.tok 1),
        AV.sl 1 (Seq.map T.encSn T.noEv S) (Tip.tok 2)],
        AObj.tok, AObj.tok,
        AObj.cells
        [AV.sl 2 (Seq.map T.encEn ([], []) D) Tip.none, AV.sl 2 (Seq.map T.encIt ((0 : Int), []) W) (Tip.tok 4),
        AV.sl 5 (Seq.map T.encE T.noEv S) (Tip.tok 5)],
        AObj.tok, AObj.tok,
        AObj.cells
        [AV.int IntKind.i64 (Prod.fst e), AV.sl 2 (Seq.map T.encN ([], []) (Prod.fst (Prod.snd e))) Tip.none, AV.int IntKind.i64 (Prod.fst (Prod.snd (Prod.snd e))),
        AV.int IntKind.i64 (Prod.fst (Prod.snd (Prod.snd (Prod.snd e)))), AV.sl 1 (Seq.map encB (0 : UInt8) (Prod.snd (Prod.snd (Prod.snd (Prod.snd e))))) Tip.none],
        AObj.cells
        [AV.int IntKind.i64 (Prod.fst f), AV.sl 2 (Seq.map T.encN ([], []) (Prod.fst (Prod.snd f))) Tip.none, AV.int IntKind.i64 (Prod.fst (Prod.snd (Prod.snd f))),
        AV.int IntKind.i64 (Prod.fst (Prod.snd (Prod.snd (Prod.snd f)))), AV.sl 1 (Seq.map encB (0 : UInt8) (Prod.snd (Prod.snd (Prod.snd (Prod.snd f))))) Tip.none]]
        fun (r : AV) (H' : List AObj) =>
        ∃ (x : Int),
        r = AV.int IntKind.i64 x ∧
        H' =
        [AObj.cells
        [AV.sl 2 (Seq.map T.encEn ([], []) D) Tip.none, AV.sl 2 (Seq.map T.encIt ((0 : Int), []) W) (Tip.tok 1),
        AV.sl 1 (Seq.map T.encSn T.noEv S) (Tip.tok 2)],
        AObj.tok, AObj.tok,
        AObj.cells
        [AV.sl 2 (Seq.map T.encEn ([], []) D) Tip.none, AV.sl 2 (Seq.map T.encIt ((0 : Int), []) W) (Tip.tok 4),
        AV.sl 5 (Seq.map T.encE T.noEv S) (Tip.tok 5)],
        AObj.tok, AObj.tok,
        AObj.cells
        [AV.int IntKind.i64 (Prod.fst e), AV.sl 2 (Seq.map T.encN ([], []) (Prod.fst (Prod.snd e))) Tip.none, AV.int IntKind.i64 (Prod.fst (Prod.snd (Prod.snd e))),
        AV.int IntKind.i64 (Prod.fst (Prod.snd (Prod.snd (Prod.snd e)))),
        AV.sl 1 (Seq.map encB (0 : UInt8) (Prod.snd (Prod.snd (Prod.snd (Prod.snd e))))) Tip.none],
        AObj.cells
        [AV.int IntKind.i64 (Prod.fst f), AV.sl 2 (Seq.map T.encN ([], []) (Prod.fst (Prod.snd f))) Tip.none, AV.int IntKind.i64 (Prod.fst (Prod.snd (Prod.snd f))),
        AV.int IntKind.i64 (Prod.fst (Prod.snd (Prod.snd (Prod.snd f)))),
        AV.sl 1 (Seq.map encB (0 : UInt8) (Prod.snd (Prod.snd (Prod.snd (Prod.snd f))))) Tip.none]] ∧
        (AV.int IntKind.i64 (↑(List.length W) : Int) = AV.int IntKind.i64 (↑(List.length W) : Int) ∧
        [AObj.cells
        [AV.sl 2 (Seq.map T.encEn ([], []) D) Tip.none, AV.sl 2 (Seq.map T.encIt ((0 : Int), []) W) (Tip.tok 1),
        AV.sl 1 (Seq.map T.encSn T.noEv S) (Tip.tok 2)],
        AObj.tok, AObj.tok,
        AObj.cells
        [AV.sl 2 (Seq.map T.encEn ([], []) D) Tip.none, AV.sl 2 (Seq.map T.encIt ((0 : Int), []) W) (Tip.tok 4),
        AV.sl 5 (Seq.map T.encE T.noEv S) (Tip.tok 5)],
        AObj.tok, AObj.tok,
        AObj.cells
        [AV.int IntKind.i64 (Prod.fst e), AV.sl 2 (Seq.map T.encN ([], []) (Prod.fst (Prod.snd e))) Tip.none,
        AV.int IntKind.i64 (Prod.fst (Prod.snd (Prod.snd e))), AV.int IntKind.i64 (Prod.fst (Prod.snd (Prod.snd (Prod.snd e)))),
        AV.sl 1 (Seq.map encB (0 : UInt8) (Prod.snd (Prod.snd (Prod.snd (Prod.snd e))))) Tip.none],
        AObj.cells
        [AV.int IntKind.i64 (Prod.fst f), AV.sl 2 (Seq.map T.encN ([], []) (Prod.fst (Prod.snd f))) Tip.none,
        AV.int IntKind.i64 (Prod.fst (Prod.snd (Prod.snd f))), AV.int IntKind.i64 (Prod.fst (Prod.snd (Prod.snd (Prod.snd f)))),
        AV.sl 1 (Seq.map encB (0 : UInt8) (Prod.snd (Prod.snd (Prod.snd (Prod.snd f))))) Tip.none]] =
        [AObj.cells
        [AV.sl 2 (Seq.map T.encEn ([], []) D) Tip.none, AV.sl 2 (Seq.map T.encIt ((0 : Int), []) W) (Tip.tok 1),
        AV.sl 1 (Seq.map T.encSn T.noEv S) (Tip.tok 2)],
        AObj.tok, AObj.tok,
        AObj.cells
        [AV.sl 2 (Seq.map T.encEn ([], []) D) Tip.none, AV.sl 2 (Seq.map T.encIt ((0 : Int), []) W) (Tip.tok 4),
        AV.sl 5 (Seq.map T.encE T.noEv S) (Tip.tok 5)],
        AObj.tok, AObj.tok,
        AObj.cells
        [AV.int IntKind.i64 (Prod.fst e), AV.sl 2 (Seq.map T.encN ([], []) (Prod.fst (Prod.snd e))) Tip.none,
        AV.int IntKind.i64 (Prod.fst (Prod.snd (Prod.snd e))), AV.int IntKind.i64 (Prod.fst (Prod.snd (Prod.snd (Prod.snd e)))),
        AV.sl 1 (Seq.map encB (0 : UInt8) (Prod.snd (Prod.snd (Prod.snd (Prod.snd e))))) Tip.none],
        AObj.cells
        [AV.int IntKind.i64 (Prod.fst f), AV.sl 2 (Seq.map T.encN ([], []) (Prod.fst (Prod.snd f))) Tip.none,
        AV.int IntKind.i64 (Prod.fst (Prod.snd (Prod.snd f))), AV.int IntKind.i64 (Prod.fst (Prod.snd (Prod.snd (Prod.snd f)))),
        AV.sl 1 (Seq.map encB (0 : UInt8) (Prod.snd (Prod.snd (Prod.snd (Prod.snd f))))) Tip.none]]) ∧
        (AV.sl 2 (Seq.map T.encIt ((0 : Int), []) W) (Tip.tok 4) = AV.sl 2 (Seq.map T.encIt ((0 : Int), []) W) (Tip.tok 4) ∧
        [AObj.cells
        [AV.sl 2 (Seq.map T.encEn ([], []) D) Tip.none, AV.sl 2 (Seq.map T.encIt ((0 : Int), []) W) (Tip.tok 1),
        AV.sl 1 (Seq.map T.encSn T.noEv S) (Tip.tok 2)],
        AObj.tok, AObj.tok,
        AObj.cells
        [AV.sl 2 (Seq.map T.encEn ([], []) D) Tip.none, AV.sl 2 (Seq.map T.encIt ((0 : Int), []) W) (Tip.tok 4),
        AV.sl 5 (Seq.map T.encE T.noEv S) (Tip.tok 5)],
        AObj.tok, AObj.tok,
        AObj.cells
        [AV.int IntKind.i64 (Prod.fst e), AV.sl 2 (Seq.map T.encN ([], []) (Prod.fst (Prod.snd e))) Tip.none,
        AV.int IntKind.i64 (Prod.fst (Prod.snd (Prod.snd e))), AV.int IntKind.i64 (Prod.fst (Prod.snd (Prod.snd (Prod.snd e)))),
        AV.sl 1 (Seq.map encB (0 : UInt8) (Prod.snd (Prod.snd (Prod.snd (Prod.snd e))))) Tip.none],
        AObj.cells
        [AV.int IntKind.i64 (Prod.fst f), AV.sl 2 (Seq.map T.encN ([], []) (Prod.fst (Prod.snd f))) Tip.none,
        AV.int IntKind.i64 (Prod.fst (Prod.snd (Prod.snd f))), AV.int IntKind.i64 (Prod.fst (Prod.snd (Prod.snd (Prod.snd f)))),
        AV.sl 1 (Seq.map encB (0 : UInt8) (Prod.snd (Prod.snd (Prod.snd (Prod.snd f))))) Tip.none]] =
        [AObj.cells
        [AV.sl 2 (Seq.map T.encEn ([], []) D) Tip.none, AV.sl 2 (Seq.map T.encIt ((0 : Int), []) W) (Tip.tok 1),
        AV.sl 1 (Seq.map T.encSn T.noEv S) (Tip.tok 2)],
        AObj.tok, AObj.tok,
        AObj.cells
        [AV.sl 2 (Seq.map T.encEn ([], []) D) Tip.none, AV.sl 2 (Seq.map T.encIt ((0 : Int), []) W) (Tip.tok 4),
        AV.sl 5 (Seq.map T.encE T.noEv S) (Tip.tok 5)],
        AObj.tok, AObj.tok,
        AObj.cells
        [AV.int IntKind.i64 (Prod.fst e), AV.sl 2 (Seq.map T.encN ([], []) (Prod.fst (Prod.snd e))) Tip.none,
        AV.int IntKind.i64 (Prod.fst (Prod.snd (Prod.snd e))), AV.int IntKind.i64 (Prod.fst (Prod.snd (Prod.snd (Prod.snd e)))),
        AV.sl 1 (Seq.map encB (0 : UInt8) (Prod.snd (Prod.snd (Prod.snd (Prod.snd e))))) Tip.none],
        AObj.cells
        [AV.int IntKind.i64 (Prod.fst f), AV.sl 2 (Seq.map T.encN ([], []) (Prod.fst (Prod.snd f))) Tip.none,
        AV.int IntKind.i64 (Prod.fst (Prod.snd (Prod.snd f))), AV.int IntKind.i64 (Prod.fst (Prod.snd (Prod.snd (Prod.snd f)))),
        AV.sl 1 (Seq.map encB (0 : UInt8) (Prod.snd (Prod.snd (Prod.snd (Prod.snd f))))) Tip.none]]) ∧
        condP (x != (↑(List.length W) : Int))
        (Post (AV.bool false)
        [AObj.cells
        [AV.sl 2 (Seq.map T.encEn ([], []) D) Tip.none, AV.sl 2 (Seq.map T.encIt ((0 : Int), []) W) (Tip.tok 1),
        AV.sl 1 (Seq.map T.encSn T.noEv S) (Tip.tok 2)],
        AObj.tok, AObj.tok,
        AObj.cells
        [AV.sl 2 (Seq.map T.encEn ([], []) D) Tip.none, AV.sl 2 (Seq.map T.encIt ((0 : Int), []) W) (Tip.tok 4),
        AV.sl 5 (Seq.map T.encE T.noEv S) (Tip.tok 5)],
        AObj.tok, AObj.tok,
        AObj.cells
        [AV.int IntKind.i64 (Prod.fst e), AV.sl 2 (Seq.map T.encN ([], []) (Prod.fst (Prod.snd e))) Tip.none,
        AV.int IntKind.i64 (Prod.fst (Prod.snd (Prod.snd e))), AV.int IntKind.i64 (Prod.fst (Prod.snd (Prod.snd (Prod.snd e)))),
        AV.sl 1 (Seq.map encB (0 : UInt8) (Prod.snd (Prod.snd (Prod.snd (Prod.snd e))))) Tip.none],
        AObj.cells
        [AV.int IntKind.i64 (Prod.fst f), AV.sl 2 (Seq.map T.encN ([], []) (Prod.fst (Prod.snd f))) Tip.none,
        AV.int IntKind.i64 (Prod.fst (Prod.snd (Prod.snd f))), AV.int IntKind.i64 (Prod.fst (Prod.snd (Prod.snd (Prod.snd f)))),
        AV.sl 1 (Seq.map encB (0 : UInt8) (Prod.snd (Prod.snd (Prod.snd (Prod.snd f))))) Tip.none]])
        (AWP Try.prog 215 n_1 c6_16
        [(1, AV.sl 5 (Seq.map T.encDo T.noDo m) Tip.none), (5, AV.ptr 0 0), (19, AV.ptr 3 0),
        (20, AV.int IntKind.i64 (IntKind.wrap IntKind.i64 (i + (1 : Int))))]
        [AObj.cells
        [AV.sl 2 (Seq.map T.encEn ([], []) D) Tip.none, AV.sl 2 (Seq.map T.encIt ((0 : Int), []) W) (Tip.tok 1),
        AV.sl 1 (Seq.map T.encSn T.noEv S) (Tip.tok 2)],
        AObj.tok, AObj.tok,
        AObj.cells
        [AV.sl 2 (Seq.map T.encEn ([], []) D) Tip.none, AV.sl 2 (Seq.map T.encIt ((0 : Int), []) W) (Tip.tok 4),
        AV.sl 5 (Seq.map T.encE T.noEv S) (Tip.tok 5)],
        AObj.tok, AObj.tok,
        AObj.cells
        [AV.int IntKind.i64 (Prod.fst e), AV.sl 2 (Seq.map T.encN ([], []) (Prod.fst (Prod.snd e))) Tip.none,
        AV.int IntKind.i64 (Prod.fst (Prod.snd (Prod.snd e))), AV.int IntKind.i64 (Prod.fst (Prod.snd (Prod.snd (Prod.snd e)))),
        AV.sl 1 (Seq.map encB (0 : UInt8) (Prod.snd (Prod.snd (Prod.snd (Prod.snd e))))) Tip.none],
        AObj.cells
        [AV.int IntKind.i64 (Prod.fst f), AV.sl 2 (Seq.map T.encN ([], []) (Prod.fst (Prod.snd f))) Tip.none,
        AV.int IntKind.i64 (Prod.fst (Prod.snd (Prod.snd f))), AV.int IntKind.i64 (Prod.fst (Prod.snd (Prod.snd (Prod.snd f)))),
        AV.sl 1 (Seq.map encB (0 : UInt8) (Prod.snd (Prod.snd (Prod.snd (Prod.snd f))))) Tip.none]]
        (q6_3 n_1 Post)))))))) →
    AWP Try.prog 215 n_1 c6_23
      [(1, AV.sl 5 (Seq.map T.encDo T.noDo m) Tip.none), (5, AV.ptr 0 0), (19, AV.ptr 3 0), (20, AV.int IntKind.i64 i),
        (21, AV.ptr 6 0), (22, AV.bool c), (23, AV.ptr 7 0), (24, AV.bool d), (25, AV.int IntKind.i64 t),
        (26, AV.str n), (27, AV.bool w), (28, AV.int IntKind.i64 u), (29, AV.str o), (30, AV.bool v)]
      (HL D W S W S ++ [AObj.cells (T.encE e), AObj.cells (T.encE f)]) (q6_6 n_1 Post) := fun m D W S i e c f d t n w u o v n Post h => Go.Ab.awp_sound g6 n _ _ _ _ (Go.Ab.kc (by kernel_rfl) h)

end
end Sl
end

section
/- Printed: what the code of functions 49, 167, 43, 44, 51, 52, 46, 53, 42 asks for, by the framework's own reading of it; each line is checked against the code. -/

set_option linter.unusedVariables false
set_option maxRecDepth 100000
set_option maxHeartbeats 4000000
open Go Go.Ab Go.Proofs
namespace Sn
noncomputable section

noncomputable def rets : FuncId → List Ret := Sy.rets

-- 49
noncomputable def l49 : Nat → List Nat
  | _ => []
noncomputable def u49 : Nat → Bool
  | _ => false
noncomputable def m49 : Nat → Bool
  | _ => false
noncomputable def g49 : Cfg := { N := 10, live := l49, cut := u49, mu := m49, ret := rets }
theorem s49 : ∀ (Post : AV → List AObj → Prop), Post (AV.int IntKind.i64 (0 : Int)) [] → ASpec Try.prog 49 [AV.nilp] [] Post := fun Post h => Go.Ab.ASpec.of_vc g49 Go.Proofs.Try.func49 (by kernel_rfl) (by kernel_rfl) (by kernel_rfl) (Go.Ab.kc (by kernel_rfl) h)

-- 167
noncomputable def l167 : Nat → List Nat
  | _ => []
noncomputable def u167 : Nat → Bool
  | _ => false
noncomputable def m167 : Nat → Bool
  | _ => false
noncomputable def g167 : Cfg := { N := 13, live := l167, cut := u167, mu := m167, ret := rets }
theorem s167 : ∀ (k : Int) (Post : AV → List AObj → Prop),
  condP (decide (k ≥ (0 : Int))) (ASpec Try.prog 49 [AV.nilp] [] fun (r : AV) (H' : List AObj) => ∃ (x : Int), r = AV.int IntKind.i64 x ∧ H' = [] ∧ Post (AV.bool (decide (k < x))) [])
      (Post (AV.bool false) []) →
    ASpec Try.prog 167 [AV.nilp, AV.int IntKind.i64 k] [] Post := fun k Post h => Go.Ab.ASpec.of_vc g167 Go.Proofs.Try.func167 (by kernel_rfl) (by kernel_rfl) (by kernel_rfl) (Go.Ab.kc (by kernel_rfl) h)

-- 43
noncomputable def l43 : Nat → List Nat
  | _ => []
noncomputable def u43 : Nat → Bool
  | _ => false
noncomputable def m43 : Nat → Bool
  | _ => false
noncomputable def g43 : Cfg := { N := 19, live := l43, cut := u43, mu := m43, ret := rets }
theorem s43 : ∀ (k : Int) (Post : AV → List AObj → Prop),
  (ASpec Try.prog 167 [AV.nilp, AV.int IntKind.i64 k]
      [AObj.cells [AV.int IntKind.i64 (0 : Int), AV.sl 0 (Seq.raw []) Tip.nil, AV.int IntKind.i64 (0 : Int), AV.int IntKind.i64 (0 : Int), AV.sl 0 (Seq.raw []) Tip.nil]]
      fun (r : AV) (H' : List AObj) =>
      ∃ (x : Bool),
        r = AV.bool x ∧
        H' = [AObj.cells [AV.int IntKind.i64 (0 : Int), AV.sl 0 (Seq.raw []) Tip.nil, AV.int IntKind.i64 (0 : Int), AV.int IntKind.i64 (0 : Int), AV.sl 0 (Seq.raw []) Tip.nil]] ∧
        condP (!x)
        (Post
        (AV.tup
        [AV.agg [AV.int IntKind.i64 (0 : Int), AV.sl 0 (Seq.raw []) Tip.nil, AV.int IntKind.i64 (0 : Int), AV.int IntKind.i64 (0 : Int), AV.sl 0 (Seq.raw []) Tip.nil],
        AV.bool false])
        [AObj.cells [AV.int IntKind.i64 (0 : Int), AV.sl 0 (Seq.raw []) Tip.nil, AV.int IntKind.i64 (0 : Int), AV.int IntKind.i64 (0 : Int), AV.sl 0 (Seq.raw []) Tip.nil]])
        (ASpec Try.prog 169 [AV.nilp, AV.int IntKind.i64 k]
        [AObj.cells [AV.int IntKind.i64 (0 : Int), AV.sl 0 (Seq.raw []) Tip.nil, AV.int IntKind.i64 (0 : Int), AV.int IntKind.i64 (0 : Int), AV.sl 0 (Seq.raw []) Tip.nil]]
        fun (r : AV) (H' : List AObj) =>
        ∃ (x : List UInt8),
        r = AV.sl 1 (Seq.map encB (0 : UInt8) x) Tip.none ∧
        H' =
        [AObj.cells
        [AV.int IntKind.i64 (0 : Int), AV.sl 0 (Seq.raw []) Tip.nil, AV.int IntKind.i64 (0 : Int), AV.int IntKind.i64 (0 : Int), AV.sl 0 (Seq.raw []) Tip.nil]] ∧
        ASpec Try.prog 168 [AV.nilp, AV.int IntKind.i64 k, AV.sl 1 (Seq.map encB (0 : UInt8) x) Tip.none]
        [AObj.cells
        [AV.int IntKind.i64 (0 : Int), AV.sl 0 (Seq.raw []) Tip.nil, AV.int IntKind.i64 (0 : Int), AV.int IntKind.i64 (0 : Int), AV.sl 0 (Seq.raw []) Tip.nil]]
        fun (r : AV) (H' : List AObj) =>
        ∃ (x : T.Ev × Bool × List T.Item × List T.Ev),
        r =
        AV.tup
        [AV.agg
        [AV.int IntKind.i64 (Prod.fst (Prod.fst x)), AV.sl 2 (Seq.map T.encN ([], []) (Prod.fst (Prod.snd (Prod.fst x)))) Tip.none,
        AV.int IntKind.i64 (Prod.fst (Prod.snd (Prod.snd (Prod.fst x)))), AV.int IntKind.i64 (Prod.fst (Prod.snd (Prod.snd (Prod.snd (Prod.fst x))))),
        AV.sl 1 (Seq.map encB (0 : UInt8) (Prod.snd (Prod.snd (Prod.snd (Prod.snd (Prod.fst x)))))) Tip.none],
        AV.bool (Prod.fst (Prod.snd x))] ∧
        H' =
        [AObj.cells
        [AV.int IntKind.i64 (0 : Int), AV.sl 0 (Seq.raw []) Tip.nil, AV.int IntKind.i64 (0 : Int), AV.int IntKind.i64 (0 : Int),
        AV.sl 0 (Seq.raw []) Tip.nil]] ∧
        Post
        (AV.tup
        [AV.agg
        [AV.int IntKind.i64 (Prod.fst (Prod.fst x)), AV.sl 2 (Seq.map T.encN ([], []) (Prod.fst (Prod.snd (Prod.fst x)))) Tip.none,
        AV.int IntKind.i64 (Prod.fst (Prod.snd (Prod.snd (Prod.fst x)))), AV.int IntKind.i64 (Prod.fst (Prod.snd (Prod.snd (Prod.snd (Prod.fst x))))),
        AV.sl 1 (Seq.map encB (0 : UInt8) (Prod.snd (Prod.snd (Prod.snd (Prod.snd (Prod.fst x)))))) Tip.none],
        AV.bool (Prod.fst (Prod.snd x))])
        [AObj.cells
        [AV.int IntKind.i64 (Prod.fst (Prod.fst x)), AV.sl 2 (Seq.map T.encN ([], []) (Prod.fst (Prod.snd (Prod.fst x)))) Tip.none,
        AV.int IntKind.i64 (Prod.fst (Prod.snd (Prod.snd (Prod.fst x)))), AV.int IntKind.i64 (Prod.fst (Prod.snd (Prod.snd (Prod.snd (Prod.fst x))))),
        AV.sl 1 (Seq.map encB (0 : UInt8) (Prod.snd (Prod.snd (Prod.snd (Prod.snd (Prod.fst x)))))) Tip.none]])) →
    ASpec Try.prog 43 [AV.nilp, AV.int IntKind.i64 k] [] Post := fun k Post h => Go.Ab.ASpec.of_vc g43 Go.Proofs.Try.func43 (by kernel_rfl) (by kernel_rfl) (by kernel_rfl) (Go.Ab.kc (by kernel_rfl) h)

-- 44
noncomputable def l44 : Nat → List Nat
  | _ => []
noncomputable def u44 : Nat → Bool
  | _ => false
noncomputable def m44 : Nat → Bool
  | _ => false
noncomputable def g44 : Cfg := { N := 40, live := l44, cut := u44, mu := m44, ret := rets }
theorem s44 : ∀ (k a y : Int) (Post : AV → List AObj → Prop),
  (ASpec Try.prog 167 [AV.nilp, AV.int IntKind.i64 k]
      [AObj.cells [AV.int IntKind.i64 (0 : Int), AV.sl 0 (Seq.raw []) Tip.nil, AV.int IntKind.i64 (0 : Int), AV.int IntKind.i64 (0 : Int), AV.sl 0 (Seq.raw []) Tip.nil]]
      fun (r : AV) (H' : List AObj) =>
      ∃ (x : Bool),
        r = AV.bool x ∧
        H' = [AObj.cells [AV.int IntKind.i64 (0 : Int), AV.sl 0 (Seq.raw []) Tip.nil, AV.int IntKind.i64 (0 : Int), AV.int IntKind.i64 (0 : Int), AV.sl 0 (Seq.raw []) Tip.nil]] ∧
        condP (!x)
        (Post
        (AV.tup
        [AV.agg [AV.int IntKind.i64 (0 : Int), AV.sl 0 (Seq.raw []) Tip.nil, AV.int IntKind.i64 (0 : Int), AV.int IntKind.i64 (0 : Int), AV.sl 0 (Seq.raw []) Tip.nil],
        AV.bool false])
        [AObj.cells [AV.int IntKind.i64 (0 : Int), AV.sl 0 (Seq.raw []) Tip.nil, AV.int IntKind.i64 (0 : Int), AV.int IntKind.i64 (0 : Int), AV.sl 0 (Seq.raw []) Tip.nil]])
        (ASpec Try.prog 169 [AV.nilp, AV.int IntKind.i64 k]
        [AObj.cells [AV.int IntKind.i64 (0 : Int), AV.sl 0 (Seq.raw []) Tip.nil, AV.int IntKind.i64 (0 : Int), AV.int IntKind.i64 (0 : Int), AV.sl 0 (Seq.raw []) Tip.nil]]
        fun (r : AV) (H' : List AObj) =>
        ∃ (x : List UInt8),
        r = AV.sl 1 (Seq.map encB (0 : UInt8) x) Tip.none ∧
        H' =
        [AObj.cells
        [AV.int IntKind.i64 (0 : Int), AV.sl 0 (Seq.raw []) Tip.nil, AV.int IntKind.i64 (0 : Int), AV.int IntKind.i64 (0 : Int), AV.sl 0 (Seq.raw []) Tip.nil]] ∧
        condP (decide ((↑(List.length x) : Int) > (0 : Int)))
        (needP ((↑(List.length x) : Int) ≠ (0 : Int))
        (needP
        ((0 : Int) ≤ Int.tmod (if (0 : Int) > a then (0 : Int) else a) (↑(List.length x) : Int) ∧
        Int.tmod (if (0 : Int) > a then (0 : Int) else a) (↑(List.length x) : Int) < (↑(List.length x) : Int))
        (needP
        ((0 : Int) ≤ Int.tmod (if (0 : Int) > a then (0 : Int) else a) (↑(List.length x) : Int) ∧
        Int.tmod (if (0 : Int) > a then (0 : Int) else a) (↑(List.length x) : Int) < (↑(List.length x) : Int))
        False)))
        (ASpec Try.prog 168 [AV.nilp, AV.int IntKind.i64 k, AV.sl 1 (Seq.map encB (0 : UInt8) x) Tip.none]
        [AObj.cells
        [AV.int IntKind.i64 (0 : Int), AV.sl 0 (Seq.raw []) Tip.nil, AV.int IntKind.i64 (0 : Int), AV.int IntKind.i64 (0 : Int), AV.sl 0 (Seq.raw []) Tip.nil]]
        fun (r : AV) (H' : List AObj) =>
        ∃ (x : T.Ev × Bool × List T.Item × List T.Ev),
        r =
        AV.tup
        [AV.agg
        [AV.int IntKind.i64 (Prod.fst (Prod.fst x)), AV.sl 2 (Seq.map T.encN ([], []) (Prod.fst (Prod.snd (Prod.fst x)))) Tip.none,
        AV.int IntKind.i64 (Prod.fst (Prod.snd (Prod.snd (Prod.fst x)))), AV.int IntKind.i64 (Prod.fst (Prod.snd (Prod.snd (Prod.snd (Prod.fst x))))),
        AV.sl 1 (Seq.map encB (0 : UInt8) (Prod.snd (Prod.snd (Prod.snd (Prod.snd (Prod.fst x)))))) Tip.none],
        AV.bool (Prod.fst (Prod.snd x))] ∧
        H' =
        [AObj.cells
        [AV.int IntKind.i64 (0 : Int), AV.sl 0 (Seq.raw []) Tip.nil, AV.int IntKind.i64 (0 : Int), AV.int IntKind.i64 (0 : Int),
        AV.sl 0 (Seq.raw []) Tip.nil]] ∧
        Post
        (AV.tup
        [AV.agg
        [AV.int IntKind.i64 (Prod.fst (Prod.fst x)), AV.sl 2 (Seq.map T.encN ([], []) (Prod.fst (Prod.snd (Prod.fst x)))) Tip.none,
        AV.int IntKind.i64 (Prod.fst (Prod.snd (Prod.snd (Prod.fst x)))), AV.int IntKind.i64 (Prod.fst (Prod.snd (Prod.snd (Prod.snd (Prod.fst x))))),
        AV.sl 1 (Seq.map encB (0 : UInt8) (Prod.snd (Prod.snd (Prod.snd (Prod.snd (Prod.fst x)))))) Tip.none],
        AV.bool (Prod.fst (Prod.snd x))])
        [AObj.cells
        [AV.int IntKind.i64 (Prod.fst (Prod.fst x)), AV.sl 2 (Seq.map T.encN ([], []) (Prod.fst (Prod.snd (Prod.fst x)))) Tip.none,
        AV.int IntKind.i64 (Prod.fst (Prod.snd (Prod.snd (Prod.fst x)))), AV.int IntKind.i64 (Prod.fst (Prod.snd (Prod.snd (Prod.snd (Prod.fst x))))),
        AV.sl 1 (Seq.map encB (0 : UInt8) (Prod.snd (Prod.snd (Prod.snd (Prod.snd (Prod.fst x)))))) Tip.none]]))) →
    ASpec Try.prog 44 [AV.nilp, AV.int IntKind.i64 k, AV.int IntKind.i64 a, AV.int IntKind.u8 y] [] Post := fun k a y Post h => Go.Ab.ASpec.of_vc g44 Go.Proofs.Try.func44 (by kernel_rfl) (by kernel_rfl) (by kernel_rfl) (Go.Ab.kc (by kernel_rfl) h)

-- 51
noncomputable def l51 : Nat → List Nat
  | _ => []
noncomputable def u51 : Nat → Bool
  | _ => false
noncomputable def m51 : Nat → Bool
  | _ => false
noncomputable def g51 : Cfg := { N := 26, live := l51, cut := u51, mu := m51, ret := rets }
theorem s51 : ∀ (k o : Int) (Post : AV → List AObj → Prop),
  (ASpec Try.prog 167 [AV.nilp, AV.int IntKind.i64 k]
      [AObj.cells [AV.int IntKind.i64 (0 : Int), AV.sl 0 (Seq.raw []) Tip.nil, AV.int IntKind.i64 (0 : Int), AV.int IntKind.i64 (0 : Int), AV.sl 0 (Seq.raw []) Tip.nil]]
      fun (r : AV) (H' : List AObj) =>
      ∃ (x : Bool),
        r = AV.bool x ∧
        H' = [AObj.cells [AV.int IntKind.i64 (0 : Int), AV.sl 0 (Seq.raw []) Tip.nil, AV.int IntKind.i64 (0 : Int), AV.int IntKind.i64 (0 : Int), AV.sl 0 (Seq.raw []) Tip.nil]] ∧
        condP (!x)
        (Post
        (AV.tup
        [AV.agg [AV.int IntKind.i64 (0 : Int), AV.sl 0 (Seq.raw []) Tip.nil, AV.int IntKind.i64 (0 : Int), AV.int IntKind.i64 (0 : Int), AV.sl 0 (Seq.raw []) Tip.nil],
        AV.bool false])
        [AObj.cells [AV.int IntKind.i64 (0 : Int), AV.sl 0 (Seq.raw []) Tip.nil, AV.int IntKind.i64 (0 : Int), AV.int IntKind.i64 (0 : Int), AV.sl 0 (Seq.raw []) Tip.nil]])
        (ASpec Try.prog 167 [AV.nilp, AV.int IntKind.i64 o]
        [AObj.cells [AV.int IntKind.i64 (0 : Int), AV.sl 0 (Seq.raw []) Tip.nil, AV.int IntKind.i64 (0 : Int), AV.int IntKind.i64 (0 : Int), AV.sl 0 (Seq.raw []) Tip.nil]]
        fun (r : AV) (H' : List AObj) =>
        ∃ (x : Bool),
        r = AV.bool x ∧
        H' =
        [AObj.cells
        [AV.int IntKind.i64 (0 : Int), AV.sl 0 (Seq.raw []) Tip.nil, AV.int IntKind.i64 (0 : Int), AV.int IntKind.i64 (0 : Int), AV.sl 0 (Seq.raw []) Tip.nil]] ∧
        condP (!x)
        (ASpec Try.prog 169 [AV.nilp, AV.int IntKind.i64 k]
        [AObj.cells
        [AV.int IntKind.i64 (0 : Int), AV.sl 0 (Seq.raw []) Tip.nil, AV.int IntKind.i64 (0 : Int), AV.int IntKind.i64 (0 : Int), AV.sl 0 (Seq.raw []) Tip.nil]]
        fun (r : AV) (H' : List AObj) =>
        ∃ (x : List UInt8),
        r = AV.sl 1 (Seq.map encB (0 : UInt8) x) Tip.none ∧
        H' =
        [AObj.cells
        [AV.int IntKind.i64 (0 : Int), AV.sl 0 (Seq.raw []) Tip.nil, AV.int IntKind.i64 (0 : Int), AV.int IntKind.i64 (0 : Int),
        AV.sl 0 (Seq.raw []) Tip.nil]] ∧
        ASpec Try.prog 168 [AV.nilp, AV.int IntKind.i64 k, AV.sl 1 (Seq.map encB (0 : UInt8) x) Tip.none]
        [AObj.cells
        [AV.int IntKind.i64 (0 : Int), AV.sl 0 (Seq.raw []) Tip.nil, AV.int IntKind.i64 (0 : Int), AV.int IntKind.i64 (0 : Int),
        AV.sl 0 (Seq.raw []) Tip.nil]]
        fun (r : AV) (H' : List AObj) =>
        ∃ (x : T.Ev × Bool × List T.Item × List T.Ev),
        r =
        AV.tup
        [AV.agg
        [AV.int IntKind.i64 (Prod.fst (Prod.fst x)), AV.sl 2 (Seq.map T.encN ([], []) (Prod.fst (Prod.snd (Prod.fst x)))) Tip.none,
        AV.int IntKind.i64 (Prod.fst (Prod.snd (Prod.snd (Prod.fst x)))), AV.int IntKind.i64 (Prod.fst (Prod.snd (Prod.snd (Prod.snd (Prod.fst x))))),
        AV.sl 1 (Seq.map encB (0 : UInt8) (Prod.snd (Prod.snd (Prod.snd (Prod.snd (Prod.fst x)))))) Tip.none],
        AV.bool (Prod.fst (Prod.snd x))] ∧
        H' =
        [AObj.cells
        [AV.int IntKind.i64 (0 : Int), AV.sl 0 (Seq.raw []) Tip.nil, AV.int IntKind.i64 (0 : Int), AV.int IntKind.i64 (0 : Int),
        AV.sl 0 (Seq.raw []) Tip.nil]] ∧
        Post
        (AV.tup
        [AV.agg
        [AV.int IntKind.i64 (Prod.fst (Prod.fst x)), AV.sl 2 (Seq.map T.encN ([], []) (Prod.fst (Prod.snd (Prod.fst x)))) Tip.none,
        AV.int IntKind.i64 (Prod.fst (Prod.snd (Prod.snd (Prod.fst x)))), AV.int IntKind.i64 (Prod.fst (Prod.snd (Prod.snd (Prod.snd (Prod.fst x))))),
        AV.sl 1 (Seq.map encB (0 : UInt8) (Prod.snd (Prod.snd (Prod.snd (Prod.snd (Prod.fst x)))))) Tip.none],
        AV.bool (Prod.fst (Prod.snd x))])
        [AObj.cells
        [AV.int IntKind.i64 (Prod.fst (Prod.fst x)), AV.sl 2 (Seq.map T.encN ([], []) (Prod.fst (Prod.snd (Prod.fst x)))) Tip.none,
        AV.int IntKind.i64 (Prod.fst (Prod.snd (Prod.snd (Prod.fst x)))), AV.int IntKind.i64 (Prod.fst (Prod.snd (Prod.snd (Prod.snd (Prod.fst x))))),
        AV.sl 1 (Seq.map encB (0 : UInt8) (Prod.snd (Prod.snd (Prod.snd (Prod.snd (Prod.fst x)))))) Tip.none]])
        (ASpec Try.prog 169 [AV.nilp, AV.int IntKind.i64 o]
        [AObj.cells
        [AV.int IntKind.i64 (0 : Int), AV.sl 0 (Seq.raw []) Tip.nil, AV.int IntKind.i64 (0 : Int), AV.int IntKind.i64 (0 : Int), AV.sl 0 (Seq.raw []) Tip.nil]]
        fun (r : AV) (H' : List AObj) =>
        ∃ (x : List UInt8),
        r = AV.sl 1 (Seq.map encB (0 : UInt8) x) Tip.none ∧
        H' =
        [AObj.cells
        [AV.int IntKind.i64 (0 : Int), AV.sl 0 (Seq.raw []) Tip.nil, AV.int IntKind.i64 (0 : Int), AV.int IntKind.i64 (0 : Int),
        AV.sl 0 (Seq.raw []) Tip.nil]] ∧
        ASpec Try.prog 168 [AV.nilp, AV.int IntKind.i64 k, AV.sl 1 (Seq.map encB (0 : UInt8) x) Tip.none]
        [AObj.cells
        [AV.int IntKind.i64 (0 : Int), AV.sl 0 (Seq.raw []) Tip.nil, AV.int IntKind.i64 (0 : Int), AV.int IntKind.i64 (0 : Int),
        AV.sl 0 (Seq.raw []) Tip.nil]]
        fun (r : AV) (H' : List AObj) =>
        ∃ (x : T.Ev × Bool × List T.Item × List T.Ev),
        r =
        AV.tup
        [AV.agg
        [AV.int IntKind.i64 (Prod.fst (Prod.fst x)), AV.sl 2 (Seq.map T.encN ([], []) (Prod.fst (Prod.snd (Prod.fst x)))) Tip.none,
        AV.int IntKind.i64 (Prod.fst (Prod.snd (Prod.snd (Prod.fst x)))), AV.int IntKind.i64 (Prod.fst (Prod.snd (Prod.snd (Prod.snd (Prod.fst x))))),
        AV.sl 1 (Seq.map encB (0 : UInt8) (Prod.snd (Prod.snd (Prod.snd (Prod.snd (Prod.fst x)))))) Tip.none],
        AV.bool (Prod.fst (Prod.snd x))] ∧
        H' =
        [AObj.cells
        [AV.int IntKind.i64 (0 : Int), AV.sl 0 (Seq.raw []) Tip.nil, AV.int IntKind.i64 (0 : Int), AV.int IntKind.i64 (0 : Int),
        AV.sl 0 (Seq.raw []) Tip.nil]] ∧
        Post
        (AV.tup
        [AV.agg
        [AV.int IntKind.i64 (Prod.fst (Prod.fst x)), AV.sl 2 (Seq.map T.encN ([], []) (Prod.fst (Prod.snd (Prod.fst x)))) Tip.none,
        AV.int IntKind.i64 (Prod.fst (Prod.snd (Prod.snd (Prod.fst x)))), AV.int IntKind.i64 (Prod.fst (Prod.snd (Prod.snd (Prod.snd (Prod.fst x))))),
        AV.sl 1 (Seq.map encB (0 : UInt8) (Prod.snd (Prod.snd (Prod.snd (Prod.snd (Prod.fst x)))))) Tip.none],
        AV.bool (Prod.fst (Prod.snd x))])
        [AObj.cells
        [AV.int IntKind.i64 (Prod.fst (Prod.fst x)), AV.sl 2 (Seq.map T.encN ([], []) (Prod.fst (Prod.snd (Prod.fst x)))) Tip.none,
        AV.int IntKind.i64 (Prod.fst (Prod.snd (Prod.snd (Prod.fst x)))), AV.int IntKind.i64 (Prod.fst (Prod.snd (Prod.snd (Prod.snd (Prod.fst x))))),
        AV.sl 1 (Seq.map encB (0 : UInt8) (Prod.snd (Prod.snd (Prod.snd (Prod.snd (Prod.fst x)))))) Tip.none]]))) →
    ASpec Try.prog 51 [AV.nilp, AV.int IntKind.i64 k, AV.int IntKind.i64 o] [] Post := fun k o Post h => Go.Ab.ASpec.of_vc g51 Go.Proofs.Try.func51 (by kernel_rfl) (by kernel_rfl) (by kernel_rfl) (Go.Ab.kc (by kernel_rfl) h)

-- 52
noncomputable def l52 : Nat → List Nat
  | _ => []
noncomputable def u52 : Nat → Bool
  | _ => false
noncomputable def m52 : Nat → Bool
  | _ => false
noncomputable def g52 : Cfg := { N := 16, live := l52, cut := u52, mu := m52, ret := rets }
theorem s52 : ∀ (k : Int) (Post : AV → List AObj → Prop),
  (ASpec Try.prog 167 [AV.nilp, AV.int IntKind.i64 k]
      [AObj.cells [AV.int IntKind.i64 (0 : Int), AV.sl 0 (Seq.raw []) Tip.nil, AV.int IntKind.i64 (0 : Int), AV.int IntKind.i64 (0 : Int), AV.sl 0 (Seq.raw []) Tip.nil]]
      fun (r : AV) (H' : List AObj) =>
      ∃ (x : Bool),
        r = AV.bool x ∧
        H' = [AObj.cells [AV.int IntKind.i64 (0 : Int), AV.sl 0 (Seq.raw []) Tip.nil, AV.int IntKind.i64 (0 : Int), AV.int IntKind.i64 (0 : Int), AV.sl 0 (Seq.raw []) Tip.nil]] ∧
        condP (!x)
        (Post
        (AV.tup
        [AV.agg [AV.int IntKind.i64 (0 : Int), AV.sl 0 (Seq.raw []) Tip.nil, AV.int IntKind.i64 (0 : Int), AV.int IntKind.i64 (0 : Int), AV.sl 0 (Seq.raw []) Tip.nil],
        AV.bool false])
        [AObj.cells [AV.int IntKind.i64 (0 : Int), AV.sl 0 (Seq.raw []) Tip.nil, AV.int IntKind.i64 (0 : Int), AV.int IntKind.i64 (0 : Int), AV.sl 0 (Seq.raw []) Tip.nil]])
        (ASpec Try.prog 174 [AV.nilp, AV.int IntKind.i64 k]
        [AObj.cells [AV.int IntKind.i64 (0 : Int), AV.sl 0 (Seq.raw []) Tip.nil, AV.int IntKind.i64 (0 : Int), AV.int IntKind.i64 (0 : Int), AV.sl 0 (Seq.raw []) Tip.nil]]
        fun (r : AV) (H' : List AObj) =>
        ∃ (x : T.Item × List T.Item),
        r = AV.agg [AV.int IntKind.i64 (Prod.fst (Prod.fst x)), AV.str { data := List.toArray (Prod.snd (Prod.fst x)) }] ∧
        H' =
        [AObj.cells
        [AV.int IntKind.i64 (0 : Int), AV.sl 0 (Seq.raw []) Tip.nil, AV.int IntKind.i64 (0 : Int), AV.int IntKind.i64 (0 : Int), AV.sl 0 (Seq.raw []) Tip.nil]] ∧
        Post
        (AV.tup
        [AV.agg
        [AV.int IntKind.i64 (4 : Int), AV.sl 0 (Seq.raw []) Tip.nil, AV.int IntKind.i64 (0 : Int), AV.int IntKind.i64 (Prod.fst (Prod.fst x)),
        AV.sl 0 (Seq.raw []) Tip.nil],
        AV.bool true])
        [AObj.cells
        [AV.int IntKind.i64 (4 : Int), AV.sl 0 (Seq.raw []) Tip.nil, AV.int IntKind.i64 (0 : Int), AV.int IntKind.i64 (Prod.fst (Prod.fst x)),
        AV.sl 0 (Seq.raw []) Tip.nil]])) →
    ASpec Try.prog 52 [AV.nilp, AV.int IntKind.i64 k] [] Post := fun k Post h => Go.Ab.ASpec.of_vc g52 Go.Proofs.Try.func52 (by kernel_rfl) (by kernel_rfl) (by kernel_rfl) (Go.Ab.kc (by kernel_rfl) h)

-- 46
noncomputable def l46 : Nat → List Nat
  | _ => []
noncomputable def u46 : Nat → Bool
  | _ => false
noncomputable def m46 : Nat → Bool
  | _ => false
noncomputable def g46 : Cfg := { N := 38, live := l46, cut := u46, mu := m46, ret := rets }
theorem s46 : ∀ (k : Int) (Post : AV → List AObj → Prop),
  Post
      (AV.tup
        [AV.agg [AV.int IntKind.i64 (0 : Int), AV.sl 0 (Seq.raw []) Tip.nil, AV.int IntKind.i64 (0 : Int), AV.int IntKind.i64 (0 : Int), AV.sl 0 (Seq.raw []) Tip.nil], AV.bool false])
      [AObj.cells [AV.int IntKind.i64 (0 : Int), AV.sl 0 (Seq.raw []) Tip.nil, AV.int IntKind.i64 (0 : Int), AV.int IntKind.i64 (0 : Int), AV.sl 0 (Seq.raw []) Tip.nil]] →
    ASpec Try.prog 46 [AV.nilp, AV.int IntKind.i64 k] [] Post := fun k Post h => Go.Ab.ASpec.of_vc g46 Go.Proofs.Try.func46 (by kernel_rfl) (by kernel_rfl) (by kernel_rfl) (Go.Ab.kc (by kernel_rfl) h)

-- 53
noncomputable def l53 : Nat → List Nat
  | _ => []
noncomputable def u53 : Nat → Bool
  | _ => false
noncomputable def m53 : Nat → Bool
  | _ => false
noncomputable def g53 : Cfg := { N := 27, live := l53, cut := u53, mu := m53, ret := rets }
theorem s53 : ∀ (k : Int) (Post : AV → List AObj → Prop),
  (ASpec Try.prog 167 [AV.nilp, AV.int IntKind.i64 k] [] fun (r : AV) (H' : List AObj) =>
      ∃ (x : Bool), r = AV.bool x ∧ H' = [] ∧ condP (!x) (Post (AV.tup [AV.int IntKind.i64 (0 : Int), AV.str { data := #[] }, AV.bool false]) []) False) →
    ASpec Try.prog 53 [AV.nilp, AV.int IntKind.i64 k] [] Post := fun k Post h => Go.Ab.ASpec.of_vc g53 Go.Proofs.Try.func53 (by kernel_rfl) (by kernel_rfl) (by kernel_rfl) (Go.Ab.kc (by kernel_rfl) h)

-- 42
noncomputable def l42 : Nat → List Nat
  | 3 => [0, 5, 8, 9, 10]
  | _ => []
noncomputable def u42 : Nat → Bool
  | _ => false
noncomputable def m42 : Nat → Bool
  | _ => false
noncomputable def g42 : Cfg := { N := 39, live := l42, cut := u42, mu := m42, ret := rets }
noncomputable def c42 : Go.Code := Go.Ab.bodyOf Go.Proofs.Try.f42
noncomputable def q42_0 : Nat → (AV → List AObj → Prop) → AQ := fun (n : Nat) (Post : AV → List AObj → Prop) => endQ Try.prog (resultsOf Try.f42) Post
noncomputable def q42_1 : Nat → (AV → List AObj → Prop) → AQ := fun (n : Nat) (Post : AV → List AObj → Prop) => seqQ (fun (s' : Slots) (H' : List AObj) => awp Try.prog g42 n (codeSnd (codeSnd (codeSnd c42))) s' H' (q42_0 n Post)) (q42_0 n Post)
noncomputable def q42_2 : Nat → (AV → List AObj → Prop) → AQ := fun (n : Nat) (Post : AV → List AObj → Prop) => blockQ 0 (q42_1 n Post)
noncomputable def c42_3 : Go.Code := codeFst (codeSnd (codeFst (codeSnd (codeSnd c42))))
theorem s42 : ∀ (l : List T.Ac) (Post : AV → List AObj → Prop),
  AWP Try.prog 39 0 c42_3
      [(0, AV.nilp), (5, AV.int IntKind.i64 (0 : Int)), (8, AV.sl 7 (Seq.map T.encA ((0 : Int), (0 : Int), []) l) Tip.none),
        (9, AV.int IntKind.i64 (↑(List.length l) : Int)), (10, AV.int IntKind.i64 (0 : Int))]
      [] (q42_2 0 Post) →
    ASpec Try.prog 42 [AV.nilp, AV.sl 7 (Seq.map T.encA ((0 : Int), (0 : Int), []) l) Tip.none] [] Post := fun l Post h => Go.Ab.ASpec.of_vc g42 Go.Proofs.Try.func42 (by kernel_rfl) (by kernel_rfl) (by kernel_rfl) (Go.Ab.kc (by kernel_rfl) h)
theorem v42_3 : ∀ (l : List T.Ac) (m n i : Int) (n_1 : Nat) (Post : AV → List AObj → Prop),
  condP (decide (i < n))
      (needP ((0 : Int) ≤ i ∧ i < (↑(List.length l) : Int))
        (AWP Try.prog 39 n_1 c42_3
        [(0, AV.nilp), (5, AV.int IntKind.i64 m), (8, AV.sl 7 (Seq.map T.encA ((0 : Int), (0 : Int), []) l) Tip.none), (9, AV.int IntKind.i64 n),
        (10, AV.int IntKind.i64 (IntKind.wrap IntKind.i64 (i + (1 : Int))))]
        [AObj.cells
        [AV.int IntKind.i64 (Prod.fst (List.getD l (Int.toNat i) ((0 : Int), (0 : Int), []))), AV.int IntKind.i64 (Prod.fst (Prod.snd (List.getD l (Int.toNat i) ((0 : Int), (0 : Int), [])))),
        AV.str { data := List.toArray (Prod.snd (Prod.snd (List.getD l (Int.toNat i) ((0 : Int), (0 : Int), [])))) }, AV.int IntKind.i64 (0 : Int), AV.int IntKind.i64 (0 : Int),
        AV.sl 0 (Seq.raw []) Tip.nil, AV.sl 0 (Seq.raw []) Tip.nil]]
        (q42_2 n_1 Post)))
      (Post (AV.int IntKind.i64 m) []) →
    AWP Try.prog 39 n_1 c42_3
      [(0, AV.nilp), (5, AV.int IntKind.i64 m), (8, AV.sl 7 (Seq.map T.encA ((0 : Int), (0 : Int), []) l) Tip.none), (9, AV.int IntKind.i64 n),
        (10, AV.int IntKind.i64 i)]
      [] (q42_2 n_1 Post) := fun l m n i n Post h => Go.Ab.AWP.loop' g42 (Cfg.live g42) c42_3 (by kernel_rfl) (by kernel_rfl) (Go.Ab.kc (by kernel_rfl) h)

end
end Sn
end

section
/- Printed: what the code of functions 323, 262, 169, 42, 44 asks for, by the framework's own reading of it; each line is checked against the code. -/

set_option linter.unusedVariables false
set_option maxRecDepth 100000
set_option maxHeartbeats 4000000
open Go Go.Ab Go.Proofs
namespace Sb
noncomputable section

noncomputable def retB : List (Nat × Ret) := [(323, ⟨List UInt8, fun _ H x => .msl 1 H.length 0 x.length, fun _ H x => H ++ [.arr 1 (.map encB 0 x)]⟩), (262, ⟨List UInt8, fun _ H x => .msl 1 H.length 0 x.length, fun _ H x => H ++ [.arr 1 (.map encB 0 x)]⟩), (169, ⟨List UInt8, fun _ H x => .msl 1 H.length 0 x.length, fun _ H x => H ++ [.arr 1 (.map encB 0 x)]⟩)]
noncomputable def rets : FuncId → List Ret := fun f => match lookupR retB f with
  | [] => Sd.rets f
  | l => l

-- 323
noncomputable def l323 : Nat → List Nat
  | _ => []
noncomputable def u323 : Nat → Bool
  | _ => false
noncomputable def m323 : Nat → Bool
  | 10 => true
  | _ => false
noncomputable def g323 : Cfg := { N := 28, live := l323, cut := u323, mu := m323, ret := rets }
theorem s323 : ∀ (bs : List UInt8) (Post : AV → List AObj → Prop),
  (ASpec Try.prog 372 [AV.sl 1 (Seq.map encB (0 : UInt8) bs) Tip.none] [] fun (r : AV) (H' : List AObj) =>
      ∃ (x : Int),
        r = AV.int IntKind.u32 x ∧
        H' = [] ∧
        needP
        ((0 : Int) ≤ (0 : Int) ∧
        (0 : Int) ≤ IntKind.wrap IntKind.i64 ((↑(List.length bs) : Int) + (4 : Int)) ∧
        IntKind.wrap IntKind.i64 ((↑(List.length bs) : Int) + (4 : Int)) ≤ (9223372036854775807 : Int) ∧
        (1 : Int) * IntKind.wrap IntKind.i64 ((↑(List.length bs) : Int) + (4 : Int)) ≤ (281474976710656 : Int))
        (needP (∀ (x : UInt8), List.all (encB x) oneAV = true)
        (needP (0 = 0 ∧ (0 + List.length bs) * 1 ≤ 140737488351232)
        (needP ((0 : Int) ≤ (24 : Int))
        (needP ((0 : Int) ≤ (16 : Int))
        (needP ((0 : Int) ≤ (8 : Int))
        (needP (0 + List.length bs = 0 + List.length bs ∧ (0 + List.length bs + 4) * 1 ≤ 140737488351232)
        (Post (AV.msl 1 2 0 (0 + List.length bs + 4))
        [AObj.gone, AObj.gone,
        AObj.arr 1
        (Seq.app (Seq.app (Seq.raw []) (Seq.map encB (0 : UInt8) bs))
        (Seq.raw
        [[AV.int IntKind.u8 (IntKind.wrap IntKind.u8 (Int.fdiv x (16777216 : Int)))], [AV.int IntKind.u8 (IntKind.wrap IntKind.u8 (Int.fdiv x (65536 : Int)))],
        [AV.int IntKind.u8 (IntKind.wrap IntKind.u8 (Int.fdiv x (256 : Int)))], [AV.int IntKind.u8 (IntKind.wrap IntKind.u8 x)]]))])))))))) →
    ASpec Try.prog 323 [AV.sl 1 (Seq.map encB (0 : UInt8) bs) Tip.none] [] Post := fun bs Post h => Go.Ab.ASpec.of_vc g323 Go.Proofs.Try.func323 (by kernel_rfl) (by kernel_rfl) (by kernel_rfl) (Go.Ab.kc (by kernel_rfl) h)

-- 262
noncomputable def l262 : Nat → List Nat
  | _ => []
noncomputable def u262 : Nat → Bool
  | _ => false
noncomputable def m262 : Nat → Bool
  | _ => false
noncomputable def g262 : Cfg := { N := 19, live := l262, cut := u262, mu := m262, ret := rets }
theorem s262 : ∀ (s : ByteArray) (bs : List UInt8) (Post : AV → List AObj → Prop),
  (ASpec Try.prog 154 [AV.str s] [] fun (r : AV) (H' : List AObj) =>
      ∃ (x : Bool),
        r = AV.bool x ∧
        H' = [] ∧
        condP (!x) (Post (AV.sl 0 (Seq.raw []) Tip.nil) [])
        (condP (decide ((↑(List.length bs) : Int) > (8192 : Int))) (Post (AV.sl 0 (Seq.raw []) Tip.nil) [])
        (needP (allBytes (Seq.map encB (0 : UInt8) bs))
        (ASpec Try.prog 141 [AV.sl 0 (Seq.raw []) Tip.nil, AV.str s] [] fun (r : AV) (H' : List AObj) =>
        ∃ (x : List UInt8),
        r = AV.sl 1 (Seq.map encB (0 : UInt8) x) (Tip.tok 0) ∧
        H' = [AObj.tok] ∧
        ASpec Try.prog 141 [AV.sl 1 (Seq.map encB (0 : UInt8) x) (Tip.tok 0), AV.str (bytesOf (Seq.map encB (0 : UInt8) bs))] [AObj.tok]
        fun (r : AV) (H' : List AObj) =>
        ∃ (x : List UInt8),
        r = AV.sl 1 (Seq.map encB (0 : UInt8) x) (Tip.tok 1) ∧
        H' = [AObj.tok, AObj.tok] ∧
        ASpec Try.prog 323 [AV.sl 1 (Seq.map encB (0 : UInt8) x) (Tip.tok 1)] [AObj.tok, AObj.tok] fun (r : AV) (H' : List AObj) =>
        ∃ (x : List UInt8),
        r = AV.msl 1 2 0 (List.length x) ∧
        H' = [AObj.tok, AObj.tok, AObj.arr 1 (Seq.map encB (0 : UInt8) x)] ∧
        Post (AV.msl 1 2 0 (List.length x)) [AObj.tok, AObj.tok, AObj.arr 1 (Seq.map encB (0 : UInt8) x)])))) →
    ASpec Try.prog 262 [AV.str s, AV.sl 1 (Seq.map encB (0 : UInt8) bs) Tip.none] [] Post := fun s bs Post h => Go.Ab.ASpec.of_vc g262 Go.Proofs.Try.func262 (by kernel_rfl) (by kernel_rfl) (by kernel_rfl) (Go.Ab.kc (by kernel_rfl) h)

-- 169
noncomputable def l169 : Nat → List Nat
  | _ => []
noncomputable def u169 : Nat → Bool
  | _ => false
noncomputable def m169 : Nat → Bool
  | _ => false
noncomputable def g169 : Cfg := { N := 22, live := l169, cut := u169, mu := m169, ret := rets }
theorem s169 : ∀ (D : List T.Ent) (W : List T.Item) (S : List T.Ev) (k : Int) (Post : AV → List AObj → Prop),
  needP ((0 : Int) ≤ k ∧ k < (↑(List.length W) : Int))
      (ASpec Try.prog 61 [AV.sl 2 (Seq.map T.encEn ([], []) D) Tip.none, AV.str { data := List.toArray (Prod.snd (List.getD W (Int.toNat k) ((0 : Int), []))) }]
        [AObj.cells
        [AV.sl 2 (Seq.map T.encEn ([], []) D) Tip.none, AV.sl 2 (Seq.map T.encIt ((0 : Int), []) W) (Tip.tok 1),
        AV.sl 1 (Seq.map T.encSn T.noEv S) (Tip.tok 2)],
        AObj.tok, AObj.tok]
        fun (r : AV) (H' : List AObj) =>
        ∃ (x : List UInt8),
        r = AV.sl 1 (Seq.map encB (0 : UInt8) x) Tip.none ∧
        H' =
        [AObj.cells
        [AV.sl 2 (Seq.map T.encEn ([], []) D) Tip.none, AV.sl 2 (Seq.map T.encIt ((0 : Int), []) W) (Tip.tok 1),
        AV.sl 1 (Seq.map T.encSn T.noEv S) (Tip.tok 2)],
        AObj.tok, AObj.tok] ∧
        ASpec Try.prog 262 [AV.str { data := List.toArray (Prod.snd (List.getD W (Int.toNat k) ((0 : Int), []))) }, AV.sl 1 (Seq.map encB (0 : UInt8) x) Tip.none]
        [AObj.cells
        [AV.sl 2 (Seq.map T.encEn ([], []) D) Tip.none, AV.sl 2 (Seq.map T.encIt ((0 : Int), []) W) (Tip.tok 1),
        AV.sl 1 (Seq.map T.encSn T.noEv S) (Tip.tok 2)],
        AObj.tok, AObj.tok]
        fun (r : AV) (H' : List AObj) =>
        ∃ (x : List UInt8),
        r = AV.msl 1 3 0 (List.length x) ∧
        H' =
        [AObj.cells
        [AV.sl 2 (Seq.map T.encEn ([], []) D) Tip.none, AV.sl 2 (Seq.map T.encIt ((0 : Int), []) W) (Tip.tok 1),
        AV.sl 1 (Seq.map T.encSn T.noEv S) (Tip.tok 2)],
        AObj.tok, AObj.tok, AObj.arr 1 (Seq.map encB (0 : UInt8) x)] ∧
        Post (AV.msl 1 3 0 (List.length x))
        [AObj.cells
        [AV.sl 2 (Seq.map T.encEn ([], []) D) Tip.none, AV.sl 2 (Seq.map T.encIt ((0 : Int), []) W) (Tip.tok 1),
        AV.sl 1 (Seq.map T.encSn T.noEv S) (Tip.tok 2)],
        AObj.tok, AObj.tok, AObj.arr 1 (Seq.map encB (0 : UInt8) x)]) →
    ASpec Try.prog 169 [AV.ptr 0 0, AV.int IntKind.i64 k] (T.HS D W S) Post := fun D W S k Post h => Go.Ab.ASpec.of_vc g169 Go.Proofs.Try.func169 (by kernel_rfl) (by kernel_rfl) (by kernel_rfl) (Go.Ab.kc (by kernel_rfl) h)

-- 42
noncomputable def l42 : Nat → List Nat
  | 3 => [0, 5, 8, 9, 10]
  | _ => []
noncomputable def u42 : Nat → Bool
  | _ => false
noncomputable def m42 : Nat → Bool
  | _ => false
noncomputable def g42 : Cfg := { N := 39, live := l42, cut := u42, mu := m42, ret := rets }
noncomputable def c42 : Go.Code := Go.Ab.bodyOf Go.Proofs.Try.f42
noncomputable def q42_0 : Nat → (AV → List AObj → Prop) → AQ := fun (n : Nat) (Post : AV → List AObj → Prop) => endQ Try.prog (resultsOf Try.f42) Post
noncomputable def q42_1 : Nat → (AV → List AObj → Prop) → AQ := fun (n : Nat) (Post : AV → List AObj → Prop) => seqQ (fun (s' : Slots) (H' : List AObj) => awp Try.prog g42 n (codeSnd (codeSnd (codeSnd c42))) s' H' (q42_0 n Post)) (q42_0 n Post)
noncomputable def q42_2 : Nat → (AV → List AObj → Prop) → AQ := fun (n : Nat) (Post : AV → List AObj → Prop) => blockQ 0 (q42_1 n Post)
noncomputable def c42_3 : Go.Code := codeFst (codeSnd (codeFst (codeSnd (codeSnd c42))))
theorem v42_3 : ∀ (D : List T.Ent) (W : List T.Item) (S : List T.Ev) (l : List T.Ac) (m n i : Int) (n_1 : Nat) (Post : AV → List AObj → Prop),
  condP (decide (i < n))
      (needP ((0 : Int) ≤ i ∧ i < (↑(List.length l) : Int))
        (condP (Prod.fst (List.getD l (Int.toNat i) ((0 : Int), (0 : Int), [])) == (1 : Int))
        (needP ((List.length W + 1) * 24 ≤ 140737488351232)
        (AWP Try.prog 39 n_1 c42_3
        [(0, AV.ptr 0 0), (5, AV.int IntKind.i64 (IntKind.wrap IntKind.i64 (m + (1 : Int)))),
        (8, AV.sl 7 (Seq.map T.encA ((0 : Int), (0 : Int), []) l) Tip.none), (9, AV.int IntKind.i64 n),
        (10, AV.int IntKind.i64 (IntKind.wrap IntKind.i64 (i + (1 : Int))))]
        [AObj.cells
        [AV.sl 2 (Seq.map T.encEn ([], []) D) Tip.none,
        AV.sl 2
        (Seq.app (Seq.map T.encIt ((0 : Int), []) W)
        (Seq.raw
        [[AV.int IntKind.i64 (Prod.fst (Prod.snd (List.getD l (Int.toNat i) ((0 : Int), (0 : Int), [])))),
        AV.str { data := List.toArray (Prod.snd (Prod.snd (List.getD l (Int.toNat i) ((0 : Int), (0 : Int), [])))) }]]))
        (Tip.tok 5),
        AV.sl 1 (Seq.map T.encSn T.noEv S) (Tip.tok 2)],
        AObj.gone, AObj.tok, AObj.gone,
        AObj.cells
        [AV.int IntKind.i64 (Prod.fst (List.getD l (Int.toNat i) ((0 : Int), (0 : Int), []))),
        AV.int IntKind.i64 (Prod.fst (Prod.snd (List.getD l (Int.toNat i) ((0 : Int), (0 : Int), [])))),
        AV.str { data := List.toArray (Prod.snd (Prod.snd (List.getD l (Int.toNat i) ((0 : Int), (0 : Int), [])))) }, AV.int IntKind.i64 (0 : Int), AV.int IntKind.i64 (0 : Int),
        AV.sl 0 (Seq.raw []) Tip.nil, AV.sl 0 (Seq.raw []) Tip.nil],
        AObj.tok]
        (q42_2 n_1 Post)))
        (AWP Try.prog 39 n_1 c42_3
        [(0, AV.ptr 0 0), (5, AV.int IntKind.i64 m), (8, AV.sl 7 (Seq.map T.encA ((0 : Int), (0 : Int), []) l) Tip.none),
        (9, AV.int IntKind.i64 n), (10, AV.int IntKind.i64 (IntKind.wrap IntKind.i64 (i + (1 : Int))))]
        [AObj.cells
        [AV.sl 2 (Seq.map T.encEn ([], []) D) Tip.none, AV.sl 2 (Seq.map T.encIt ((0 : Int), []) W) (Tip.tok 3),
        AV.sl 1 (Seq.map T.encSn T.noEv S) (Tip.tok 2)],
        AObj.gone, AObj.tok, AObj.tok,
        AObj.cells
        [AV.int IntKind.i64 (Prod.fst (List.getD l (Int.toNat i) ((0 : Int), (0 : Int), []))), AV.int IntKind.i64 (Prod.fst (Prod.snd (List.getD l (Int.toNat i) ((0 : Int), (0 : Int), [])))),
        AV.str { data := List.toArray (Prod.snd (Prod.snd (List.getD l (Int.toNat i) ((0 : Int), (0 : Int), [])))) }, AV.int IntKind.i64 (0 : Int), AV.int IntKind.i64 (0 : Int),
        AV.sl 0 (Seq.raw []) Tip.nil, AV.sl 0 (Seq.raw []) Tip.nil]]
        (q42_2 n_1 Post))))
      (Post (AV.int IntKind.i64 m)
        [AObj.cells
        [AV.sl 2 (Seq.map T.encEn ([], []) D) Tip.none, AV.sl 2 (Seq.map T.encIt ((0 : Int), []) W) (Tip.tok 3),
        AV.sl 1 (Seq.map T.encSn T.noEv S) (Tip.tok 2)],
        AObj.gone, AObj.tok, AObj.tok]) →
    AWP Try.prog 39 n_1 c42_3
      [(0, AV.ptr 0 0), (5, AV.int IntKind.i64 m), (8, AV.sl 7 (Seq.map T.encA ((0 : Int), (0 : Int), []) l) Tip.none),
        (9, AV.int IntKind.i64 n), (10, AV.int IntKind.i64 i)]
      (T.HS2 D W S) (q42_2 n_1 Post) := fun D W S l m n i n Post h => Go.Ab.AWP.loop' g42 (Cfg.live g42) c42_3 (by kernel_rfl) (by kernel_rfl) (Go.Ab.kc (by kernel_rfl) h)

-- 44
noncomputable def l44 : Nat → List Nat
  | 6 => [0, 1, 8, 10]
  | _ => []
noncomputable def u44 : Nat → Bool
  | 6 => true
  | _ => false
noncomputable def m44 : Nat → Bool
  | _ => false
noncomputable def g44 : Cfg := { N := 40, live := l44, cut := u44, mu := m44, ret := rets }
noncomputable def c44 : Go.Code := Go.Ab.bodyOf Go.Proofs.Try.f44
noncomputable def q44_0 : Nat → (AV → List AObj → Prop) → AQ := fun (n : Nat) (Post : AV → List AObj → Prop) => endQ Try.prog (resultsOf Try.f44) Post
noncomputable def c44_6 : Go.Code := codeSnd (codeSnd (codeSnd (codeSnd c44)))
theorem s44 : ∀ (D : List T.Ent) (W : List T.Item) (S : List T.Ev) (k a y : Int) (Post : AV → List AObj → Prop),
  (ASpec Try.prog 167 [AV.ptr 0 0, AV.int IntKind.i64 k]
      [AObj.cells
        [AV.sl 2 (Seq.map T.encEn ([], []) D) Tip.none, AV.sl 2 (Seq.map T.encIt ((0 : Int), []) W) (Tip.tok 1),
        AV.sl 1 (Seq.map T.encSn T.noEv S) (Tip.tok 2)],
        AObj.tok, AObj.tok,
        AObj.cells [AV.int IntKind.i64 (0 : Int), AV.sl 0 (Seq.raw []) Tip.nil, AV.int IntKind.i64 (0 : Int), AV.int IntKind.i64 (0 : Int), AV.sl 0 (Seq.raw []) Tip.nil]]
      fun (r : AV) (H' : List AObj) =>
      ∃ (x : Bool),
        r = AV.bool x ∧
        H' =
        [AObj.cells
        [AV.sl 2 (Seq.map T.encEn ([], []) D) Tip.none, AV.sl 2 (Seq.map T.encIt ((0 : Int), []) W) (Tip.tok 1),
        AV.sl 1 (Seq.map T.encSn T.noEv S) (Tip.tok 2)],
        AObj.tok, AObj.tok,
        AObj.cells [AV.int IntKind.i64 (0 : Int), AV.sl 0 (Seq.raw []) Tip.nil, AV.int IntKind.i64 (0 : Int), AV.int IntKind.i64 (0 : Int), AV.sl 0 (Seq.raw []) Tip.nil]] ∧
        condP (!x)
        (Post
        (AV.tup
        [AV.agg [AV.int IntKind.i64 (0 : Int), AV.sl 0 (Seq.raw []) Tip.nil, AV.int IntKind.i64 (0 : Int), AV.int IntKind.i64 (0 : Int), AV.sl 0 (Seq.raw []) Tip.nil],
        AV.bool false])
        [AObj.cells
        [AV.sl 2 (Seq.map T.encEn ([], []) D) Tip.none, AV.sl 2 (Seq.map T.encIt ((0 : Int), []) W) (Tip.tok 1),
        AV.sl 1 (Seq.map T.encSn T.noEv S) (Tip.tok 2)],
        AObj.tok, AObj.tok,
        AObj.cells [AV.int IntKind.i64 (0 : Int), AV.sl 0 (Seq.raw []) Tip.nil, AV.int IntKind.i64 (0 : Int), AV.int IntKind.i64 (0 : Int), AV.sl 0 (Seq.raw []) Tip.nil]])
        (ASpec Try.prog 169 [AV.ptr 0 0, AV.int IntKind.i64 k]
        [AObj.cells
        [AV.sl 2 (Seq.map T.encEn ([], []) D) Tip.none, AV.sl 2 (Seq.map T.encIt ((0 : Int), []) W) (Tip.tok 1),
        AV.sl 1 (Seq.map T.encSn T.noEv S) (Tip.tok 2)],
        AObj.tok, AObj.tok,
        AObj.cells [AV.int IntKind.i64 (0 : Int), AV.sl 0 (Seq.raw []) Tip.nil, AV.int IntKind.i64 (0 : Int), AV.int IntKind.i64 (0 : Int), AV.sl 0 (Seq.raw []) Tip.nil]]
        fun (r : AV) (H' : List AObj) =>
        ∃ (x_1 : List UInt8),
        r = AV.msl 1 4 0 (List.length x_1) ∧
        H' =
        [AObj.cells
        [AV.sl 2 (Seq.map T.encEn ([], []) D) Tip.none, AV.sl 2 (Seq.map T.encIt ((0 : Int), []) W) (Tip.tok 1),
        AV.sl 1 (Seq.map T.encSn T.noEv S) (Tip.tok 2)],
        AObj.tok, AObj.tok,
        AObj.cells
        [AV.int IntKind.i64 (0 : Int), AV.sl 0 (Seq.raw []) Tip.nil, AV.int IntKind.i64 (0 : Int), AV.int IntKind.i64 (0 : Int), AV.sl 0 (Seq.raw []) Tip.nil],
        AObj.arr 1 (Seq.map encB (0 : UInt8) x_1)] ∧
        condP (decide ((↑(List.length x_1) : Int) > (0 : Int)))
        (needP ((↑(List.length x_1) : Int) ≠ (0 : Int))
        (needP
        ((0 : Int) ≤ Int.tmod (if (0 : Int) > a then (0 : Int) else a) (↑(List.length x_1) : Int) ∧
        Int.tmod (if (0 : Int) > a then (0 : Int) else a) (↑(List.length x_1) : Int) < (↑(List.length x_1) : Int))
        (needP (0 + Int.toNat (Int.tmod (if (0 : Int) > a then (0 : Int) else a) (↑(List.length x_1) : Int)) < List.length x_1)
        (needP
        ((0 : Int) ≤ Int.tmod (if (0 : Int) > a then (0 : Int) else a) (↑(List.length x_1) : Int) ∧
        Int.tmod (if (0 : Int) > a then (0 : Int) else a) (↑(List.length x_1) : Int) < (↑(List.length x_1) : Int))
        (needP (0 + Int.toNat (Int.tmod (if (0 : Int) > a then (0 : Int) else a) (↑(List.length x_1) : Int)) < List.length x_1)
        (AWP Try.prog 40 3 c44_6
        [(0, AV.ptr 0 0), (1, AV.int IntKind.i64 k), (8, AV.ptr 3 0),
        (10, AV.msl 1 4 0 (List.length x_1))]
        [AObj.cells
        [AV.sl 2 (Seq.map T.encEn ([], []) D) Tip.none, AV.sl 2 (Seq.map T.encIt ((0 : Int), []) W) (Tip.tok 1),
        AV.sl 1 (Seq.map T.encSn T.noEv S) (Tip.tok 2)],
        AObj.tok, AObj.tok,
        AObj.cells
        [AV.int IntKind.i64 (0 : Int), AV.sl 0 (Seq.raw []) Tip.nil, AV.int IntKind.i64 (0 : Int), AV.int IntKind.i64 (0 : Int),
        AV.sl 0 (Seq.raw []) Tip.nil],
        AObj.arr 1
        (Seq.raw
        (List.set (Seq.toList (Seq.map encB (0 : UInt8) x_1)) (0 + Int.toNat (Int.tmod (if (0 : Int) > a then (0 : Int) else a) (↑(List.length x_1) : Int)))
        (splice (encB (List.getD x_1 (0 + Int.toNat (Int.tmod (if (0 : Int) > a then (0 : Int) else a) (↑(List.length x_1) : Int))) (0 : UInt8))) 0
        [ev
        [(33,
        AV.mptr 1 4 (0 + Int.toNat (Int.tmod (if (0 : Int) > a then (0 : Int) else a) (↑(List.length x_1) : Int))) 0),
        (32,
        AV.int IntKind.u8
        (IntKind.wrap IntKind.u8
        ((↑(UInt8.toNat
        (List.getD x_1 (0 + Int.toNat (Int.tmod (if (0 : Int) > a then (0 : Int) else a) (↑(List.length x_1) : Int))) (0 : UInt8))) :
        Int) +
        if (1 : Int) > y then (1 : Int) else y))),
        (31, AV.int IntKind.u8 (if (1 : Int) > y then (1 : Int) else y)), (30, AV.int IntKind.u8 y),
        (29,
        AV.int IntKind.u8
        (↑(UInt8.toNat
        (List.getD x_1 (0 + Int.toNat (Int.tmod (if (0 : Int) > a then (0 : Int) else a) (↑(List.length x_1) : Int))) (0 : UInt8))) :
        Int)),
        (28,
        AV.mptr 1 4 (0 + Int.toNat (Int.tmod (if (0 : Int) > a then (0 : Int) else a) (↑(List.length x_1) : Int))) 0),
        (27, AV.int IntKind.i64 (Int.tmod (if (0 : Int) > a then (0 : Int) else a) (↑(List.length x_1) : Int))),
        (26, AV.int IntKind.i64 (↑(List.length x_1) : Int)), (25, AV.msl 1 4 0 (List.length x_1)),
        (24, AV.int IntKind.i64 (if (0 : Int) > a then (0 : Int) else a)), (23, AV.int IntKind.i64 a),
        (22, AV.msl 1 4 0 (List.length x_1)), (21, AV.bool (decide ((↑(List.length x_1) : Int) > (0 : Int)))),
        (20, AV.int IntKind.i64 (↑(List.length x_1) : Int)), (19, AV.msl 1 4 0 (List.length x_1)),
        (10, AV.msl 1 4 0 (List.length x_1)), (18, AV.msl 1 4 0 (List.length x_1)),
        (17, AV.int IntKind.i64 k), (16, AV.ptr 0 0), (14, AV.bool !x), (13, AV.bool x),
        (12, AV.int IntKind.i64 k), (11, AV.ptr 0 0), (9, AV.bool false), (8, AV.ptr 3 0),
        (0, AV.ptr 0 0), (1, AV.int IntKind.i64 k), (2, AV.int IntKind.i64 a), (3, AV.int IntKind.u8 y)]
        (Operand.tmp 32)])))]
        (q44_0 3 Post)))))))
        (AWP Try.prog 40 3 c44_6
        [(0, AV.ptr 0 0), (1, AV.int IntKind.i64 k), (8, AV.ptr 3 0),
        (10, AV.msl 1 4 0 (List.length x_1))]
        [AObj.cells
        [AV.sl 2 (Seq.map T.encEn ([], []) D) Tip.none, AV.sl 2 (Seq.map T.encIt ((0 : Int), []) W) (Tip.tok 1),
        AV.sl 1 (Seq.map T.encSn T.noEv S) (Tip.tok 2)],
        AObj.tok, AObj.tok,
        AObj.cells
        [AV.int IntKind.i64 (0 : Int), AV.sl 0 (Seq.raw []) Tip.nil, AV.int IntKind.i64 (0 : Int), AV.int IntKind.i64 (0 : Int), AV.sl 0 (Seq.raw []) Tip.nil],
        AObj.arr 1 (Seq.map encB (0 : UInt8) x_1)]
        (q44_0 3 Post)))) →
    ASpec Try.prog 44 [AV.ptr 0 0, AV.int IntKind.i64 k, AV.int IntKind.i64 a, AV.int IntKind.u8 y] (T.HS D W S) Post := fun D W S k a y Post h => Go.Ab.ASpec.of_vc g44 Go.Proofs.Try.func44 (by kernel_rfl) (by kernel_rfl) (by kernel_rfl) (Go.Ab.kc (by kernel_rfl) h)
theorem v44_6 : ∀ (D : List T.Ent) (W : List T.Item) (S : List T.Ev) (k : Int) (b : List UInt8) (n : Nat) (Post : AV → List AObj → Prop),
  (ASpec Try.prog 168 [AV.ptr 0 0, AV.int IntKind.i64 k, AV.sl 1 (Seq.map encB (0 : UInt8) b) Tip.none]
      [AObj.cells
        [AV.sl 2 (Seq.map T.encEn ([], []) D) Tip.none, AV.sl 2 (Seq.map T.encIt ((0 : Int), []) W) (Tip.tok 1),
        AV.sl 1 (Seq.map T.encSn T.noEv S) (Tip.tok 2)],
        AObj.tok, AObj.tok,
        AObj.cells [AV.int IntKind.i64 (0 : Int), AV.sl 0 (Seq.raw []) Tip.nil, AV.int IntKind.i64 (0 : Int), AV.int IntKind.i64 (0 : Int), AV.sl 0 (Seq.raw []) Tip.nil]]
      fun (r : AV) (H' : List AObj) =>
      ∃ (x : T.Ev × Bool × List T.Item × List T.Ev),
        r =
        AV.tup
        [AV.agg
        [AV.int IntKind.i64 (Prod.fst (Prod.fst x)), AV.sl 2 (Seq.map T.encN ([], []) (Prod.fst (Prod.snd (Prod.fst x)))) Tip.none,
        AV.int IntKind.i64 (Prod.fst (Prod.snd (Prod.snd (Prod.fst x)))), AV.int IntKind.i64 (Prod.fst (Prod.snd (Prod.snd (Prod.snd (Prod.fst x))))),
        AV.sl 1 (Seq.map encB (0 : UInt8) (Prod.snd (Prod.snd (Prod.snd (Prod.snd (Prod.fst x)))))) Tip.none],
        AV.bool (Prod.fst (Prod.snd x))] ∧
        H' =
        [AObj.cells
        [AV.sl 2 (Seq.map T.encEn ([], []) D) Tip.none, AV.sl 2 (Seq.map T.encIt ((0 : Int), []) (Prod.fst (Prod.snd (Prod.snd x)))) (Tip.tok 4),
        AV.sl 1 (Seq.map T.encSn T.noEv (Prod.snd (Prod.snd (Prod.snd x)))) (Tip.tok 5)],
        AObj.gone, AObj.gone,
        AObj.cells [AV.int IntKind.i64 (0 : Int), AV.sl 0 (Seq.raw []) Tip.nil, AV.int IntKind.i64 (0 : Int), AV.int IntKind.i64 (0 : Int), AV.sl 0 (Seq.raw []) Tip.nil],
        AObj.tok, AObj.tok] ∧
        Post
        (AV.tup
        [AV.agg
        [AV.int IntKind.i64 (Prod.fst (Prod.fst x)), AV.sl 2 (Seq.map T.encN ([], []) (Prod.fst (Prod.snd (Prod.fst x)))) Tip.none,
        AV.int IntKind.i64 (Prod.fst (Prod.snd (Prod.snd (Prod.fst x)))), AV.int IntKind.i64 (Prod.fst (Prod.snd (Prod.snd (Prod.snd (Prod.fst x))))),
        AV.sl 1 (Seq.map encB (0 : UInt8) (Prod.snd (Prod.snd (Prod.snd (Prod.snd (Prod.fst x)))))) Tip.none],
        AV.bool (Prod.fst (Prod.snd x))])
        [AObj.cells
        [AV.sl 2 (Seq.map T.encEn ([], []) D) Tip.none, AV.sl 2 (Seq.map T.encIt ((0 : Int), []) (Prod.fst (Prod.snd (Prod.snd x)))) (Tip.tok 4),
        AV.sl 1 (Seq.map T.encSn T.noEv (Prod.snd (Prod.snd (Prod.snd x)))) (Tip.tok 5)],
        AObj.gone, AObj.gone,
        AObj.cells
        [AV.int IntKind.i64 (Prod.fst (Prod.fst x)), AV.sl 2 (Seq.map T.encN ([], []) (Prod.fst (Prod.snd (Prod.fst x)))) Tip.none,
        AV.int IntKind.i64 (Prod.fst (Prod.snd (Prod.snd (Prod.fst x)))), AV.int IntKind.i64 (Prod.fst (Prod.snd (Prod.snd (Prod.snd (Prod.fst x))))),
        AV.sl 1 (Seq.map encB (0 : UInt8) (Prod.snd (Prod.snd (Prod.snd (Prod.snd (Prod.fst x)))))) Tip.none],
        AObj.tok, AObj.tok]) →
    AWP Try.prog 40 n c44_6
      [(0, AV.ptr 0 0), (1, AV.int IntKind.i64 k), (8, AV.ptr 3 0), (10, AV.sl 1 (Seq.map encB (0 : UInt8) b) Tip.none)]
      (T.HS D W S ++
        [AObj.cells [AV.int IntKind.i64 (0 : Int), AV.sl 0 (Seq.raw []) Tip.nil, AV.int IntKind.i64 (0 : Int), AV.int IntKind.i64 (0 : Int), AV.sl 0 (Seq.raw []) Tip.nil]])
      (q44_0 n Post) := fun D W S k b n Post h => Go.Ab.awp_sound g44 n _ _ _ _ (Go.Ab.kc (by kernel_rfl) h)

end
end Sb
end

section
/- The plain law of numbers as bytes. -/

namespace V

/-- the digits that go on -/
def lead (v : Nat) : List UInt8 := if _h : v = 0 then [] else lead (v / 128) ++ [UInt8.ofNat (128 + v % 128)]
  termination_by v
  decreasing_by omega

def enc (v : Nat) : List UInt8 := lead (v / 128) ++ [UInt8.ofNat (v % 128)]

theorem lead_zero : lead 0 = [] := by rw [lead]; simp
theorem lead_pos {v : Nat} (h : 0 < v) : lead v = lead (v / 128) ++ [UInt8.ofNat (128 + v % 128)] := by rw [lead, dif_neg (by omega)]

/-- a number that is held -/
def held (x : Int) : Nat := (min (max x 0) 1099511627776).toNat

theorem held_le (x : Int) : held x ≤ 1099511627776 := by unfold held; omega
theorem held_of {x : Int} (h0 : 0 ≤ x) (h1 : x ≤ 1099511627776) : (held x : Int) = x := by unfold held; omega

/-- digits from the j-th down to the first -/
def down (v : Nat) : Nat → List UInt8
  | 0 => []
  | j + 1 => UInt8.ofNat (128 + v / 128 ^ (j + 1) % 128) :: down v j

theorem down_succ (v : Nat) : ∀ j, down v (j + 1) = down (v / 128) j ++ [UInt8.ofNat (128 + v / 128 % 128)]
  | 0 => by simp [down]
  | j + 1 => by
    rw [down, down_succ v j, down]
    have : v / 128 ^ (j + 1 + 1) = v / 128 / 128 ^ (j + 1) := by rw [Nat.div_div_eq_div_mul, Nat.pow_succ 128 (j + 1), Nat.mul_comm]
    rw [this]; rfl

theorem down_lead : ∀ (j v : Nat), v / 128 ^ j < 128 → (j = 0 ∨ 128 ^ j ≤ v) → down v j = lead (v / 128)
  | 0, v, h, _ => by
    have : v / 128 = 0 := by simp at h; omega
    rw [this, lead_zero]; rfl
  | j + 1, v, h, hj => by
    have hv : 128 ^ (j + 1) ≤ v := by rcases hj with e | e; · cases e
                                      · exact e
    have hp : 0 < 128 ^ j := Nat.pos_of_ne_zero (by simp)
    have h128 : 128 ≤ v := Nat.le_trans (by rw [Nat.pow_succ]; omega) hv
    rw [down_succ, lead_pos (by omega : 0 < v / 128)]
    congr 1
    refine down_lead j (v / 128) ?_ (.inr ?_)
    · rw [Nat.div_div_eq_div_mul, Nat.mul_comm, ← Nat.pow_succ]; exact h
    · rw [Nat.le_div_iff_mul_le (by omega), ← Nat.pow_succ]; exact hv

theorem lead_length : ∀ (k v : Nat), v < 128 ^ k → (lead v).length ≤ k
  | 0, v, h => by
    have : v = 0 := by simp at h; omega
    subst this; simp [lead_zero]
  | k + 1, v, h => by
    rcases Nat.eq_zero_or_pos v with e | e
    · subst e; simp [lead_zero]
    · rw [lead_pos e]
      have := lead_length k (v / 128) (by rw [Nat.div_lt_iff_lt_mul (by omega), ← Nat.pow_succ]; exact h)
      simp; omega

theorem enc_length (v : Nat) (h : v ≤ 1099511627776) : (enc v).length ≤ 6 := by
  have := lead_length 5 (v / 128) (by omega)
  simp [enc]; omega

end V
end

section
/- vlq.Put: what it computes. -/

set_option linter.unusedVariables false
set_option linter.unusedSimpArgs false
open Go Go.Ab Go.Proofs
namespace V

def big : Nat := 140737488351232

theorem tdivN (a b : Nat) : Int.tdiv (a : Int) (b : Int) = ((a / b : Nat) : Int) := by rfl
theorem tmodN (a b : Nat) : Int.tmod (a : Int) (b : Int) = ((a % b : Nat) : Int) := by rfl

theorem selTok : Sel 0 [1] [AObj.gone, AObj.tok] [AObj.tok] := Sel.one 1 rfl rfl

theorem leApp {l : List UInt8} {x : List AV} {b : UInt8} {H : List AObj} (hx : x = encB b) : Le (.sl 1 (.app (.map encB 0 l) (.raw [x])) (.tok 1)) (AV.ren (selR [1] H.length) (.sl 1 (.map encB 0 (l ++ [b])) (.tok 0))) := by
  refine Le.sl ?_ (.inl rfl) (.inl rfl)
  subst hx
  simp [Seq.toList, Seq.ren, encB, renL, AV.ren]

theorem put9 {ns : List Int} {k : Nat} {i : Int} {Post : AV → List AObj → Prop} {v : Nat} (hv : v ≤ 1099511627776) (hi : 0 ≤ i) (hi2 : i < 9223372036854775807) : ∀ (j : Nat) (l : List UInt8), j ≤ 6 → l.length + j + 1 ≤ big →
    AWP Try.prog 48 0 c140_3 [(5, .sl 1 (.map encB 0 (l ++ down v j ++ [UInt8.ofNat (v % 128)])) (.tok 0)), (12, .sl 1 (.map encI 0 ns) .none), (13, .int .i64 k), (14, .int .i64 (i + 1))] [.tok] (q140_2 0 Post) →
    AWP Try.prog 48 0 c140_9 [(5, .sl 1 (.map encB 0 l) (.tok 0)), (7, .int .i64 v), (8, .int .i64 ((128 ^ j : Nat) : Int)), (12, .sl 1 (.map encI 0 ns) .none), (13, .int .i64 k), (14, .int .i64 i)] [.tok] (q140_9 0 Post)
  | 0, l, _, hl, h => by
    refine v140_9 _ _ _ _ _ _ _ _ _ (condD (fun h => by simp at h) fun _ => needJ (by decide) (needJ (by unfold big at hl; omega) ?_))
    refine AWP.shape [1] _ _ selTok ?_ h
    rw [wrap64 (x := i + 1) (by omega) (by omega)]
    refine ⟨rfl, ?_, rfl, ?_, rfl, Le.refl _, rfl, Le.refl _, trivial⟩
    · have : l ++ down v 0 ++ [UInt8.ofNat (v % 128)] = l ++ [UInt8.ofNat (v % 128)] := by simp [down]
      rw [this]
      refine leApp ?_
      rw [show (128 : Int) = ((128 : Nat) : Int) from rfl, tmodN, wrapU8, Int.emod_eq_of_lt (by omega) (by omega)]
      rw [encB_ofNat (by omega) (by omega)]
      rfl
    · exact Le.refl _
  | j + 1, l, hj, hl, h => by
    have hw : (128 : Nat) ^ (j + 1) ≤ 128 ^ 6 := Nat.pow_le_pow_right (by omega) hj
    have hw6 : (128 : Nat) ^ 6 = 4398046511104 := by decide
    have hw1 : 0 < (128 : Nat) ^ j := Nat.pos_of_ne_zero (by simp)
    refine v140_9 _ _ _ _ _ _ _ _ _ (condD (fun _ => needJ ?_ (needJ (by decide) (needJ (by unfold big at hl; omega) (needJ (by decide) ?_)))) (fun hn => ?_))
    · rw [Nat.pow_succ]; omega
    · have hd : v / 128 ^ (j + 1) ≤ v := Nat.div_le_self _ _
      have hq : ((128 ^ (j + 1) : Nat) : Int).tdiv 128 = ((128 ^ j : Nat) : Int) := by
        rw [show (128 : Int) = ((128 : Nat) : Int) from rfl, tdivN, Nat.pow_succ, Nat.mul_div_cancel _ (by omega)]
      rw [hq, wrap64 (x := ((128 ^ j : Nat) : Int)) (by omega) (by rw [Nat.pow_succ] at hw; omega)]
      refine AWP.shape [1] _ _ selTok ?_ (put9 (ns := ns) (k := k) hv hi hi2 j (l ++ [UInt8.ofNat (128 + v / 128 ^ (j + 1) % 128)]) (by omega) (by simp; omega) ?_)
      · refine ⟨rfl, leApp ?_, rfl, Le.refl _, rfl, Le.refl _, rfl, ?_, rfl, Le.refl _, rfl, Le.refl _, trivial⟩
        · rw [tdivN, wrapN (Nat.le_trans hd (by omega)), show (128 : Int) = ((128 : Nat) : Int) from rfl, tmodN, wrap64 (by omega) (by omega), wrapU8,
            Int.emod_eq_of_lt (by omega) (by omega), encB_ofNat (by omega) (by omega)]
          congr 2
        · exact Le.refl _
      · simpa [down] using h
    · rw [Nat.pow_succ] at hn; omega

theorem put7 {ns : List Int} {k : Nat} {i : Int} {Post : AV → List AObj → Prop} {v : Nat} (hv : v ≤ 1099511627776) (hi : 0 ≤ i) (hi2 : i < 9223372036854775807) (l : List UInt8) (hl : l.length + 7 ≤ big)
    (h : AWP Try.prog 48 0 c140_3 [(5, .sl 1 (.map encB 0 (l ++ enc v)) (.tok 0)), (12, .sl 1 (.map encI 0 ns) .none), (13, .int .i64 k), (14, .int .i64 (i + 1))] [.tok] (q140_2 0 Post)) : ∀ (m j : Nat), m + j = 6 → (j = 0 ∨ 128 ^ j ≤ v) →
    AWP Try.prog 48 0 c140_7 [(5, .sl 1 (.map encB 0 l) (.tok 0)), (7, .int .i64 v), (8, .int .i64 ((128 ^ j : Nat) : Int)), (12, .sl 1 (.map encI 0 ns) .none), (13, .int .i64 k), (14, .int .i64 i)] [.tok] (q140_7 0 Post) := by
  intro m
  induction m with
  | zero =>
    intro j hm hj
    have : j = 6 := by omega
    subst this
    rcases hj with e | e
    · cases e
    · have : (128 : Nat) ^ 6 = 4398046511104 := by decide
      omega
  | succ m ih =>
    intro j hm hj
    have hw : (128 : Nat) ^ j ≤ 128 ^ 5 := Nat.pow_le_pow_right (by omega) (by omega)
    have hw5 : (128 : Nat) ^ 5 = 34359738368 := by decide
    have hw1 : 0 < (128 : Nat) ^ j := Nat.pos_of_ne_zero (by simp)
    have hd : v / 128 ^ j ≤ v := Nat.div_le_self _ _
    refine v140_7 _ _ _ _ _ _ _ _ _ (needJ (by omega) (condD (fun hc => ?_) (fun hc => ?_)))
    · rw [tdivN, wrapN (Nat.le_trans hd (by omega))] at hc
      have e : ((128 ^ j : Nat) : Int) * 128 = ((128 ^ (j + 1) : Nat) : Int) := by rw [Nat.pow_succ]; simp
      rw [e, wrap64 (by omega) (by rw [Nat.pow_succ]; omega)]
      refine ih (j + 1) (by omega) (.inr ?_)
      have : 128 ≤ v / 128 ^ j := by omega
      rw [Nat.le_div_iff_mul_le hw1] at this
      rw [Nat.pow_succ, Nat.mul_comm]; exact this
    · rw [tdivN, wrapN (Nat.le_trans hd (by omega))] at hc
      refine put9 hv hi hi2 j l (by omega) (by omega) ?_
      rw [down_lead j v (by omega) hj, List.append_assoc]
      exact h

def putM (bs : List UInt8) (ns : List Int) : List UInt8 := bs ++ ns.flatMap fun x => enc (held x)

theorem clamp_held (x : Int) : (if 1099511627776 < if 0 > x then 0 else x then 1099511627776 else if 0 > x then 0 else x) = ((held x : Nat) : Int) := by
  unfold held
  by_cases h : 0 > x
  · simp only [if_pos h]; omega
  · simp only [if_neg h]
    split <;> omega

theorem put3 {ns : List Int} {Post : AV → List AObj → Prop} (hns : ns.length ≤ big) : ∀ (m i : Nat) (l : List UInt8), m + i = ns.length → l.length + 7 * m ≤ big →
    Post (.sl 1 (.map encB 0 (l ++ (ns.drop i).flatMap fun x => enc (held x))) (.tok 0)) [.tok] →
    AWP Try.prog 48 0 c140_3 [(5, .sl 1 (.map encB 0 l) (.tok 0)), (12, .sl 1 (.map encI 0 ns) .none), (13, .int .i64 ns.length), (14, .int .i64 i)] [.tok] (q140_2 0 Post) := by
  intro m
  unfold big at hns
  induction m with
  | zero =>
    intro i l hm hl h
    refine v140_3 _ _ _ _ _ _ _ (condD (fun hc => by omega) fun hc => ?_)
    rw [List.drop_eq_nil_of_le (by omega)] at h
    simpa using h
  | succ m ih =>
    intro i l hm hl h
    refine v140_3 _ _ _ _ _ _ _ (condD (fun hc => needJ (by omega) ?_) fun hc => by omega)
    rw [Int.toNat_natCast, clamp_held]
    have hh := held_le (ns.getD i 0)
    refine put7 hh (by omega) (by omega) l (by omega) ?_ 6 0 rfl (.inl rfl)
    have hel := enc_length (held (ns.getD i 0)) hh
    refine ih (i + 1) _ (by omega) (by rw [List.length_append]; omega) ?_
    have hg : ns.drop i = ns.getD i 0 :: ns.drop (i + 1) := by
      rw [List.drop_eq_getElem_cons (by omega)]
      simp [List.getD, List.getElem?_eq_getElem (show i < ns.length by omega)]
    rw [hg] at h
    simpa using h

theorem put_spec (bs : List UInt8) (ns : List Int) (hb : bs.length + 7 * ns.length ≤ big) (H : List AObj) :
    ASpec Try.prog 140 [.sl 1 (.map encB 0 bs) .none, .sl 1 (.map encI 0 ns) .none] H (fun r H' => r = .sl 1 (.map encB 0 (putM bs ns)) (.tok H.length) ∧ H' = H ++ [.tok]) := by
  refine ASpec.anyH (args := [.sl 1 (.map encB 0 bs) .none, .sl 1 (.map encI 0 ns) .none]) (r0 := .sl 1 (.map encB 0 (putM bs ns)) (.tok 0)) (Hl := [.tok]) H ?_ _ _ _ rfl rfl rfl
  refine s140 _ _ _ _ _ (needJ oneB (needJ (by unfold big at hb; omega) ?_))
  refine AWP.spell _ ?_ (put3 (ns := ns) (by omega) ns.length 0 bs (by omega) (by omega) ⟨rfl, rfl⟩)
  exact ⟨rfl, Le.sl (by simp [Seq.toList]) (.inl rfl) (.inl rfl), rfl, Le.refl _, rfl, Le.refl _, rfl, Le.refl _, trivial⟩

end V
end

section
/- The reader of bytes: what its methods compute. -/

set_option linter.unusedVariables false
set_option linter.unusedSimpArgs false
open Go Go.Ab Go.Proofs
namespace V

def scan : Nat → List UInt8 → Nat → Nat → Int ⊕ (Nat × Nat)
  | 0, _, _, _ => .inl 4
  | _ + 1, [], _, _ => .inl 2
  | f + 1, c :: s, x, i => if 128 ≤ c.toNat then scan f s (x * 128 + c.toNat % 128) (i + 1) else .inr (x * 128 + c.toNat % 128, i + 1)

/-- the number ahead, how many bytes it has, and what is wrong -/
def lookM (s : List UInt8) (most : Int) : Int × Nat × Int :=
  match s with
  | [] => (0, 0, 2)
  | c :: _ => if c = 128 then (0, 0, 3) else match scan 6 s 0 0 with
    | .inl e => (0, 0, e)
    | .inr (n, k) => if (n : Int) > min most 1099511627776 then (0, 0, 4) else (n, k, 0)

theorem getD_drop (bs : List UInt8) (q : Nat) (h : q < bs.length) : bs.drop q = bs.getD q 0 :: bs.drop (q + 1) := by
  rw [List.drop_eq_getElem_cons h]
  simp [List.getD, List.getElem?_eq_getElem h]

theorem scan_le : ∀ (f : Nat) (s : List UInt8) (x i n k : Nat), scan f s x i = .inr (n, k) → i < k ∧ k ≤ i + s.length
  | 0, s, x, i, n, k, h => by simp [scan] at h
  | f + 1, [], x, i, n, k, h => by simp [scan] at h
  | f + 1, c :: s, x, i, n, k, h => by
    simp only [scan] at h
    split at h
    · have := scan_le f s _ _ _ _ h
      simp; omega
    · simp at h
      simp; omega

theorem lookM_le (s : List UInt8) (most : Int) : (lookM s most).2.1 ≤ s.length ∧ 0 ≤ (lookM s most).1 ∧ (lookM s most).1 ≤ 1099511627776 ∧ ((lookM s most).2.2 ≠ 0 → (lookM s most).1 = 0 ∧ (lookM s most).2.1 = 0) := by
  cases s with
  | nil => simp [lookM]
  | cons c s =>
    simp only [lookM]
    split
    · simp
    · split
      · simp
      · rename_i n k hs
        have := scan_le _ _ _ _ _ _ hs
        split
        · simp
        · refine ⟨?_, by simp, ?_, by simp⟩
          · show k ≤ _
            omega
          · show (n : Int) ≤ _
            omega

/-- a reader's next number: the answer, the place, the error -/
def numM (bs : List UInt8) (p : Nat) (e most : Int) : Int × Nat × Int :=
  if e ≠ 0 then (0, p, e) else ((lookM (bs.drop p) most).1, p + (lookM (bs.drop p) most).2.1, (lookM (bs.drop p) most).2.2)

def strM (bs : List UInt8) (p : Nat) (e most : Int) : List UInt8 × Nat × Int :=
  if e ≠ 0 then ([], p, e) else
    if (lookM (bs.drop p) most).2.2 ≠ 0 then ([], p, (lookM (bs.drop p) most).2.2) else
    if (lookM (bs.drop p) most).1 > (bs.length : Int) - ((p + (lookM (bs.drop p) most).2.1 : Nat) : Int) then ([], p, 2) else
      ((bs.drop (p + (lookM (bs.drop p) most).2.1)).take (lookM (bs.drop p) most).1.toNat, p + (lookM (bs.drop p) most).2.1 + (lookM (bs.drop p) most).1.toNat, 0)

end V
end

section
/- The document's numbers, texts and reader: what they compute. -/

set_option linter.unusedVariables false
set_option linter.unusedSimpArgs false
open Go Go.Ab Go.Proofs
namespace V

abbrev B (l : List UInt8) : ByteArray := ⟨l.toArray⟩

theorem B_size (l : List UInt8) : (B l).size = l.length := by simp [ByteArray.size]
theorem B_toList (l : List UInt8) : (B l).toList = l := by rw [ByteArray.toList_eq]
theorem B_append (a b : List UInt8) : B a ++ B b = B (a ++ b) := by
  apply ByteArray.ext
  simp
theorem B_beq (a b : List UInt8) : ((B a).toList == (B b).toList) = (a == b) := by rw [B_toList, B_toList]
theorem B_extract (l : List UInt8) (i j : Nat) (h : j ≤ l.length) : (B l).extract i j = B ((l.take j).drop i) := by
  apply ByteArray.ext
  apply Array.toList_inj.1
  simp [List.drop_take]

theorem condS {a b : List UInt8} {A C : Prop} (h1 : a = b → A) (h2 : a ≠ b → C) : condP ((B a).toList == (B b).toList) A C := by
  rw [B_beq]
  by_cases h : a = b
  · rw [beq_iff_eq.2 h]; exact h1 h
  · rw [beq_eq_false_iff_ne.2 h]; exact h2 h

theorem bytesOf_one {x : Int} : bytesOf (.raw [[.int .u8 x]]) = B [UInt8.ofNat x.toNat] := rfl
theorem allBytes_one {x : Int} : allBytes (.raw [[.int .u8 x]]) := by
  intro y hy
  simp only [Seq.toList, List.mem_singleton] at hy
  exact ⟨x, hy⟩

/-! ### numbers -/

theorem rnum3 {Post : AV → List AObj → Prop} : ∀ (f v : Nat) (l : List UInt8), v < 128 ^ (f + 1) → v ≤ 1099511627776 → l.length + f ≤ 100 →
    Post (.str (B (lead (v / 128) ++ l))) [] → AWP Try.prog 25 0 c150_3 [(0, .int .i64 v), (3, .str (B l))] [] (q150_2 0 Post) := by
  intro f
  induction f with
  | zero =>
    intro v l hv hv2 hl h
    refine v150_3 _ _ _ _ (condD (fun hc => by simp at hv; omega) fun hc => ?_)
    rw [show v / 128 = 0 by omega, lead_zero] at h
    exact h
  | succ f ih =>
    intro v l hv hv2 hl h
    refine v150_3 _ _ _ _ (condD (fun hc => ?_) fun hc => ?_)
    · have hw : IntKind.wrap .i64 ((v : Int).tdiv 128) = ((v / 128 : Nat) : Int) := by
        rw [show (128 : Int) = ((128 : Nat) : Int) from rfl, tdivN, wrapN (by omega)]
      have hw2 : IntKind.wrap .u8 (IntKind.wrap .i64 (128 + ((v / 128 : Nat) : Int).tmod 128)) = ((128 + v / 128 % 128 : Nat) : Int) := by
        rw [show (128 : Int) = ((128 : Nat) : Int) from rfl, tmodN, wrap64 (by omega) (by omega), wrapU8, Int.emod_eq_of_lt (by omega) (by omega)]
        simp
      rw [hw, hw2, bytesOf_one, B_append, Int.toNat_natCast]
      refine needJ (by decide) (needJ (by decide) (needJ allBytes_one (needJ ?_ ?_)))
      · rw [B_size, B_size]; simp; omega
      · refine ih (v / 128) _ ?_ (by omega) (by simp; omega) ?_
        · rw [Nat.div_lt_iff_lt_mul (by omega), ← Nat.pow_succ]; exact hv
        · rw [lead_pos (by omega : 0 < v / 128)] at h
          rw [List.append_assoc] at h
          exact h
    · rw [show v / 128 = 0 by omega, lead_zero] at h
      exact h

theorem rnum_spec (x : Int) (H : List AObj) : ASpec Try.prog 150 [.int .i64 x] H (fun r H' => r = .str (B (enc (held x))) ∧ H' = H) := by
  have k : ASpec Try.prog 150 [.int .i64 x] [] (fun r H' => r = .str (B (enc (held x))) ∧ H' = []) := by
    refine s150 _ _ (needJ (by decide) (needJ allBytes_one ?_))
    rw [clamp_held]
    have hh := held_le x
    generalize held x = v at hh ⊢
    rw [show (128 : Int) = ((128 : Nat) : Int) from rfl, tmodN, wrapU8, Int.emod_eq_of_lt (by omega) (by omega), bytesOf_one]
    refine rnum3 5 v _ (by omega) hh (by simp) ⟨?_, rfl⟩
    rfl
  exact ASpec.pureH H k _ _ rfl rfl

theorem rtext_spec (s : List UInt8) (hs : s.length ≤ big) (H : List AObj) : ASpec Try.prog 151 [.str (B s)] H (fun r H' => r = .str (B (enc (held s.length) ++ s)) ∧ H' = H) := by
  have k : ASpec Try.prog 151 [.str (B s)] [] (fun r H' => r = .str (B (enc (held s.length) ++ s)) ∧ H' = []) := by
    refine s151 _ _ (ASpec.call (rnum_spec _ _) (Les.refl _) ⟨_, rfl, rfl, ?_⟩)
    have hel := enc_length (held s.length) (held_le _)
    refine needJ ?_ ⟨by rw [B_append, B_size], rfl⟩
    simp only [B_size]
    unfold big at hs
    omega
  exact ASpec.pureH H k _ _ rfl rfl

/-! ### the document's look -/

def acc (x : Nat) : List UInt8 → Nat
  | [] => x
  | c :: s => acc (x * 128 + c.toNat % 128) s

theorem acc_lt : ∀ (s : List UInt8) (x i : Nat), x < 128 ^ i → acc x s < 128 ^ (i + s.length)
  | [], x, i, h => h
  | c :: s, x, i, h => by
    simp only [acc, List.length_cons]
    have := acc_lt s (x * 128 + c.toNat % 128) (i + 1) (by rw [Nat.pow_succ]; omega)
    rwa [show i + (s.length + 1) = i + 1 + s.length by omega]

theorem acc_append (x : Nat) : ∀ (s t : List UInt8), acc x (s ++ t) = acc (acc x s) t
  | [], t => rfl
  | c :: s, t => acc_append _ s t

theorem scan_hi : ∀ (k : Nat) (s : List UInt8) (x i f : Nat), k ≤ s.length → k ≤ f → (∀ j, j < k → 128 ≤ (s.getD j 0).toNat) → scan f s x i = scan (f - k) (s.drop k) (acc x (s.take k)) (i + k)
  | 0, s, x, i, f, _, _, _ => by simp [acc]
  | k + 1, [], x, i, f, h, _, _ => by simp at h
  | k + 1, c :: s, x, i, 0, _, h, _ => by omega
  | k + 1, c :: s, x, i, f + 1, h1, h2, h3 => by
    have hc : 128 ≤ c.toNat := by simpa using h3 0 (by omega)
    simp only [scan, if_pos hc]
    rw [scan_hi k s _ (i + 1) f (by simpa using h1) (by omega) (fun j hj => by simpa using h3 (j + 1) (by omega))]
    simp only [List.take_succ_cons, acc, List.drop_succ_cons]
    congr 1 <;> omega

theorem look14 {l : List UInt8} {most : Int} {k : Nat} {Post : AV → List AObj → Prop} (hk : k < 6) (hkl : k < l.length) : ∀ (m i : Nat), m + i = k + 1 →
    (if (acc 0 (l.take (k + 1)) : Int) > min most 1099511627776 then Post (.tup [.int .i64 0, .int .i64 0, .int .i64 4]) [] else Post (.tup [.int .i64 (acc 0 (l.take (k + 1)) : Nat), .int .i64 (k + 1 : Nat), .int .i64 0]) []) →
    AWP Try.prog 60 0 c252_14 [(0, .str (B l)), (1, .int .i64 most), (7, .int .i64 k), (8, .int .i64 (acc 0 (l.take i) : Nat)), (9, .int .i64 i)] [] (q252_4 0 Post) := by
  intro m
  induction m with
  | zero =>
    intro i hm h
    refine v252_14 _ _ _ _ _ _ _ (condD (fun hc => by omega) fun hc => ?_)
    rw [show i = k + 1 by omega]
    refine condD (fun h1 => ?_) fun h1 => condD (fun h2 => ?_) fun h2 => ?_
    · rw [if_pos (by omega)] at h; exact h
    · rw [if_pos (by omega)] at h; exact h
    · rw [if_neg (by omega)] at h
      rw [show IntKind.wrap .i64 ((k : Int) + 1) = ((k + 1 : Nat) : Int) by rw [wrap64 (by omega) (by omega)]; simp]
      exact h
  | succ m ih =>
    intro i hm h
    refine v252_14 _ _ _ _ _ _ _ (condD (fun hc => needJ ?_ (needJ (by decide) ?_)) fun hc => by omega)
    · rw [B_size]; omega
    · have hx := acc_lt (l.take i) 0 0 (by simp)
      have hlen : (l.take i).length ≤ 5 := by simp; omega
      have hp : (128 : Nat) ^ (0 + (l.take i).length) ≤ 128 ^ 5 := Nat.pow_le_pow_right (by omega) (by omega)
      have h5 : (128 : Nat) ^ 5 = 34359738368 := by decide
      have e : acc 0 (l.take (i + 1)) = acc 0 (l.take i) * 128 + (l.getD i 0).toNat % 128 := by
        have : l.take (i + 1) = l.take i ++ [l.getD i 0] := by
          rw [List.take_add_one]
          simp [List.getElem?_eq_getElem (show i < l.length by omega)]
        rw [this, acc_append]; rfl
      have := ih (i + 1) (by omega) h
      rw [e] at this
      generalize acc 0 (l.take i) = x at this hx ⊢
      have hg : (B l).data.toList.getD (Int.toNat (i : Int)) 0 = l.getD i 0 := rfl
      rw [hg]
      generalize l.getD i 0 = c at this ⊢
      have hc8 : c.toNat < 256 := c.toNat_lt
      rw [show IntKind.wrap .i64 ((i : Int) + 1) = ((i + 1 : Nat) : Int) by rw [wrap64 (by omega) (by omega)]; simp]
      rw [show (128 : Int) = ((128 : Nat) : Int) from rfl, tmodN, wrap64 (x := (x : Int) * ((128 : Nat) : Int)) (by omega) (by omega), wrap64 (x := ((c.toNat % 128 : Nat) : Int)) (by omega) (by omega), wrap64 (by omega) (by omega)]
      have e2 : (x : Int) * ((128 : Nat) : Int) + ((c.toNat % 128 : Nat) : Int) = ((x * 128 + c.toNat % 128 : Nat) : Int) := by simp
      rw [e2]
      exact this

def lookP (Post : AV → List AObj → Prop) (most : Int) : Int ⊕ (Nat × Nat) → Prop
  | .inl e => Post (.tup [.int .i64 0, .int .i64 0, .int .i64 e]) []
  | .inr (n, k) => if (n : Int) > min most 1099511627776 then Post (.tup [.int .i64 0, .int .i64 0, .int .i64 4]) [] else Post (.tup [.int .i64 n, .int .i64 k, .int .i64 0]) []

theorem look6 {l : List UInt8} {most : Int} {Post : AV → List AObj → Prop} (hl : l.length ≤ 10 * big) : ∀ (m k : Nat), m + k = 6 → k ≤ l.length → (∀ j, j < k → 128 ≤ (l.getD j 0).toNat) → lookP Post most (scan 6 l 0 0) →
    AWP Try.prog 60 0 c252_6 [(0, .str (B l)), (1, .int .i64 most), (7, .int .i64 k)] [] (q252_2 0 Post) := by
  unfold big at hl
  -- behind the loop
  have tail : ∀ k, k ≤ 6 → k ≤ l.length → (∀ j, j < k → 128 ≤ (l.getD j 0).toNat) → (k < 6 → k < l.length → (l.getD k 0).toNat < 128) → lookP Post most (scan 6 l 0 0) →
      condP ((k : Int) == (6 : Int)) (Post (.tup [.int .i64 0, .int .i64 0, .int .i64 4]) [])
        (condP ((k : Int) == ((B l).size : Int)) (Post (.tup [.int .i64 0, .int .i64 0, .int .i64 2]) [])
          (AWP Try.prog 60 0 c252_14 [(0, .str (B l)), (1, .int .i64 most), (7, .int .i64 k), (8, .int .i64 0), (9, .int .i64 0)] [] (q252_4 0 Post))) := by
    intro k hk hkl hhi hlo h
    rw [scan_hi k l 0 0 6 hkl hk hhi] at h
    refine condE (fun e => ?_) fun e => condE (fun e2 => ?_) fun e2 => ?_
    · have : k = 6 := by omega
      subst this
      exact h
    · rw [B_size] at e2
      have : k = l.length := by omega
      rw [List.drop_eq_nil_of_le (by omega), show 6 - k = (5 - k) + 1 by omega] at h
      exact h
    · rw [B_size] at e2
      have hlt : (l.getD k 0).toNat < 128 := hlo (by omega) (by omega)
      rw [getD_drop l k (by omega), show 6 - k = (5 - k) + 1 by omega] at h
      simp only [scan, if_neg (show ¬ 128 ≤ (l.getD k 0).toNat by omega)] at h
      refine look14 (by omega) (by omega) (k + 1) 0 rfl ?_
      have e : acc 0 (l.take (k + 1)) = acc 0 (l.take k) * 128 + (l.getD k 0).toNat % 128 := by
        have : l.take (k + 1) = l.take k ++ [l.getD k 0] := by
          rw [List.take_add_one]
          simp [List.getElem?_eq_getElem (show k < l.length by omega)]
        rw [this, acc_append]; rfl
      rw [e]
      simpa [lookP] using h
  intro m
  induction m with
  | zero =>
    intro k hm hkl hhi h
    have : k = 6 := by omega
    subst this
    refine v252_6 _ _ _ _ _ (condD (fun _ => condD (fun hc => by omega) fun _ => ?_) fun _ => ?_)
    · exact tail 6 (by omega) hkl hhi (fun h => by omega) h
    · exact tail 6 (by omega) hkl hhi (fun h => by omega) h
  | succ m ih =>
    intro k hm hkl hhi h
    refine v252_6 _ _ _ _ _ (condD (fun hc => condD (fun _ => needJ ?_ ?_) fun hc => by omega) fun hc => ?_)
    · exact ⟨by omega, hc⟩
    · rw [B_size] at hc
      have hg : (B l).data.toList.getD (Int.toNat (k : Int)) 0 = l.getD k 0 := rfl
      rw [hg]
      refine condD (fun hx => ?_) fun hx => ?_
      · rw [show IntKind.wrap .i64 ((k : Int) + 1) = ((k + 1 : Nat) : Int) by rw [wrap64 (by omega) (by omega)]; simp]
        refine ih (k + 1) (by omega) (by omega) (fun j hj => ?_) h
        by_cases e : j = k
        · subst e; omega
        · exact hhi j (by omega)
      · exact tail k (by omega) hkl hhi (fun _ _ => by omega) h
    · rw [B_size] at hc
      exact tail k (by omega) hkl hhi (fun _ h => by omega) h

theorem look_spec (l : List UInt8) (most : Int) (hl : l.length ≤ 10 * big) (H : List AObj) :
    ASpec Try.prog 252 [.str (B l), .int .i64 most] H (fun r H' => r = .tup [.int .i64 (lookM l most).1, .int .i64 (lookM l most).2.1, .int .i64 (lookM l most).2.2] ∧ H' = H) := by
  have k : ASpec Try.prog 252 [.str (B l), .int .i64 most] [] (fun r H' => r = .tup [.int .i64 (lookM l most).1, .int .i64 (lookM l most).2.1, .int .i64 (lookM l most).2.2] ∧ H' = []) := by
    refine s252 _ _ _ (condS (b := []) (fun e => ?_) fun e => ?_)
    · subst e; exact ⟨rfl, rfl⟩
    · cases l with
      | nil => exact (e rfl).elim
      | cons c l =>
        refine needJ ⟨by omega, by rw [B_size]; simp⟩ ?_
        have hg : (B (c :: l)).data.toList.getD 0 0 = c := rfl
        rw [hg]
        refine condE (fun h1 => ?_) fun h1 => ?_
        · have h1 : c = 128 := UInt8.toNat_inj.1 (by have : c.toNat = 128 := by omega
                                                     exact this)
          rw [show lookM (c :: l) most = (0, 0, 3) by simp only [lookM, if_pos h1]]
          exact ⟨rfl, rfl⟩
        · have h1 : c ≠ 128 := by intro e; rw [e] at h1; exact h1 rfl
          refine look6 hl 6 0 rfl (by omega) (fun j hj => by omega) ?_
          have e : lookM (c :: l) most = match scan 6 (c :: l) 0 0 with
            | .inl e => (0, 0, e)
            | .inr (n, k) => if (n : Int) > min most 1099511627776 then (0, 0, 4) else (n, k, 0) := by simp only [lookM, if_neg h1] <;> rfl
          rw [e]
          cases scan 6 (c :: l) 0 0 with
          | inl er => exact ⟨rfl, rfl⟩
          | inr nk =>
            obtain ⟨n, k⟩ := nk
            by_cases hm : (n : Int) > min most 1099511627776
            · simp [lookP, hm]
            · simp [lookP, hm]
  exact ASpec.pureH H k _ _ rfl rfl

end V
end

section
/- Readers as objects, in any heap; the chapter's examples. -/

set_option linter.unusedVariables false
set_option linter.unusedSimpArgs false
open Go Go.Ab Go.Proofs
namespace V

theorem set_same {α : Type _} {l : List α} {i : Nat} {a : α} (h : l[i]? = some a) : l.set i a = l := by
  apply List.ext_getElem?
  intro j
  rw [List.getElem?_set]
  split
  · rename_i e; subst e
    have := (List.getElem?_eq_some_iff.1 h).1
    simp only [this, if_true]
    exact h.symm
  · rfl

theorem put_spec' {args : List AV} {bs : List UInt8} {ns : List Int} {H : List AObj} {Post : AV → List AObj → Prop} (hle : Les args [.sl 1 (.map encB 0 bs) .none, .sl 1 (.map encI 0 ns) .none]) (hb : bs.length + 7 * ns.length ≤ big)
    (h : Post (.sl 1 (.map encB 0 (putM bs ns)) (.tok H.length)) (H ++ [.tok])) : ASpec Try.prog 140 args H Post := ASpec.call (put_spec bs ns hb H) hle h

theorem leNil : Le (.sl 0 (.raw []) .nil) (.sl 1 (.map encB 0 []) .none) := Le.sl rfl (.inr ⟨rfl, fun _ h => by cases h⟩) (.inr rfl)
theorem leOne (x : Int) : Le (.sl 1 (.raw [[.int .i64 x]]) .full) (.sl 1 (.map encI 0 [x]) .none) := Le.sl rfl (.inl rfl) (.inr rfl)

end V
end

section
/- VlqOrder: the law's function returns true. -/

set_option linter.unusedVariables false
set_option linter.unusedSimpArgs false
open Go Go.Ab Go.Proofs
namespace V

end V
end

section
/- VlqBack: what was put is read: the law's function returns true. -/

set_option linter.unusedVariables false
set_option linter.unusedSimpArgs false
open Go Go.Ab Go.Proofs
namespace V

theorem text_spec (bs s : List UInt8) (hb : bs.length + s.length + 100 ≤ big) (H : List AObj) :
    ASpec Try.prog 141 [.sl 1 (.map encB 0 bs) .none, .str (B s)] H (fun r H' => r = .sl 1 (.map encB 0 (bs ++ enc (held s.length) ++ s)) (.tok H.length) ∧ H' = H ++ [.tok]) := by
  refine ASpec.anyH (args := [.sl 1 (.map encB 0 bs) .none, .str (B s)]) (r0 := .sl 1 (.map encB 0 (bs ++ enc (held s.length) ++ s)) (.tok 0)) (Hl := [.tok]) H ?_ _ _ _ rfl rfl rfl
  have hel := enc_length (held s.length) (held_le _)
  unfold big at hb
  refine ASpec.sel (s141 _ _ _ _ (put_spec' (bs := bs) (ns := [(s.length : Int)]) ⟨Le.refl _, ?_, trivial⟩ (by unfold big; simp; omega) ⟨_, rfl, rfl, needJ oneB (needJ ?_ ?_)⟩))
  · rw [B_size]; exact leOne _
  · simp only [putM, Ab.Seq.len, bytesSeq, List.flatMap_cons, List.flatMap_nil, List.append_nil, List.length_append]
    have : (B s).data.toList.length = s.length := rfl
    omega
  · refine ⟨[1], [.tok], .sl 1 (.map encB 0 (bs ++ enc (held s.length) ++ s)) (.tok 0), selTok, Le.sl ?_ (.inl rfl) (.inl rfl), rfl, rfl⟩
    simp [Ab.Seq.toList, Seq.ren, encB, renL, AV.ren, bytesSeq, putM]
    rfl

theorem scan_lead (rest : List UInt8) : ∀ (m v f : Nat), v < 128 ^ m → (lead v).length ≤ f → scan f (lead v ++ rest) 0 0 = scan (f - (lead v).length) rest v (lead v).length
  | 0, v, f, hv, hf => by
    have : v = 0 := by simp at hv; omega
    subst this; simp [lead_zero]
  | m + 1, v, f, hv, hf => by
    rcases Nat.eq_zero_or_pos v with e | e
    · subst e; simp [lead_zero]
    · rw [lead_pos e, List.length_append, List.length_singleton, List.append_assoc] at *
      rw [scan_lead _ m (v / 128) f (by rw [Nat.div_lt_iff_lt_mul (by omega), ← Nat.pow_succ]; exact hv) (by omega)]
      have hd : (UInt8.ofNat (128 + v % 128)).toNat = 128 + v % 128 := by rw [UInt8.toNat_ofNat', Nat.mod_eq_of_lt (by omega)]
      rw [show f - (lead (v / 128)).length = (f - ((lead (v / 128)).length + 1)) + 1 by omega, List.singleton_append]
      simp only [scan]
      rw [hd, if_pos (by omega)]
      congr 1
      omega

theorem scan_enc (rest : List UInt8) {v : Nat} (hv : v ≤ 1099511627776) : scan 6 (enc v ++ rest) 0 0 = .inr (v, (enc v).length) := by
  have hl := lead_length 5 (v / 128) (by omega)
  unfold enc
  rw [List.append_assoc, scan_lead _ 5 (v / 128) 6 (by omega) (by omega), show 6 - (lead (v / 128)).length = (5 - (lead (v / 128)).length) + 1 by omega, List.singleton_append]
  have hd : (UInt8.ofNat (v % 128)).toNat = v % 128 := by rw [UInt8.toNat_ofNat', Nat.mod_eq_of_lt (by omega)]
  simp only [scan]
  rw [hd, if_neg (by omega)]
  congr 2
  · omega
  · simp

theorem lead_head : ∀ (m v : Nat), v < 128 ^ m → 0 < v → ∃ c l, lead v = c :: l ∧ c ≠ 128
  | 0, v, hv, h => by simp at hv; omega
  | m + 1, v, hv, h => by
    rw [lead_pos h]
    rcases Nat.eq_zero_or_pos (v / 128) with e | e
    · rw [e, lead_zero]
      refine ⟨_, _, rfl, fun hc => ?_⟩
      have := congrArg UInt8.toNat hc
      rw [UInt8.toNat_ofNat', Nat.mod_eq_of_lt (by omega)] at this
      have h2 : (128 : UInt8).toNat = 128 := rfl
      omega
    · obtain ⟨c, l, h1, h2⟩ := lead_head m (v / 128) (by rw [Nat.div_lt_iff_lt_mul (by omega), ← Nat.pow_succ]; exact hv) e
      exact ⟨c, l ++ [_], by rw [h1]; rfl, h2⟩

theorem enc_head {v : Nat} (hv : v ≤ 1099511627776) : ∃ c l, enc v = c :: l ∧ c ≠ 128 := by
  unfold enc
  rcases Nat.eq_zero_or_pos (v / 128) with e | e
  · rw [e, lead_zero]
    refine ⟨_, _, rfl, fun hc => ?_⟩
    have := congrArg UInt8.toNat hc
    rw [UInt8.toNat_ofNat', Nat.mod_eq_of_lt (by omega)] at this
    have h2 : (128 : UInt8).toNat = 128 := rfl
    omega
  · obtain ⟨c, l, h1, h2⟩ := lead_head 6 (v / 128) (by omega) e
    exact ⟨c, l ++ [_], by rw [h1]; rfl, h2⟩

theorem look_enc (rest : List UInt8) {v : Nat} {most : Int} (hv : v ≤ 1099511627776) (hm : (v : Int) ≤ most) : lookM (enc v ++ rest) most = ((v : Int), (enc v).length, 0) := by
  obtain ⟨c, l, h1, h2⟩ := enc_head hv
  have hs := scan_enc rest hv
  rw [h1, List.cons_append] at hs ⊢
  simp only [lookM, if_neg h2, hs]
  rw [if_neg (by omega)]

end V
end

section
/- The document's reader, and a reader that is none: what their methods compute, in any heap. -/

set_option linter.unusedVariables false
set_option linter.unusedSimpArgs false
open Go Go.Ab Go.Proofs
namespace V

/-- the document's reader -/
abbrev dr (l : List UInt8) (e : Int) : AObj := .cells [.str (B l), .int .i64 e]
abbrev AtD (H : List AObj) (id : Nat) (l : List UInt8) (e : Int) : Prop := H[id]? = some (dr l e)

def dnumM (l : List UInt8) (e most : Int) : Int × List UInt8 × Int :=
  if e ≠ 0 then (0, l, e) else ((lookM l most).1, l.drop (lookM l most).2.1, (lookM l most).2.2)
def dstrM (l : List UInt8) (e most : Int) : List UInt8 × List UInt8 × Int :=
  if e ≠ 0 then ([], l, e) else if (lookM l most).2.2 ≠ 0 then ([], l, (lookM l most).2.2) else
    if (lookM l most).1 > (l.length : Int) - ((lookM l most).2.1 : Nat) then ([], l, 2) else
    ((l.drop (lookM l most).2.1).take (lookM l most).1.toNat, l.drop ((lookM l most).2.1 + (lookM l most).1.toNat), 0)

theorem dnum_spec0 (l : List UInt8) (e most : Int) (hl : l.length ≤ 10 * big) :
    ASpec Try.prog 147 [.ptr 0 0, .int .i64 most] [dr l e] (fun r H' => r = .int .i64 (dnumM l e most).1 ∧ H' = [dr (dnumM l e most).2.1 (dnumM l e most).2.2]) := by
  refine s147 _ _ _ _ (condNe (fun he => ?_) fun he => ?_)
  · rw [show dnumM l e most = (0, l, e) by simp only [dnumM, if_pos he]]
    exact ⟨rfl, rfl⟩
  · subst he
    rw [show dnumM l 0 most = ((lookM l most).1, l.drop (lookM l most).2.1, (lookM l most).2.2) by simp [dnumM]]
    obtain ⟨h1, h2, h3, h4⟩ := lookM_le l most
    refine ASpec.call (look_spec l most hl _) (Les.refl _) ⟨((lookM l most).1, ((lookM l most).2.1 : Nat), (lookM l most).2.2), rfl, rfl, needJ ?_ ⟨rfl, ?_⟩⟩
    · simp only [B_size]; omega
    · simp only [Int.toNat_natCast, B_size]
      rw [B_extract _ _ _ (Nat.le_refl _), List.take_of_length_le (Nat.le_refl _)]

theorem dstr_spec0 (l : List UInt8) (e most : Int) (hl : l.length ≤ 10 * big) :
    ASpec Try.prog 148 [.ptr 0 0, .int .i64 most] [dr l e] (fun r H' => r = .str (B (dstrM l e most).1) ∧ H' = [dr (dstrM l e most).2.1 (dstrM l e most).2.2]) := by
  refine s148 _ _ _ _ (condNe (fun he => ?_) fun he => ?_)
  · rw [show dstrM l e most = ([], l, e) by simp only [dstrM, if_pos he]]
    exact ⟨rfl, rfl⟩
  · subst he
    obtain ⟨h1, h2, h3, h4⟩ := lookM_le l most
    refine ASpec.call (look_spec l most hl _) (Les.refl _) ⟨((lookM l most).1, ((lookM l most).2.1 : Nat), (lookM l most).2.2), rfl, rfl, ?_⟩
    have hs : dstrM l 0 most = if (lookM l most).2.2 ≠ 0 then ([], l, (lookM l most).2.2) else
      if (lookM l most).1 > (l.length : Int) - ((lookM l most).2.1 : Nat) then ([], l, 2) else
      ((l.drop (lookM l most).2.1).take (lookM l most).1.toNat, l.drop ((lookM l most).2.1 + (lookM l most).1.toNat), 0) := by simp [dstrM]
    rw [hs]
    generalize lookM l most = q at h1 h2 h3 h4 ⊢
    obtain ⟨n, k, er⟩ := q
    unfold big at hl
    simp only at h1 h2 h3 h4 ⊢
    simp only [B_size]
    refine condE (fun he => ?_) fun he => ?_
    · subst he
      rw [wrap64 (x := (l.length : Int) - ((k : Nat) : Int)) (by omega) (by omega)]
      refine condD (fun hg => ?_) fun hg => ?_
      · rw [if_neg (by simp), if_pos hg]; exact ⟨rfl, rfl⟩
      · rw [if_neg (by simp), if_neg hg]
        have hw : IntKind.wrap .i64 (((k : Nat) : Int) + n) = ((k + n.toNat : Nat) : Int) := by
          rw [wrap64 (x := ((k : Nat) : Int) + n) (by omega) (by omega)]; omega
        refine condNe (fun h => (h rfl).elim) fun _ => ?_
        rw [hw]
        refine needJ (by omega) (needJ (by omega) ?_)
        simp only [Int.toNat_natCast]
        rw [B_extract _ _ _ (by omega), B_extract _ _ _ (Nat.le_refl _), List.take_of_length_le (Nat.le_refl _), List.drop_take, show k + n.toNat - k = n.toNat by omega]
        exact ⟨rfl, rfl⟩
    · refine condNe (fun h => ?_) fun h => (he h).elim
      rw [if_pos he]; exact ⟨rfl, rfl⟩

theorem dnum_spec {H : List AObj} {id : Nat} {l : List UInt8} {e : Int} (most : Int) (hl : l.length ≤ 10 * big) (h : AtD H id l e) :
    ASpec Try.prog 147 [.ptr id 0, .int .i64 most] H (fun r H' => r = .int .i64 (dnumM l e most).1 ∧ H' = H.set id (dr (dnumM l e most).2.1 (dnumM l e most).2.2)) :=
  ASpec.oneH H id (dnum_spec0 l e most hl) _ _ _ rfl rfl h rfl
theorem dstr_spec {H : List AObj} {id : Nat} {l : List UInt8} {e : Int} (most : Int) (hl : l.length ≤ 10 * big) (h : AtD H id l e) :
    ASpec Try.prog 148 [.ptr id 0, .int .i64 most] H (fun r H' => r = .str (B (dstrM l e most).1) ∧ H' = H.set id (dr (dstrM l e most).2.1 (dstrM l e most).2.2)) :=
  ASpec.oneH H id (dstr_spec0 l e most hl) _ _ _ rfl rfl h rfl

def closeM (e : Int) (left : Nat) : Int := if e ≠ 0 then e else if 0 < left then 3 else 0

theorem condSn {a b : List UInt8} {A C : Prop} (h1 : a ≠ b → A) (h2 : a = b → C) : condP (!(B a).toList == (B b).toList) A C := by
  rw [B_beq]
  by_cases h : a = b
  · rw [beq_iff_eq.2 h]; exact h2 h
  · rw [beq_eq_false_iff_ne.2 h]; exact h1 h

theorem dclose_spec {H : List AObj} {id : Nat} {l : List UInt8} {e : Int} (h : AtD H id l e) :
    ASpec Try.prog 149 [.ptr id 0] H (fun r H' => r = .int .i64 (closeM e l.length) ∧ H' = H) := by
  have k : ASpec Try.prog 149 [.ptr 0 0] [dr l e] (fun r H' => r = .int .i64 (closeM e l.length) ∧ H' = [dr l e]) := by
    refine s149 _ _ _ (condE (fun he => condSn (b := []) (fun hl => ?_) fun hl => ?_) fun he => ?_)
    · subst he
      rw [show closeM 0 l.length = 3 by simp only [closeM]; rw [if_neg (by simp), if_pos (List.length_pos_iff.2 hl)]]; exact ⟨rfl, rfl⟩
    · subst he; subst hl
      exact ⟨rfl, rfl⟩
    · rw [show closeM e l.length = e from if_pos he]; exact ⟨rfl, rfl⟩
  have := ASpec.oneH H id k [.ptr id 0] (.int .i64 (closeM e l.length)) (dr l e) rfl rfl h rfl
  rw [set_same h] at this
  exact this

/-! ### a reader that is none -/

/-! ### the reader and the document's -/

theorem str_doc (bs : List UInt8) (p : Nat) (e most : Int) (hp : p ≤ bs.length) :
    dstrM (bs.drop p) e most = ((strM bs p e most).1, bs.drop (strM bs p e most).2.1, (strM bs p e most).2.2) ∧ (strM bs p e most).2.1 ≤ bs.length := by
  obtain ⟨h, h2, -, -⟩ := lookM_le (bs.drop p) most
  rw [List.length_drop] at h
  unfold dstrM strM
  simp only [List.length_drop]
  split
  · exact ⟨rfl, hp⟩
  split
  · exact ⟨rfl, hp⟩
  split
  · rename_i hg
    rw [if_pos (by omega)]
    exact ⟨rfl, hp⟩
  · rename_i hg
    rw [if_neg (by omega)]
    refine ⟨by simp [List.drop_drop, Nat.add_assoc], by simp only; omega⟩

end V
end
