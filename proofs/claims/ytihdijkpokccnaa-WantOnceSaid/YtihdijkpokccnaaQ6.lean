/- Q6: several of this proof's own texts, one behind the other: what each proves stands at its head. -/
import Derived.Test.YtihdijkpokccnaaProg
import Derived.Test.YtihdijkpokccnaaQ5
import Derived.Test.YtihdijkpokccnaaA3
import Derived.Sort.Walk0
import Derived.Lib.Bytealg
section
/- Printed: what the code of functions 41, 29, 42, 40, 16, 18, 62, 46, 19 asks for, by the framework's own reading of it; each line is checked against the code. -/

set_option linter.unusedVariables false
set_option maxRecDepth 100000
set_option maxHeartbeats 4000000
open Go Go.Ab Go.Proofs
namespace Rc
noncomputable section

noncomputable def goneC (H : List AObj) (c : Nat) : List AObj := match H[c]? with
  | some (.cells [.sl _ _ (.tok k)]) => H.set k .gone
  | some (.cells [.msl _ k _ _]) => H.set k .gone
  | _ => H
noncomputable def noteH (args : List AV) (H : List AObj) (x : List (List UInt8) × List (List UInt8)) : List AObj := match args with
  | [_, .ptr c1 _, .ptr c2 _, .ptr c3 _] => match H[c1]? with
    | some (.cells [.map q]) => ((((goneC (goneC H c2) c3).set q (.mp (.typed T.EB (T.seenM x.2)))).set c2 (.cells [.sl 1 (.map T.encL [] x.1) (.tok H.length)])).set c3 (.cells [.msl 1 (H.length + 1) 0 x.2.length])) ++ [.tok, .arr 1 (.map T.encL [] x.2)]
    | _ => H
  | _ => H
noncomputable def addH (args : List AV) (H : List AObj) (o : AObj) : List AObj := match args with
  | .msl _ id _ _ :: _ => H.set id o
  | _ => H
noncomputable def goneA (args : List AV) (H : List AObj) : List AObj := addH args H .gone
noncomputable def retRc : List (Nat × Ret) := [
  (40, ⟨Unit, fun _ _ _ => .tup [], fun _ H _ => H⟩), (40, ⟨List (List UInt8) × List (List UInt8), fun _ _ _ => .tup [], noteH⟩),
  (42, ⟨List (List UInt8), fun _ _ x => .sl 1 (.map T.encL [] x) .none, fun _ H _ => H⟩),
  (43, ⟨Unit, fun _ _ _ => .tup [], fun _ H _ => H⟩), (43, ⟨List (List UInt8), fun _ _ _ => .tup [], fun a H x => addH a H (.arr 1 (.map T.encL [] x))⟩),
  (16, ⟨Unit, fun _ _ _ => .sl 0 (.raw []) .nil, fun _ H _ => H⟩),
  (16, ⟨List (List UInt8), fun _ H x => .msl 1 H.length 0 x.length, fun _ H x => H ++ [.arr 1 (.map T.encL [] x)]⟩),
  (62, ⟨Int, fun _ _ x => .int .i64 x, fun _ H _ => H⟩),
  (46, ⟨List (List UInt8), fun _ _ x => .sl 1 (.map T.encL [] x) .none, fun a H _ => goneA a H⟩),
  (18, ⟨List (List UInt8), fun _ _ x => .sl 1 (.map T.encL [] x) .none, fun _ H _ => H⟩),
  (19, ⟨Bool, fun _ _ x => .bool x, fun _ H _ => H⟩)]
noncomputable def rets : FuncId → List Ret := fun f => match lookupR retRc f with
  | [] => X.rets f
  | l => l

-- 41
noncomputable def l41 : Nat → List Nat
  | _ => []
noncomputable def u41 : Nat → Bool
  | _ => false
noncomputable def m41 : Nat → Bool
  | _ => false
noncomputable def g41 : Cfg := { N := 35, live := l41, cut := u41, mu := m41, ret := rets }
theorem s41 : ∀ (s : ByteArray) (Post : AV → List AObj → Prop),
  (ASpec Try.prog 29 [AV.nilp, AV.str s] [AObj.cells [AV.str { data := #[] }, AV.sl 0 (Seq.raw []) Tip.nil], AObj.cells [AV.str s, AV.sl 0 (Seq.raw []) Tip.nil]]
      fun (r : AV) (H' : List AObj) =>
      ∃ (x : Bool),
        r = AV.bool x ∧
        H' = [AObj.cells [AV.str { data := #[] }, AV.sl 0 (Seq.raw []) Tip.nil], AObj.cells [AV.str s, AV.sl 0 (Seq.raw []) Tip.nil]] ∧
        condP (!x)
        (Post (AV.tup [AV.agg [AV.str s, AV.sl 0 (Seq.raw []) Tip.nil], AV.bool false])
        [AObj.cells [AV.str s, AV.sl 0 (Seq.raw []) Tip.nil], AObj.cells [AV.str s, AV.sl 0 (Seq.raw []) Tip.nil]])
        False) →
    ASpec Try.prog 41 [AV.nilp, AV.str s] [] Post := fun s Post h => Go.Ab.ASpec.of_vc g41 Go.Proofs.Try.func41 (by kernel_rfl) (by kernel_rfl) (by kernel_rfl) (Go.Ab.kc (by kernel_rfl) h)

-- 29
noncomputable def l29 : Nat → List Nat
  | _ => []
noncomputable def u29 : Nat → Bool
  | _ => false
noncomputable def m29 : Nat → Bool
  | _ => false
noncomputable def g29 : Cfg := { N := 19, live := l29, cut := u29, mu := m29, ret := rets }
theorem s29 : ∀ (s : ByteArray) (Post : AV → List AObj → Prop), Post (AV.bool false) [] → ASpec Try.prog 29 [AV.nilp, AV.str s] [] Post := fun s Post h => Go.Ab.ASpec.of_vc g29 Go.Proofs.Try.func29 (by kernel_rfl) (by kernel_rfl) (by kernel_rfl) (Go.Ab.kc (by kernel_rfl) h)

-- 42
noncomputable def l42 : Nat → List Nat
  | 4 => [3, 4, 11, 12, 13]
  | 7 => [3, 4, 11, 12, 13, 18, 19, 20]
  | _ => []
noncomputable def u42 : Nat → Bool
  | _ => false
noncomputable def m42 : Nat → Bool
  | 36 => true
  | _ => false
noncomputable def g42 : Cfg := { N := 42, live := l42, cut := u42, mu := m42, ret := rets }
noncomputable def c42 : Go.Code := Go.Ab.bodyOf Go.Proofs.Try.f42
noncomputable def q42_0 : Nat → (AV → List AObj → Prop) → AQ := fun (n : Nat) (Post : AV → List AObj → Prop) => endQ Try.prog (resultsOf Try.f42) Post
noncomputable def q42_1 : Nat → (AV → List AObj → Prop) → AQ := fun (n : Nat) (Post : AV → List AObj → Prop) => seqQ (fun (s' : Slots) (H' : List AObj) => awp Try.prog g42 n (codeSnd (codeSnd (codeSnd (codeSnd c42)))) s' H' (q42_0 n Post)) (q42_0 n Post)
noncomputable def q42_2 : Nat → (AV → List AObj → Prop) → AQ := fun (n : Nat) (Post : AV → List AObj → Prop) => blockQ 0 (q42_1 n Post)
noncomputable def c42_4 : Go.Code := codeFst (codeSnd (codeFst (codeSnd (codeSnd (codeSnd c42)))))
theorem s42 : ∀ (m : T.Mani) (Post : AV → List AObj → Prop),
  AWP Try.prog 42 0 c42_4
      [(3, AV.map 1), (4, AV.sl 0 (Seq.raw []) Tip.nil), (11, AV.sl 2 (Seq.map T.encR ((0 : Int), []) (Prod.snd m)) Tip.none),
        (12, AV.int IntKind.i64 (↑(List.length (Prod.snd m)) : Int)), (13, AV.int IntKind.i64 (0 : Int))]
      [AObj.cells [AV.str { data := List.toArray (Prod.fst m) }, AV.sl 2 (Seq.map T.encR ((0 : Int), []) (Prod.snd m)) Tip.none], AObj.mp MM.nil] (q42_2 0 Post) →
    ASpec Try.prog 42 [AV.agg (T.encM m)] [] Post := fun m Post h => Go.Ab.ASpec.of_vc g42 Go.Proofs.Try.func42 (by kernel_rfl) (by kernel_rfl) (by kernel_rfl) (Go.Ab.kc (by kernel_rfl) h)
noncomputable def q42_3 : Nat → (AV → List AObj → Prop) → AQ := fun (n : Nat) (Post : AV → List AObj → Prop) => loopQ Try.prog 42 n c42_4 (q42_2 n Post) (Cfg.live g42)
noncomputable def q42_4 : Nat → (AV → List AObj → Prop) → AQ := fun (n : Nat) (Post : AV → List AObj → Prop) => seqQ (fun (s' : Slots) (H' : List AObj) => awp Try.prog g42 n (codeSnd (codeSnd (codeSnd (codeFst c42_4)))) s' H' (q42_3 n Post)) (q42_3 n Post)
noncomputable def q42_5 : Nat → (AV → List AObj → Prop) → AQ := fun (n : Nat) (Post : AV → List AObj → Prop) => blockQ 1 (q42_4 n Post)
noncomputable def q42_6 : Nat → (AV → List AObj → Prop) → AQ := fun (n : Nat) (Post : AV → List AObj → Prop) => blockQ 2 (q42_5 n Post)
noncomputable def c42_7 : Go.Code := codeFst (codeSnd (codeSnd (codeFst (codeFst (codeSnd (codeSnd (codeFst c42_4)))))))
theorem v42_4n : ∀ (es : List (ByteArray × Bool)) (rs : List T.Rel) (n i : Int) (n_1 : Nat) (Post : AV → List AObj → Prop),
  condP (decide (i < n))
      (needP ((0 : Int) ≤ i ∧ i < (↑(List.length rs) : Int))
        (AWP Try.prog 42 n_1 c42_7
        [(3, AV.map 0), (4, AV.sl 0 (Seq.raw []) Tip.nil), (11, AV.sl 2 (Seq.map T.encR ((0 : Int), []) rs) Tip.none),
        (12, AV.int IntKind.i64 n), (13, AV.int IntKind.i64 i),
        (18, AV.sl 2 (Seq.map T.encN ([], []) (Prod.snd (List.getD rs (Int.toNat i) ((0 : Int), [])))) Tip.none),
        (19, AV.int IntKind.i64 (↑(List.length (Prod.snd (List.getD rs (Int.toNat i) ((0 : Int), [])))) : Int)), (20, AV.int IntKind.i64 (0 : Int))]
        [AObj.mp (MM.typed T.EB es),
        AObj.cells
        [AV.int IntKind.i64 (Prod.fst (List.getD rs (Int.toNat i) ((0 : Int), []))), AV.sl 2 (Seq.map T.encN ([], []) (Prod.snd (List.getD rs (Int.toNat i) ((0 : Int), [])))) Tip.none]]
        (q42_6 n_1 Post)))
      (ASpec Try.prog 43 [AV.sl 0 (Seq.raw []) Tip.nil] [AObj.mp (MM.typed T.EB es)] fun (r : AV) (H' : List AObj) =>
        (∃ (x : Unit), r = AV.tup [] ∧ H' = [AObj.mp (MM.typed T.EB es)] ∧ Post (AV.sl 0 (Seq.raw []) Tip.nil) [AObj.mp (MM.typed T.EB es)]) ∨
        ∃ (x : List (List UInt8)), r = AV.tup [] ∧ H' = [AObj.mp (MM.typed T.EB es)] ∧ Post (AV.sl 0 (Seq.raw []) Tip.nil) [AObj.mp (MM.typed T.EB es)]) →
    AWP Try.prog 42 n_1 c42_4
      [(3, AV.map 0), (4, AV.sl 0 (Seq.raw []) Tip.nil), (11, AV.sl 2 (Seq.map T.encR ((0 : Int), []) rs) Tip.none), (12, AV.int IntKind.i64 n),
        (13, AV.int IntKind.i64 i)]
      [AObj.mp (MM.typed T.EB es)] (q42_2 n_1 Post) := fun es rs n i n Post h => Go.Ab.AWP.loop' g42 (Cfg.live g42) c42_4 (by kernel_rfl) (by kernel_rfl) (Go.Ab.kc (by kernel_rfl) h)
theorem v42_4m : ∀ (es : List (ByteArray × Bool)) (rs : List T.Rel) (o : List (List UInt8)) (n i : Int) (n_1 : Nat) (Post : AV → List AObj → Prop),
  condP (decide (i < n))
      (needP ((0 : Int) ≤ i ∧ i < (↑(List.length rs) : Int))
        (AWP Try.prog 42 n_1 c42_7
        [(3, AV.map 0), (4, AV.msl 1 1 0 (List.length o)), (11, AV.sl 2 (Seq.map T.encR ((0 : Int), []) rs) Tip.none),
        (12, AV.int IntKind.i64 n), (13, AV.int IntKind.i64 i),
        (18, AV.sl 2 (Seq.map T.encN ([], []) (Prod.snd (List.getD rs (Int.toNat i) ((0 : Int), [])))) Tip.none),
        (19, AV.int IntKind.i64 (↑(List.length (Prod.snd (List.getD rs (Int.toNat i) ((0 : Int), [])))) : Int)), (20, AV.int IntKind.i64 (0 : Int))]
        [AObj.mp (MM.typed T.EB es), AObj.arr 1 (Seq.map T.encL [] o),
        AObj.cells
        [AV.int IntKind.i64 (Prod.fst (List.getD rs (Int.toNat i) ((0 : Int), []))), AV.sl 2 (Seq.map T.encN ([], []) (Prod.snd (List.getD rs (Int.toNat i) ((0 : Int), [])))) Tip.none]]
        (q42_6 n_1 Post)))
      (ASpec Try.prog 43 [AV.msl 1 1 0 (List.length o)] [AObj.mp (MM.typed T.EB es), AObj.arr 1 (Seq.map T.encL [] o)] fun (r : AV) (H' : List AObj) =>
        (∃ (x : Unit),
        r = AV.tup [] ∧
        H' = [AObj.mp (MM.typed T.EB es), AObj.arr 1 (Seq.map T.encL [] o)] ∧
        Post (AV.msl 1 1 0 (List.length o)) [AObj.mp (MM.typed T.EB es), AObj.arr 1 (Seq.map T.encL [] o)]) ∨
        ∃ (x : List (List UInt8)),
        r = AV.tup [] ∧
        H' = [AObj.mp (MM.typed T.EB es), AObj.arr 1 (Seq.map T.encL [] x)] ∧
        Post (AV.msl 1 1 0 (List.length o)) [AObj.mp (MM.typed T.EB es), AObj.arr 1 (Seq.map T.encL [] x)]) →
    AWP Try.prog 42 n_1 c42_4
      [(3, AV.map 0), (4, AV.msl 1 1 0 (List.length o)), (11, AV.sl 2 (Seq.map T.encR ((0 : Int), []) rs) Tip.none),
        (12, AV.int IntKind.i64 n), (13, AV.int IntKind.i64 i)]
      [AObj.mp (MM.typed T.EB es), AObj.arr 1 (Seq.map T.encL [] o)] (q42_2 n_1 Post) := fun es rs o n i n Post h => Go.Ab.AWP.loop' g42 (Cfg.live g42) c42_4 (by kernel_rfl) (by kernel_rfl) (Go.Ab.kc (by kernel_rfl) h)
theorem v42_7n : ∀ (es : List (ByteArray × Bool)) (rs : List T.Rel) (ns : List T.Need) (n i n2 i2 : Int) (n_1 : Nat) (Post : AV → List AObj → Prop),
  condP (decide (i2 < n2))
      (needP ((0 : Int) ≤ i2 ∧ i2 < (↑(List.length ns) : Int))
        (optionP (findM es { data := List.toArray (Prod.fst (List.getD ns (Int.toNat i2) ([], []))) })
        (fun (x : Bool) =>
        condP (!x)
        (needP (16 ≤ 140737488351232)
        (needP (1 ≤ 1)
        (AWP Try.prog 42 n_1 c42_7
        [(3, AV.map 0), (4, AV.msl 1 2 0 1), (11, AV.sl 2 (Seq.map T.encR ((0 : Int), []) rs) Tip.none),
        (12, AV.int IntKind.i64 n), (13, AV.int IntKind.i64 i), (18, AV.sl 2 (Seq.map T.encN ([], []) ns) Tip.none), (19, AV.int IntKind.i64 n2),
        (20, AV.int IntKind.i64 (IntKind.wrap IntKind.i64 (i2 + (1 : Int))))]
        [AObj.mp (MM.put (MM.typed T.EB es) { data := List.toArray (Prod.fst (List.getD ns (Int.toNat i2) ([], []))) } (AV.bool true)),
        AObj.cells
        [AV.str { data := List.toArray (Prod.fst (List.getD ns (Int.toNat i2) ([], []))) },
        AV.sl 2 (Seq.map T.encS ((0 : Int), (0 : Int)) (Prod.snd (List.getD ns (Int.toNat i2) ([], [])))) Tip.none],
        AObj.arr 1 (Seq.raw [[AV.str { data := List.toArray (Prod.fst (List.getD ns (Int.toNat i2) ([], []))) }]])]
        (q42_6 n_1 Post))))
        (AWP Try.prog 42 n_1 c42_7
        [(3, AV.map 0), (4, AV.sl 0 (Seq.raw []) Tip.nil), (11, AV.sl 2 (Seq.map T.encR ((0 : Int), []) rs) Tip.none),
        (12, AV.int IntKind.i64 n), (13, AV.int IntKind.i64 i), (18, AV.sl 2 (Seq.map T.encN ([], []) ns) Tip.none), (19, AV.int IntKind.i64 n2),
        (20, AV.int IntKind.i64 (IntKind.wrap IntKind.i64 (i2 + (1 : Int))))]
        [AObj.mp (MM.typed T.EB es),
        AObj.cells
        [AV.str { data := List.toArray (Prod.fst (List.getD ns (Int.toNat i2) ([], []))) },
        AV.sl 2 (Seq.map T.encS ((0 : Int), (0 : Int)) (Prod.snd (List.getD ns (Int.toNat i2) ([], [])))) Tip.none]]
        (q42_6 n_1 Post)))
        (needP (16 ≤ 140737488351232)
        (needP (1 ≤ 1)
        (AWP Try.prog 42 n_1 c42_7
        [(3, AV.map 0), (4, AV.msl 1 2 0 1), (11, AV.sl 2 (Seq.map T.encR ((0 : Int), []) rs) Tip.none),
        (12, AV.int IntKind.i64 n), (13, AV.int IntKind.i64 i), (18, AV.sl 2 (Seq.map T.encN ([], []) ns) Tip.none), (19, AV.int IntKind.i64 n2),
        (20, AV.int IntKind.i64 (IntKind.wrap IntKind.i64 (i2 + (1 : Int))))]
        [AObj.mp (MM.put (MM.typed T.EB es) { data := List.toArray (Prod.fst (List.getD ns (Int.toNat i2) ([], []))) } (AV.bool true)),
        AObj.cells
        [AV.str { data := List.toArray (Prod.fst (List.getD ns (Int.toNat i2) ([], []))) },
        AV.sl 2 (Seq.map T.encS ((0 : Int), (0 : Int)) (Prod.snd (List.getD ns (Int.toNat i2) ([], [])))) Tip.none],
        AObj.arr 1 (Seq.raw [[AV.str { data := List.toArray (Prod.fst (List.getD ns (Int.toNat i2) ([], []))) }]])]
        (q42_6 n_1 Post))))))
      (AWP Try.prog 42 n_1 c42_4
        [(3, AV.map 0), (4, AV.sl 0 (Seq.raw []) Tip.nil), (11, AV.sl 2 (Seq.map T.encR ((0 : Int), []) rs) Tip.none),
        (12, AV.int IntKind.i64 n), (13, AV.int IntKind.i64 (IntKind.wrap IntKind.i64 (i + (1 : Int))))]
        [AObj.mp (MM.typed T.EB es)] (q42_2 n_1 Post)) →
    AWP Try.prog 42 n_1 c42_7
      [(3, AV.map 0), (4, AV.sl 0 (Seq.raw []) Tip.nil), (11, AV.sl 2 (Seq.map T.encR ((0 : Int), []) rs) Tip.none), (12, AV.int IntKind.i64 n),
        (13, AV.int IntKind.i64 i), (18, AV.sl 2 (Seq.map T.encN ([], []) ns) Tip.none), (19, AV.int IntKind.i64 n2), (20, AV.int IntKind.i64 i2)]
      [AObj.mp (MM.typed T.EB es)] (q42_6 n_1 Post) := fun es rs ns n i n2 i2 n Post h => Go.Ab.AWP.loop' g42 (Cfg.live g42) c42_7 (by kernel_rfl) (by kernel_rfl) (Go.Ab.kc (by kernel_rfl) h)
theorem v42_7m : ∀ (es : List (ByteArray × Bool)) (rs : List T.Rel) (ns : List T.Need) (o : List (List UInt8)) (n i n2 i2 : Int) (n_1 : Nat) (Post : AV → List AObj → Prop),
  condP (decide (i2 < n2))
      (needP ((0 : Int) ≤ i2 ∧ i2 < (↑(List.length ns) : Int))
        (optionP (findM es { data := List.toArray (Prod.fst (List.getD ns (Int.toNat i2) ([], []))) })
        (fun (x : Bool) =>
        condP (!x)
        (needP (List.length o = List.length o ∧ (List.length o + 1) * 16 ≤ 140737488351232)
        (AWP Try.prog 42 n_1 c42_7
        [(3, AV.map 0), (4, AV.msl 1 3 0 (List.length o + 1)),
        (11, AV.sl 2 (Seq.map T.encR ((0 : Int), []) rs) Tip.none), (12, AV.int IntKind.i64 n), (13, AV.int IntKind.i64 i),
        (18, AV.sl 2 (Seq.map T.encN ([], []) ns) Tip.none), (19, AV.int IntKind.i64 n2),
        (20, AV.int IntKind.i64 (IntKind.wrap IntKind.i64 (i2 + (1 : Int))))]
        [AObj.mp (MM.put (MM.typed T.EB es) { data := List.toArray (Prod.fst (List.getD ns (Int.toNat i2) ([], []))) } (AV.bool true)), AObj.gone,
        AObj.cells
        [AV.str { data := List.toArray (Prod.fst (List.getD ns (Int.toNat i2) ([], []))) },
        AV.sl 2 (Seq.map T.encS ((0 : Int), (0 : Int)) (Prod.snd (List.getD ns (Int.toNat i2) ([], [])))) Tip.none],
        AObj.arr 1 (Seq.app (Seq.map T.encL [] o) (Seq.raw [[AV.str { data := List.toArray (Prod.fst (List.getD ns (Int.toNat i2) ([], []))) }]]))]
        (q42_6 n_1 Post)))
        (AWP Try.prog 42 n_1 c42_7
        [(3, AV.map 0), (4, AV.msl 1 1 0 (List.length o)), (11, AV.sl 2 (Seq.map T.encR ((0 : Int), []) rs) Tip.none),
        (12, AV.int IntKind.i64 n), (13, AV.int IntKind.i64 i), (18, AV.sl 2 (Seq.map T.encN ([], []) ns) Tip.none), (19, AV.int IntKind.i64 n2),
        (20, AV.int IntKind.i64 (IntKind.wrap IntKind.i64 (i2 + (1 : Int))))]
        [AObj.mp (MM.typed T.EB es), AObj.arr 1 (Seq.map T.encL [] o),
        AObj.cells
        [AV.str { data := List.toArray (Prod.fst (List.getD ns (Int.toNat i2) ([], []))) },
        AV.sl 2 (Seq.map T.encS ((0 : Int), (0 : Int)) (Prod.snd (List.getD ns (Int.toNat i2) ([], [])))) Tip.none]]
        (q42_6 n_1 Post)))
        (needP (List.length o = List.length o ∧ (List.length o + 1) * 16 ≤ 140737488351232)
        (AWP Try.prog 42 n_1 c42_7
        [(3, AV.map 0), (4, AV.msl 1 3 0 (List.length o + 1)), (11, AV.sl 2 (Seq.map T.encR ((0 : Int), []) rs) Tip.none),
        (12, AV.int IntKind.i64 n), (13, AV.int IntKind.i64 i), (18, AV.sl 2 (Seq.map T.encN ([], []) ns) Tip.none), (19, AV.int IntKind.i64 n2),
        (20, AV.int IntKind.i64 (IntKind.wrap IntKind.i64 (i2 + (1 : Int))))]
        [AObj.mp (MM.put (MM.typed T.EB es) { data := List.toArray (Prod.fst (List.getD ns (Int.toNat i2) ([], []))) } (AV.bool true)), AObj.gone,
        AObj.cells
        [AV.str { data := List.toArray (Prod.fst (List.getD ns (Int.toNat i2) ([], []))) },
        AV.sl 2 (Seq.map T.encS ((0 : Int), (0 : Int)) (Prod.snd (List.getD ns (Int.toNat i2) ([], [])))) Tip.none],
        AObj.arr 1 (Seq.app (Seq.map T.encL [] o) (Seq.raw [[AV.str { data := List.toArray (Prod.fst (List.getD ns (Int.toNat i2) ([], []))) }]]))]
        (q42_6 n_1 Post)))))
      (AWP Try.prog 42 n_1 c42_4
        [(3, AV.map 0), (4, AV.msl 1 1 0 (List.length o)), (11, AV.sl 2 (Seq.map T.encR ((0 : Int), []) rs) Tip.none),
        (12, AV.int IntKind.i64 n), (13, AV.int IntKind.i64 (IntKind.wrap IntKind.i64 (i + (1 : Int))))]
        [AObj.mp (MM.typed T.EB es), AObj.arr 1 (Seq.map T.encL [] o)] (q42_2 n_1 Post)) →
    AWP Try.prog 42 n_1 c42_7
      [(3, AV.map 0), (4, AV.msl 1 1 0 (List.length o)), (11, AV.sl 2 (Seq.map T.encR ((0 : Int), []) rs) Tip.none),
        (12, AV.int IntKind.i64 n), (13, AV.int IntKind.i64 i), (18, AV.sl 2 (Seq.map T.encN ([], []) ns) Tip.none), (19, AV.int IntKind.i64 n2),
        (20, AV.int IntKind.i64 i2)]
      [AObj.mp (MM.typed T.EB es), AObj.arr 1 (Seq.map T.encL [] o)] (q42_6 n_1 Post) := fun es rs ns o n i n2 i2 n Post h => Go.Ab.AWP.loop' g42 (Cfg.live g42) c42_7 (by kernel_rfl) (by kernel_rfl) (Go.Ab.kc (by kernel_rfl) h)

-- 40
noncomputable def l40 : Nat → List Nat
  | _ => []
noncomputable def u40 : Nat → Bool
  | _ => false
noncomputable def m40 : Nat → Bool
  | 18 => true
  | _ => false
noncomputable def g40 : Cfg := { N := 19, live := l40, cut := u40, mu := m40, ret := rets }
theorem s40a : ∀ (es : List (ByteArray × Bool)) (t : List (List UInt8)) (x : List UInt8) (Post : AV → List AObj → Prop),
  optionP (findM es { data := List.toArray x })
      (fun (x_1 : Bool) =>
        condP (!x_1)
        (needP ((List.length t + 1) * 16 ≤ 140737488351232)
        ((AV.sl 0 (Seq.raw []) Tip.nil = AV.sl 0 (Seq.raw []) Tip.nil ∧
        [AObj.mp (MM.put (MM.typed T.EB es) { data := List.toArray x } (AV.bool true)), AObj.cells [AV.map 0], AObj.cells [AV.sl 1 (Seq.map T.encL [] t) (Tip.tok 4)],
        AObj.cells [AV.sl 0 (Seq.raw []) Tip.nil], AObj.gone, AObj.tok] =
        [AObj.mp (MM.put (MM.typed T.EB es) { data := List.toArray x } (AV.bool true)), AObj.cells [AV.map 0], AObj.cells [AV.sl 1 (Seq.map T.encL [] t) (Tip.tok 4)],
        AObj.cells [AV.sl 0 (Seq.raw []) Tip.nil], AObj.gone, AObj.tok]) ∧
        needP (16 ≤ 140737488351232)
        (needP (1 ≤ 1)
        (Post (AV.tup [])
        [AObj.mp (MM.put (MM.typed T.EB es) { data := List.toArray x } (AV.bool true)), AObj.cells [AV.map 0],
        AObj.cells [AV.sl 1 (Seq.app (Seq.map T.encL [] t) (Seq.raw [[AV.str { data := List.toArray x }]])) (Tip.tok 5)],
        AObj.cells [AV.msl 1 6 0 1], AObj.gone, AObj.tok, AObj.arr 1 (Seq.raw [[AV.str { data := List.toArray x }]])]))))
        (Post (AV.tup [])
        [AObj.mp (MM.typed T.EB es), AObj.cells [AV.map 0], AObj.cells [AV.sl 1 (Seq.map T.encL [] t) (Tip.tok 4)], AObj.cells [AV.sl 0 (Seq.raw []) Tip.nil],
        AObj.tok]))
      (needP ((List.length t + 1) * 16 ≤ 140737488351232)
        ((AV.sl 0 (Seq.raw []) Tip.nil = AV.sl 0 (Seq.raw []) Tip.nil ∧
        [AObj.mp (MM.put (MM.typed T.EB es) { data := List.toArray x } (AV.bool true)), AObj.cells [AV.map 0], AObj.cells [AV.sl 1 (Seq.map T.encL [] t) (Tip.tok 4)],
        AObj.cells [AV.sl 0 (Seq.raw []) Tip.nil], AObj.gone, AObj.tok] =
        [AObj.mp (MM.put (MM.typed T.EB es) { data := List.toArray x } (AV.bool true)), AObj.cells [AV.map 0], AObj.cells [AV.sl 1 (Seq.map T.encL [] t) (Tip.tok 4)],
        AObj.cells [AV.sl 0 (Seq.raw []) Tip.nil], AObj.gone, AObj.tok]) ∧
        needP (16 ≤ 140737488351232)
        (needP (1 ≤ 1)
        (Post (AV.tup [])
        [AObj.mp (MM.put (MM.typed T.EB es) { data := List.toArray x } (AV.bool true)), AObj.cells [AV.map 0],
        AObj.cells [AV.sl 1 (Seq.app (Seq.map T.encL [] t) (Seq.raw [[AV.str { data := List.toArray x }]])) (Tip.tok 5)],
        AObj.cells [AV.msl 1 6 0 1], AObj.gone, AObj.tok, AObj.arr 1 (Seq.raw [[AV.str { data := List.toArray x }]])])))) →
    ASpec Try.prog 40 [AV.str { data := List.toArray x }, AV.ptr 1 0, AV.ptr 2 0, AV.ptr 3 0]
      [AObj.mp (MM.typed T.EB es), AObj.cells [AV.map 0], AObj.cells [AV.sl 1 (Seq.map T.encL [] t) (Tip.tok 4)], AObj.cells [AV.sl 0 (Seq.raw []) Tip.nil], AObj.tok]
      Post := fun es t x Post h => Go.Ab.ASpec.of_vc g40 Go.Proofs.Try.func40 (by kernel_rfl) (by kernel_rfl) (by kernel_rfl) (Go.Ab.kc (by kernel_rfl) h)
theorem s40b : ∀ (es : List (ByteArray × Bool)) (t o : List (List UInt8)) (x : List UInt8) (Post : AV → List AObj → Prop),
  optionP (findM es { data := List.toArray x })
      (fun (x_1 : Bool) =>
        condP (!x_1)
        (needP ((List.length t + 1) * 16 ≤ 140737488351232)
        ((AV.msl 1 5 0 (List.length o) = AV.msl 1 5 0 (List.length o) ∧
        [AObj.mp (MM.put (MM.typed T.EB es) { data := List.toArray x } (AV.bool true)), AObj.cells [AV.map 0], AObj.cells [AV.sl 1 (Seq.map T.encL [] t) (Tip.tok 4)],
        AObj.cells [AV.msl 1 5 0 (List.length o)], AObj.gone, AObj.arr 1 (Seq.map T.encL [] o), AObj.tok] =
        [AObj.mp (MM.put (MM.typed T.EB es) { data := List.toArray x } (AV.bool true)), AObj.cells [AV.map 0], AObj.cells [AV.sl 1 (Seq.map T.encL [] t) (Tip.tok 4)],
        AObj.cells [AV.msl 1 5 0 (List.length o)], AObj.gone, AObj.arr 1 (Seq.map T.encL [] o), AObj.tok]) ∧
        needP (List.length o = List.length o ∧ (List.length o + 1) * 16 ≤ 140737488351232)
        (Post (AV.tup [])
        [AObj.mp (MM.put (MM.typed T.EB es) { data := List.toArray x } (AV.bool true)), AObj.cells [AV.map 0],
        AObj.cells [AV.sl 1 (Seq.app (Seq.map T.encL [] t) (Seq.raw [[AV.str { data := List.toArray x }]])) (Tip.tok 6)],
        AObj.cells [AV.msl 1 7 0 (List.length o + 1)], AObj.gone, AObj.gone, AObj.tok,
        AObj.arr 1 (Seq.app (Seq.map T.encL [] o) (Seq.raw [[AV.str { data := List.toArray x }]]))])))
        (Post (AV.tup [])
        [AObj.mp (MM.typed T.EB es), AObj.cells [AV.map 0], AObj.cells [AV.sl 1 (Seq.map T.encL [] t) (Tip.tok 4)],
        AObj.cells [AV.msl 1 5 0 (List.length o)], AObj.tok, AObj.arr 1 (Seq.map T.encL [] o)]))
      (needP ((List.length t + 1) * 16 ≤ 140737488351232)
        ((AV.msl 1 5 0 (List.length o) = AV.msl 1 5 0 (List.length o) ∧
        [AObj.mp (MM.put (MM.typed T.EB es) { data := List.toArray x } (AV.bool true)), AObj.cells [AV.map 0], AObj.cells [AV.sl 1 (Seq.map T.encL [] t) (Tip.tok 4)],
        AObj.cells [AV.msl 1 5 0 (List.length o)], AObj.gone, AObj.arr 1 (Seq.map T.encL [] o), AObj.tok] =
        [AObj.mp (MM.put (MM.typed T.EB es) { data := List.toArray x } (AV.bool true)), AObj.cells [AV.map 0], AObj.cells [AV.sl 1 (Seq.map T.encL [] t) (Tip.tok 4)],
        AObj.cells [AV.msl 1 5 0 (List.length o)], AObj.gone, AObj.arr 1 (Seq.map T.encL [] o), AObj.tok]) ∧
        needP (List.length o = List.length o ∧ (List.length o + 1) * 16 ≤ 140737488351232)
        (Post (AV.tup [])
        [AObj.mp (MM.put (MM.typed T.EB es) { data := List.toArray x } (AV.bool true)), AObj.cells [AV.map 0],
        AObj.cells [AV.sl 1 (Seq.app (Seq.map T.encL [] t) (Seq.raw [[AV.str { data := List.toArray x }]])) (Tip.tok 6)],
        AObj.cells [AV.msl 1 7 0 (List.length o + 1)], AObj.gone, AObj.gone, AObj.tok,
        AObj.arr 1 (Seq.app (Seq.map T.encL [] o) (Seq.raw [[AV.str { data := List.toArray x }]]))]))) →
    ASpec Try.prog 40 [AV.str { data := List.toArray x }, AV.ptr 1 0, AV.ptr 2 0, AV.ptr 3 0]
      [AObj.mp (MM.typed T.EB es), AObj.cells [AV.map 0], AObj.cells [AV.sl 1 (Seq.map T.encL [] t) (Tip.tok 4)],
        AObj.cells [AV.msl 1 5 0 (List.length o)], AObj.tok, AObj.arr 1 (Seq.map T.encL [] o)]
      Post := fun es t o x Post h => Go.Ab.ASpec.of_vc g40 Go.Proofs.Try.func40 (by kernel_rfl) (by kernel_rfl) (by kernel_rfl) (Go.Ab.kc (by kernel_rfl) h)

-- 16
noncomputable def l16 : Nat → List Nat
  | 5 => [0, 6, 7, 8, 18, 19, 20]
  | 9 => [0, 6, 7, 8]
  | 14 => [0, 6, 7, 8, 48, 49, 50]
  | _ => []
noncomputable def u16 : Nat → Bool
  | _ => false
noncomputable def m16 : Nat → Bool
  | _ => false
noncomputable def g16 : Cfg := { N := 61, live := l16, cut := u16, mu := m16, ret := rets }
noncomputable def c16 : Go.Code := Go.Ab.bodyOf Go.Proofs.Try.f16
noncomputable def q16_0 : Nat → (AV → List AObj → Prop) → AQ := fun (n : Nat) (Post : AV → List AObj → Prop) => endQ Try.prog (resultsOf Try.f16) Post
noncomputable def q16_1 : Nat → (AV → List AObj → Prop) → AQ := fun (n : Nat) (Post : AV → List AObj → Prop) => seqQ (fun (s' : Slots) (H' : List AObj) => awp Try.prog g16 n (codeSnd (codeSnd (codeSnd (codeSnd (codeSnd c16))))) s' H' (q16_0 n Post)) (q16_0 n Post)
noncomputable def q16_2 : Nat → (AV → List AObj → Prop) → AQ := fun (n : Nat) (Post : AV → List AObj → Prop) => blockQ 0 (q16_1 n Post)
noncomputable def c16_5 : Go.Code := codeFst (codeSnd (codeFst (codeSnd (codeSnd (codeSnd (codeSnd c16))))))
theorem s16 : ∀ (x : AV) (es : T.Kn) (root : List T.Need) (Post : AV → List AObj → Prop),
  AWP Try.prog 61 2 c16_5
      [(0,
        Ab.get
        [(20, AV.int IntKind.i64 (0 : Int)), (19, AV.int IntKind.i64 (↑(List.length root) : Int)), (18, AV.sl 2 (Seq.map T.encN ([], []) root) Tip.none),
        (8, AV.fn 40 [AV.ptr 3 0, AV.ptr 4 0, AV.ptr 5 0]),
        (17, AV.fn 40 [AV.ptr 3 0, AV.ptr 4 0, AV.ptr 5 0]), (7, AV.ptr 5 0),
        (6, AV.ptr 4 0), (5, AV.ptr 3 0), (16, AV.map 2), (4, AV.sl 0 (Seq.raw []) Tip.nil), (0, x),
        (1, AV.sl 2 (Seq.map T.encN ([], []) root) Tip.none)]
        0),
        (6, AV.ptr 4 0), (7, AV.ptr 5 0),
        (8, AV.fn 40 [AV.ptr 3 0, AV.ptr 4 0, AV.ptr 5 0]), (18, AV.sl 2 (Seq.map T.encN ([], []) root) Tip.none),
        (19, AV.int IntKind.i64 (↑(List.length root) : Int)), (20, AV.int IntKind.i64 (0 : Int))]
      [AObj.mp (MM.typed T.EK es), AObj.cells [AV.map 0], AObj.mp MM.nil, AObj.cells [AV.map 2], AObj.cells [AV.sl 0 (Seq.raw []) Tip.nil],
        AObj.cells [AV.sl 0 (Seq.raw []) Tip.nil]]
      (q16_2 2 Post) →
    ASpec Try.prog 16 [x, AV.sl 2 (Seq.map T.encN ([], []) root) Tip.none] (T.HX es) Post := fun x es root Post h => Go.Ab.ASpec.of_vc g16 Go.Proofs.Try.func16 (by kernel_rfl) (by kernel_rfl) (by kernel_rfl) (Go.Ab.kc (by kernel_rfl) h)
noncomputable def q16_3 : Nat → (AV → List AObj → Prop) → AQ := fun (n : Nat) (Post : AV → List AObj → Prop) => seqQ (fun (s' : Slots) (H' : List AObj) => awp Try.prog g16 n (codeSnd (codeSnd (codeSnd (codeSnd (codeSnd (codeSnd c16)))))) s' H' (q16_0 n Post)) (q16_0 n Post)
noncomputable def q16_4 : Nat → (AV → List AObj → Prop) → AQ := fun (n : Nat) (Post : AV → List AObj → Prop) => blockQ 2 (q16_3 n Post)
noncomputable def c16_9 : Go.Code := codeFst (codeFst (codeSnd (codeSnd (codeSnd (codeSnd (codeSnd c16))))))
theorem v16_5a : ∀ (x : AV) (es : T.Kn) (root : List T.Need) (n i : Int) (n_1 : Nat) (Post : AV → List AObj → Prop),
  condP (decide (i < n))
      (needP ((0 : Int) ≤ i ∧ i < (↑(List.length root) : Int))
        (ASpec Try.prog 40
        [AV.str { data := List.toArray (Prod.fst (List.getD root (Int.toNat i) ([], []))) }, AV.ptr 3 0, AV.ptr 4 0, AV.ptr 5 0]
        [AObj.mp (MM.typed T.EK es), AObj.cells [AV.map 0], AObj.mp (MM.typed T.EB []), AObj.cells [AV.map 2],
        AObj.cells [AV.sl 1 (Seq.map T.encL [] []) (Tip.tok 6)], AObj.cells [AV.sl 0 (Seq.raw []) Tip.nil], AObj.tok,
        AObj.cells
        [AV.str { data := List.toArray (Prod.fst (List.getD root (Int.toNat i) ([], []))) },
        AV.sl 2 (Seq.map T.encS ((0 : Int), (0 : Int)) (Prod.snd (List.getD root (Int.toNat i) ([], [])))) Tip.none]]
        fun (r : AV) (H' : List AObj) =>
        (∃ (x_1 : Unit),
        r = AV.tup [] ∧
        H' =
        [AObj.mp (MM.typed T.EK es), AObj.cells [AV.map 0], AObj.mp (MM.typed T.EB []), AObj.cells [AV.map 2],
        AObj.cells [AV.sl 1 (Seq.map T.encL [] []) (Tip.tok 6)], AObj.cells [AV.sl 0 (Seq.raw []) Tip.nil], AObj.tok,
        AObj.cells
        [AV.str { data := List.toArray (Prod.fst (List.getD root (Int.toNat i) ([], []))) },
        AV.sl 2 (Seq.map T.encS ((0 : Int), (0 : Int)) (Prod.snd (List.getD root (Int.toNat i) ([], [])))) Tip.none]] ∧
        AWP Try.prog 61 n_1 c16_5
        [(0,
        Ab.get
        [(20, AV.int IntKind.i64 (IntKind.wrap IntKind.i64 (i + (1 : Int)))), (28, AV.int IntKind.i64 (IntKind.wrap IntKind.i64 (i + (1 : Int)))),
        (27, AV.tup []), (26, AV.str { data := List.toArray (Prod.fst (List.getD root (Int.toNat i) ([], []))) }), (25, AV.ptr 7 0),
        (24, AV.fn (40 : FuncId) [AV.ptr 3 0, AV.ptr 4 0, AV.ptr 5 0]), (10, AV.ptr 7 0),
        (23,
        AV.agg
        [AV.str { data := List.toArray (Prod.fst (List.getD root (Int.toNat i) ([], []))) },
        AV.sl 2 (Seq.map T.encS ((0 : Int), (0 : Int)) (Prod.snd (List.getD root (Int.toNat i) ([], [])))) Tip.none]),
        (22,
        AV.iptr
        [AV.str { data := List.toArray (Prod.fst (List.getD root (Int.toNat i) ([], []))) },
        AV.sl 2 (Seq.map T.encS ((0 : Int), (0 : Int)) (Prod.snd (List.getD root (Int.toNat i) ([], [])))) Tip.none]
        0),
        (21, AV.bool (decide (i < n))), (0, x), (6, AV.ptr 4 0), (7, AV.ptr 5 0),
        (8, AV.fn (40 : FuncId) [AV.ptr 3 0, AV.ptr 4 0, AV.ptr 5 0]),
        (18, AV.sl 2 (Seq.map T.encN ([], []) root) Tip.none), (19, AV.int IntKind.i64 n), (20, AV.int IntKind.i64 i)]
        0),
        (6, AV.ptr 4 0), (7, AV.ptr 5 0),
        (8, AV.fn (40 : FuncId) [AV.ptr 3 0, AV.ptr 4 0, AV.ptr 5 0]),
        (18, AV.sl 2 (Seq.map T.encN ([], []) root) Tip.none), (19, AV.int IntKind.i64 n),
        (20, AV.int IntKind.i64 (IntKind.wrap IntKind.i64 (i + (1 : Int))))]
        [AObj.mp (MM.typed T.EK es), AObj.cells [AV.map 0], AObj.mp (MM.typed T.EB []), AObj.cells [AV.map 2],
        AObj.cells [AV.sl 1 (Seq.map T.encL [] []) (Tip.tok 6)], AObj.cells [AV.sl 0 (Seq.raw []) Tip.nil], AObj.tok,
        AObj.cells
        [AV.str { data := List.toArray (Prod.fst (List.getD root (Int.toNat i) ([], []))) },
        AV.sl 2 (Seq.map T.encS ((0 : Int), (0 : Int)) (Prod.snd (List.getD root (Int.toNat i) ([], [])))) Tip.none]]
        (q16_2 n_1 Post)) ∨
        ∃ (x_1 : List (List UInt8) × List (List UInt8)),
        r = AV.tup [] ∧
        H' =
        [AObj.mp (MM.typed T.EK es), AObj.cells [AV.map 0], AObj.mp (MM.typed T.EB (T.seenM (Prod.snd x_1))), AObj.cells [AV.map 2],
        AObj.cells [AV.sl 1 (Seq.map T.encL [] (Prod.fst x_1)) (Tip.tok 8)], AObj.cells [AV.msl 1 9 0 (List.length (Prod.snd x_1))], AObj.gone,
        AObj.cells
        [AV.str { data := List.toArray (Prod.fst (List.getD root (Int.toNat i) ([], []))) },
        AV.sl 2 (Seq.map T.encS ((0 : Int), (0 : Int)) (Prod.snd (List.getD root (Int.toNat i) ([], [])))) Tip.none],
        AObj.tok, AObj.arr 1 (Seq.map T.encL [] (Prod.snd x_1))] ∧
        AWP Try.prog 61 n_1 c16_5
        [(0,
        Ab.get
        [(20, AV.int IntKind.i64 (IntKind.wrap IntKind.i64 (i + (1 : Int)))), (28, AV.int IntKind.i64 (IntKind.wrap IntKind.i64 (i + (1 : Int)))),
        (27, AV.tup []), (26, AV.str { data := List.toArray (Prod.fst (List.getD root (Int.toNat i) ([], []))) }), (25, AV.ptr 7 0),
        (24, AV.fn (40 : FuncId) [AV.ptr 3 0, AV.ptr 4 0, AV.ptr 5 0]), (10, AV.ptr 7 0),
        (23,
        AV.agg
        [AV.str { data := List.toArray (Prod.fst (List.getD root (Int.toNat i) ([], []))) },
        AV.sl 2 (Seq.map T.encS ((0 : Int), (0 : Int)) (Prod.snd (List.getD root (Int.toNat i) ([], [])))) Tip.none]),
        (22,
        AV.iptr
        [AV.str { data := List.toArray (Prod.fst (List.getD root (Int.toNat i) ([], []))) },
        AV.sl 2 (Seq.map T.encS ((0 : Int), (0 : Int)) (Prod.snd (List.getD root (Int.toNat i) ([], [])))) Tip.none]
        0),
        (21, AV.bool (decide (i < n))), (0, x), (6, AV.ptr 4 0), (7, AV.ptr 5 0),
        (8, AV.fn (40 : FuncId) [AV.ptr 3 0, AV.ptr 4 0, AV.ptr 5 0]),
        (18, AV.sl 2 (Seq.map T.encN ([], []) root) Tip.none), (19, AV.int IntKind.i64 n), (20, AV.int IntKind.i64 i)]
        0),
        (6, AV.ptr 4 0), (7, AV.ptr 5 0),
        (8, AV.fn (40 : FuncId) [AV.ptr 3 0, AV.ptr 4 0, AV.ptr 5 0]),
        (18, AV.sl 2 (Seq.map T.encN ([], []) root) Tip.none), (19, AV.int IntKind.i64 n),
        (20, AV.int IntKind.i64 (IntKind.wrap IntKind.i64 (i + (1 : Int))))]
        [AObj.mp (MM.typed T.EK es), AObj.cells [AV.map 0], AObj.mp (MM.typed T.EB (T.seenM (Prod.snd x_1))), AObj.cells [AV.map 2],
        AObj.cells [AV.sl 1 (Seq.map T.encL [] (Prod.fst x_1)) (Tip.tok 8)], AObj.cells [AV.msl 1 9 0 (List.length (Prod.snd x_1))], AObj.gone,
        AObj.cells
        [AV.str { data := List.toArray (Prod.fst (List.getD root (Int.toNat i) ([], []))) },
        AV.sl 2 (Seq.map T.encS ((0 : Int), (0 : Int)) (Prod.snd (List.getD root (Int.toNat i) ([], [])))) Tip.none],
        AObj.tok, AObj.arr 1 (Seq.map T.encL [] (Prod.snd x_1))]
        (q16_2 n_1 Post)))
      (AWP Try.prog 61 n_1 c16_9
        [(0,
        Ab.get
        [(21, AV.bool (decide (i < n))), (0, x), (6, AV.ptr 4 0), (7, AV.ptr 5 0),
        (8, AV.fn (40 : FuncId) [AV.ptr 3 0, AV.ptr 4 0, AV.ptr 5 0]),
        (18, AV.sl 2 (Seq.map T.encN ([], []) root) Tip.none), (19, AV.int IntKind.i64 n), (20, AV.int IntKind.i64 i)]
        0),
        (6, AV.ptr 4 0), (7, AV.ptr 5 0),
        (8, AV.fn (40 : FuncId) [AV.ptr 3 0, AV.ptr 4 0, AV.ptr 5 0])]
        [AObj.mp (MM.typed T.EK es), AObj.cells [AV.map 0], AObj.mp (MM.typed T.EB []), AObj.cells [AV.map 2], AObj.cells [AV.sl 1 (Seq.map T.encL [] []) (Tip.tok 6)],
        AObj.cells [AV.sl 0 (Seq.raw []) Tip.nil], AObj.tok]
        (q16_4 n_1 Post)) →
    AWP Try.prog 61 n_1 c16_5
      [(0, x), (6, AV.ptr 4 0), (7, AV.ptr 5 0),
        (8, AV.fn (40 : FuncId) [AV.ptr 3 0, AV.ptr 4 0, AV.ptr 5 0]), (18, AV.sl 2 (Seq.map T.encN ([], []) root) Tip.none),
        (19, AV.int IntKind.i64 n), (20, AV.int IntKind.i64 i)]
      [AObj.mp (MM.typed T.EK es), AObj.cells [AV.map 0], AObj.mp (MM.typed T.EB []), AObj.cells [AV.map 2], AObj.cells [AV.sl 1 (Seq.map T.encL [] []) (Tip.tok 6)],
        AObj.cells [AV.sl 0 (Seq.raw []) Tip.nil], AObj.tok]
      (q16_2 n_1 Post) := fun x es root n i n Post h => Go.Ab.AWP.loop' g16 (Cfg.live g16) c16_5 (by kernel_rfl) (by kernel_rfl) (Go.Ab.kc (by kernel_rfl) h)
theorem v16_5b : ∀ (x : AV) (es : T.Kn) (root : List T.Need) (t o : List (List UInt8)) (n i : Int) (n_1 : Nat) (Post : AV → List AObj → Prop),
  condP (decide (i < n))
      (needP ((0 : Int) ≤ i ∧ i < (↑(List.length root) : Int))
        (ASpec Try.prog 40
        [AV.str { data := List.toArray (Prod.fst (List.getD root (Int.toNat i) ([], []))) }, AV.ptr 3 0, AV.ptr 4 0, AV.ptr 5 0]
        [AObj.mp (MM.typed T.EK es), AObj.cells [AV.map 0], AObj.mp (MM.typed T.EB (T.seenM o)), AObj.cells [AV.map 2],
        AObj.cells [AV.sl 1 (Seq.map T.encL [] t) (Tip.tok 6)], AObj.cells [AV.msl 1 7 0 (List.length o)], AObj.tok,
        AObj.arr 1 (Seq.map T.encL [] o),
        AObj.cells
        [AV.str { data := List.toArray (Prod.fst (List.getD root (Int.toNat i) ([], []))) },
        AV.sl 2 (Seq.map T.encS ((0 : Int), (0 : Int)) (Prod.snd (List.getD root (Int.toNat i) ([], [])))) Tip.none]]
        fun (r : AV) (H' : List AObj) =>
        (∃ (x_1 : Unit),
        r = AV.tup [] ∧
        H' =
        [AObj.mp (MM.typed T.EK es), AObj.cells [AV.map 0], AObj.mp (MM.typed T.EB (T.seenM o)), AObj.cells [AV.map 2],
        AObj.cells [AV.sl 1 (Seq.map T.encL [] t) (Tip.tok 6)], AObj.cells [AV.msl 1 7 0 (List.length o)], AObj.tok,
        AObj.arr 1 (Seq.map T.encL [] o),
        AObj.cells
        [AV.str { data := List.toArray (Prod.fst (List.getD root (Int.toNat i) ([], []))) },
        AV.sl 2 (Seq.map T.encS ((0 : Int), (0 : Int)) (Prod.snd (List.getD root (Int.toNat i) ([], [])))) Tip.none]] ∧
        AWP Try.prog 61 n_1 c16_5
        [(0,
        Ab.get
        [(20, AV.int IntKind.i64 (IntKind.wrap IntKind.i64 (i + (1 : Int)))), (28, AV.int IntKind.i64 (IntKind.wrap IntKind.i64 (i + (1 : Int)))),
        (27, AV.tup []), (26, AV.str { data := List.toArray (Prod.fst (List.getD root (Int.toNat i) ([], []))) }), (25, AV.ptr 8 0),
        (24, AV.fn (40 : FuncId) [AV.ptr 3 0, AV.ptr 4 0, AV.ptr 5 0]), (10, AV.ptr 8 0),
        (23,
        AV.agg
        [AV.str { data := List.toArray (Prod.fst (List.getD root (Int.toNat i) ([], []))) },
        AV.sl 2 (Seq.map T.encS ((0 : Int), (0 : Int)) (Prod.snd (List.getD root (Int.toNat i) ([], [])))) Tip.none]),
        (22,
        AV.iptr
        [AV.str { data := List.toArray (Prod.fst (List.getD root (Int.toNat i) ([], []))) },
        AV.sl 2 (Seq.map T.encS ((0 : Int), (0 : Int)) (Prod.snd (List.getD root (Int.toNat i) ([], [])))) Tip.none]
        0),
        (21, AV.bool (decide (i < n))), (0, x), (6, AV.ptr 4 0), (7, AV.ptr 5 0),
        (8, AV.fn (40 : FuncId) [AV.ptr 3 0, AV.ptr 4 0, AV.ptr 5 0]),
        (18, AV.sl 2 (Seq.map T.encN ([], []) root) Tip.none), (19, AV.int IntKind.i64 n), (20, AV.int IntKind.i64 i)]
        0),
        (6, AV.ptr 4 0), (7, AV.ptr 5 0),
        (8, AV.fn (40 : FuncId) [AV.ptr 3 0, AV.ptr 4 0, AV.ptr 5 0]),
        (18, AV.sl 2 (Seq.map T.encN ([], []) root) Tip.none), (19, AV.int IntKind.i64 n),
        (20, AV.int IntKind.i64 (IntKind.wrap IntKind.i64 (i + (1 : Int))))]
        [AObj.mp (MM.typed T.EK es), AObj.cells [AV.map 0], AObj.mp (MM.typed T.EB (T.seenM o)), AObj.cells [AV.map 2],
        AObj.cells [AV.sl 1 (Seq.map T.encL [] t) (Tip.tok 6)], AObj.cells [AV.msl 1 7 0 (List.length o)], AObj.tok,
        AObj.arr 1 (Seq.map T.encL [] o),
        AObj.cells
        [AV.str { data := List.toArray (Prod.fst (List.getD root (Int.toNat i) ([], []))) },
        AV.sl 2 (Seq.map T.encS ((0 : Int), (0 : Int)) (Prod.snd (List.getD root (Int.toNat i) ([], [])))) Tip.none]]
        (q16_2 n_1 Post)) ∨
        ∃ (x_1 : List (List UInt8) × List (List UInt8)),
        r = AV.tup [] ∧
        H' =
        [AObj.mp (MM.typed T.EK es), AObj.cells [AV.map 0], AObj.mp (MM.typed T.EB (T.seenM (Prod.snd x_1))), AObj.cells [AV.map 2],
        AObj.cells [AV.sl 1 (Seq.map T.encL [] (Prod.fst x_1)) (Tip.tok 9)], AObj.cells [AV.msl 1 10 0 (List.length (Prod.snd x_1))], AObj.gone,
        AObj.gone,
        AObj.cells
        [AV.str { data := List.toArray (Prod.fst (List.getD root (Int.toNat i) ([], []))) },
        AV.sl 2 (Seq.map T.encS ((0 : Int), (0 : Int)) (Prod.snd (List.getD root (Int.toNat i) ([], [])))) Tip.none],
        AObj.tok, AObj.arr 1 (Seq.map T.encL [] (Prod.snd x_1))] ∧
        AWP Try.prog 61 n_1 c16_5
        [(0,
        Ab.get
        [(20, AV.int IntKind.i64 (IntKind.wrap IntKind.i64 (i + (1 : Int)))), (28, AV.int IntKind.i64 (IntKind.wrap IntKind.i64 (i + (1 : Int)))),
        (27, AV.tup []), (26, AV.str { data := List.toArray (Prod.fst (List.getD root (Int.toNat i) ([], []))) }), (25, AV.ptr 8 0),
        (24, AV.fn (40 : FuncId) [AV.ptr 3 0, AV.ptr 4 0, AV.ptr 5 0]), (10, AV.ptr 8 0),
        (23,
        AV.agg
        [AV.str { data := List.toArray (Prod.fst (List.getD root (Int.toNat i) ([], []))) },
        AV.sl 2 (Seq.map T.encS ((0 : Int), (0 : Int)) (Prod.snd (List.getD root (Int.toNat i) ([], [])))) Tip.none]),
        (22,
        AV.iptr
        [AV.str { data := List.toArray (Prod.fst (List.getD root (Int.toNat i) ([], []))) },
        AV.sl 2 (Seq.map T.encS ((0 : Int), (0 : Int)) (Prod.snd (List.getD root (Int.toNat i) ([], [])))) Tip.none]
        0),
        (21, AV.bool (decide (i < n))), (0, x), (6, AV.ptr 4 0), (7, AV.ptr 5 0),
        (8, AV.fn (40 : FuncId) [AV.ptr 3 0, AV.ptr 4 0, AV.ptr 5 0]),
        (18, AV.sl 2 (Seq.map T.encN ([], []) root) Tip.none), (19, AV.int IntKind.i64 n), (20, AV.int IntKind.i64 i)]
        0),
        (6, AV.ptr 4 0), (7, AV.ptr 5 0),
        (8, AV.fn (40 : FuncId) [AV.ptr 3 0, AV.ptr 4 0, AV.ptr 5 0]),
        (18, AV.sl 2 (Seq.map T.encN ([], []) root) Tip.none), (19, AV.int IntKind.i64 n),
        (20, AV.int IntKind.i64 (IntKind.wrap IntKind.i64 (i + (1 : Int))))]
        [AObj.mp (MM.typed T.EK es), AObj.cells [AV.map 0], AObj.mp (MM.typed T.EB (T.seenM (Prod.snd x_1))), AObj.cells [AV.map 2],
        AObj.cells [AV.sl 1 (Seq.map T.encL [] (Prod.fst x_1)) (Tip.tok 9)], AObj.cells [AV.msl 1 10 0 (List.length (Prod.snd x_1))], AObj.gone,
        AObj.gone,
        AObj.cells
        [AV.str { data := List.toArray (Prod.fst (List.getD root (Int.toNat i) ([], []))) },
        AV.sl 2 (Seq.map T.encS ((0 : Int), (0 : Int)) (Prod.snd (List.getD root (Int.toNat i) ([], [])))) Tip.none],
        AObj.tok, AObj.arr 1 (Seq.map T.encL [] (Prod.snd x_1))]
        (q16_2 n_1 Post)))
      (AWP Try.prog 61 n_1 c16_9
        [(0,
        Ab.get
        [(21, AV.bool (decide (i < n))), (0, x), (6, AV.ptr 4 0), (7, AV.ptr 5 0),
        (8, AV.fn (40 : FuncId) [AV.ptr 3 0, AV.ptr 4 0, AV.ptr 5 0]),
        (18, AV.sl 2 (Seq.map T.encN ([], []) root) Tip.none), (19, AV.int IntKind.i64 n), (20, AV.int IntKind.i64 i)]
        0),
        (6, AV.ptr 4 0), (7, AV.ptr 5 0),
        (8, AV.fn (40 : FuncId) [AV.ptr 3 0, AV.ptr 4 0, AV.ptr 5 0])]
        [AObj.mp (MM.typed T.EK es), AObj.cells [AV.map 0], AObj.mp (MM.typed T.EB (T.seenM o)), AObj.cells [AV.map 2],
        AObj.cells [AV.sl 1 (Seq.map T.encL [] t) (Tip.tok 6)], AObj.cells [AV.msl 1 7 0 (List.length o)], AObj.tok, AObj.arr 1 (Seq.map T.encL [] o)]
        (q16_4 n_1 Post)) →
    AWP Try.prog 61 n_1 c16_5
      [(0, x), (6, AV.ptr 4 0), (7, AV.ptr 5 0),
        (8, AV.fn (40 : FuncId) [AV.ptr 3 0, AV.ptr 4 0, AV.ptr 5 0]), (18, AV.sl 2 (Seq.map T.encN ([], []) root) Tip.none),
        (19, AV.int IntKind.i64 n), (20, AV.int IntKind.i64 i)]
      [AObj.mp (MM.typed T.EK es), AObj.cells [AV.map 0], AObj.mp (MM.typed T.EB (T.seenM o)), AObj.cells [AV.map 2],
        AObj.cells [AV.sl 1 (Seq.map T.encL [] t) (Tip.tok 6)], AObj.cells [AV.msl 1 7 0 (List.length o)], AObj.tok, AObj.arr 1 (Seq.map T.encL [] o)]
      (q16_2 n_1 Post) := fun x es root t o n i n Post h => Go.Ab.AWP.loop' g16 (Cfg.live g16) c16_5 (by kernel_rfl) (by kernel_rfl) (Go.Ab.kc (by kernel_rfl) h)
noncomputable def q16_5 : Nat → (AV → List AObj → Prop) → AQ := fun (n : Nat) (Post : AV → List AObj → Prop) => loopQ Try.prog 61 n c16_9 (q16_4 n Post) (Cfg.live g16)
theorem v16_9a : ∀ (x : AV) (es : T.Kn) (n : Nat) (Post : AV → List AObj → Prop),
  (ASpec Try.prog 43 [AV.sl 0 (Seq.raw []) Tip.nil]
      [AObj.mp (MM.typed T.EK es), AObj.cells [AV.map 0], AObj.mp (MM.typed T.EB []), AObj.cells [AV.map 2], AObj.cells [AV.sl 1 (Seq.map T.encL [] []) (Tip.tok 6)],
        AObj.cells [AV.sl 0 (Seq.raw []) Tip.nil], AObj.tok]
      fun (r : AV) (H' : List AObj) =>
      (∃ (x : Unit),
        r = AV.tup [] ∧
        H' =
        [AObj.mp (MM.typed T.EK es), AObj.cells [AV.map 0], AObj.mp (MM.typed T.EB []), AObj.cells [AV.map 2],
        AObj.cells [AV.sl 1 (Seq.map T.encL [] []) (Tip.tok 6)], AObj.cells [AV.sl 0 (Seq.raw []) Tip.nil], AObj.tok] ∧
        Post (AV.sl 0 (Seq.raw []) Tip.nil)
        [AObj.mp (MM.typed T.EK es), AObj.cells [AV.map 0], AObj.mp (MM.typed T.EB []), AObj.cells [AV.map 2],
        AObj.cells [AV.sl 1 (Seq.map T.encL [] []) (Tip.tok 6)], AObj.cells [AV.sl 0 (Seq.raw []) Tip.nil], AObj.tok]) ∨
        ∃ (x : List (List UInt8)),
        r = AV.tup [] ∧
        H' =
        [AObj.mp (MM.typed T.EK es), AObj.cells [AV.map 0], AObj.mp (MM.typed T.EB []), AObj.cells [AV.map 2],
        AObj.cells [AV.sl 1 (Seq.map T.encL [] []) (Tip.tok 6)], AObj.cells [AV.sl 0 (Seq.raw []) Tip.nil], AObj.tok] ∧
        Post (AV.sl 0 (Seq.raw []) Tip.nil)
        [AObj.mp (MM.typed T.EK es), AObj.cells [AV.map 0], AObj.mp (MM.typed T.EB []), AObj.cells [AV.map 2],
        AObj.cells [AV.sl 1 (Seq.map T.encL [] []) (Tip.tok 6)], AObj.cells [AV.sl 0 (Seq.raw []) Tip.nil], AObj.tok]) →
    AWP Try.prog 61 n c16_9
      [(0, x), (6, AV.ptr 4 0), (7, AV.ptr 5 0),
        (8, AV.fn (40 : FuncId) [AV.ptr 3 0, AV.ptr 4 0, AV.ptr 5 0])]
      [AObj.mp (MM.typed T.EK es), AObj.cells [AV.map 0], AObj.mp (MM.typed T.EB []), AObj.cells [AV.map 2], AObj.cells [AV.sl 1 (Seq.map T.encL [] []) (Tip.tok 6)],
        AObj.cells [AV.sl 0 (Seq.raw []) Tip.nil], AObj.tok]
      (q16_4 n Post) := fun x es n Post h => Go.Ab.AWP.loop' g16 (Cfg.live g16) c16_9 (by kernel_rfl) (by kernel_rfl) (Go.Ab.kc (by kernel_rfl) h)
noncomputable def q16_6 : Nat → (AV → List AObj → Prop) → AQ := fun (n : Nat) (Post : AV → List AObj → Prop) => blockQ 3 (q16_5 n Post)
noncomputable def q16_7 : Nat → (AV → List AObj → Prop) → AQ := fun (n : Nat) (Post : AV → List AObj → Prop) => blockQ 4 (q16_6 n Post)
noncomputable def c16_14 : Go.Code := codeFst (codeSnd (codeSnd (codeSnd (codeSnd (codeFst (codeSnd (codeFst c16_9)))))))
theorem v16_9b : ∀ (x : AV) (es : T.Kn) (t o : List (List UInt8)) (n : Nat) (Post : AV → List AObj → Prop),
  condP (decide ((↑(List.length t) : Int) > (0 : Int)))
      (needP ((0 : Int) ≤ (0 : Int) ∧ (0 : Int) < (↑(List.length t) : Int))
        (needP ((0 : Int) ≤ (1 : Int) ∧ (1 : Int) ≤ (↑(List.length t) : Int) ∧ (↑(List.length t) : Int) ≤ (↑(List.length t) : Int) ∧ (↑(List.length t) : Int) = (↑(List.length t) : Int))
        (ASpec Try.prog 41
        [ev
        [(43, AV.str { data := List.toArray (List.getD t 0 []) }),
        (42,
        ev
        [(40, AV.sl 1 (Seq.map T.encL [] (List.drop 1 (List.take (List.length t) t))) Tip.full), (39, AV.int IntKind.i64 (↑(List.length t) : Int)),
        (38, AV.sl 1 (Seq.map T.encL [] t) (Tip.tok 6)), (37, AV.int IntKind.i64 (↑(List.length t) : Int)),
        (36, AV.sl 1 (Seq.map T.encL [] t) (Tip.tok 6)), (35, AV.sl 1 (Seq.map T.encL [] t) (Tip.tok 6)),
        (11, AV.str { data := List.toArray (List.getD t 0 []) }), (34, AV.str { data := List.toArray (List.getD t 0 []) }),
        (33, AV.iptr [AV.str { data := List.toArray (List.getD t 0 []) }] 0), (32, AV.sl 1 (Seq.map T.encL [] t) (Tip.tok 6)),
        (31, AV.bool (decide ((↑(List.length t) : Int) > (0 : Int)))), (30, AV.int IntKind.i64 (↑(List.length t) : Int)),
        (29, AV.sl 1 (Seq.map T.encL [] t) (Tip.tok 6)), (0, x), (6, AV.ptr 4 0), (7, AV.ptr 5 0),
        (8, AV.fn (40 : FuncId) [AV.ptr 3 0, AV.ptr 4 0, AV.ptr 5 0])]
        (Operand.tmp 0)),
        (40, AV.sl 1 (Seq.map T.encL [] (List.drop 1 (List.take (List.length t) t))) Tip.full), (39, AV.int IntKind.i64 (↑(List.length t) : Int)),
        (38, AV.sl 1 (Seq.map T.encL [] t) (Tip.tok 6)), (37, AV.int IntKind.i64 (↑(List.length t) : Int)),
        (36, AV.sl 1 (Seq.map T.encL [] t) (Tip.tok 6)), (35, AV.sl 1 (Seq.map T.encL [] t) (Tip.tok 6)),
        (11, AV.str { data := List.toArray (List.getD t 0 []) }), (34, AV.str { data := List.toArray (List.getD t 0 []) }),
        (33, AV.iptr [AV.str { data := List.toArray (List.getD t 0 []) }] 0), (32, AV.sl 1 (Seq.map T.encL [] t) (Tip.tok 6)),
        (31, AV.bool (decide ((↑(List.length t) : Int) > (0 : Int)))), (30, AV.int IntKind.i64 (↑(List.length t) : Int)),
        (29, AV.sl 1 (Seq.map T.encL [] t) (Tip.tok 6)), (0, x), (6, AV.ptr 4 0), (7, AV.ptr 5 0),
        (8, AV.fn (40 : FuncId) [AV.ptr 3 0, AV.ptr 4 0, AV.ptr 5 0])]
        (Operand.tmp 42),
        AV.str { data := List.toArray (List.getD t 0 []) }]
        [AObj.mp (MM.typed T.EK es), AObj.cells [AV.map 0], AObj.mp (MM.typed T.EB (T.seenM o)), AObj.cells [AV.map 2],
        AObj.cells [AV.sl 1 (Seq.map T.encL [] (List.drop 1 (List.take (List.length t) t))) Tip.full], AObj.cells [AV.msl 1 7 0 (List.length o)],
        AObj.tok, AObj.arr 1 (Seq.map T.encL [] o)]
        fun (r : AV) (H' : List AObj) =>
        ∃ (x_1 : T.Mani × Bool),
        r =
        AV.tup
        [AV.agg [AV.str { data := List.toArray (Prod.fst (Prod.fst x_1)) }, AV.sl 2 (Seq.map T.encR ((0 : Int), []) (Prod.snd (Prod.fst x_1))) Tip.none], AV.bool (Prod.snd x_1)] ∧
        H' =
        [AObj.mp (MM.typed T.EK es), AObj.cells [AV.map 0], AObj.mp (MM.typed T.EB (T.seenM o)), AObj.cells [AV.map 2],
        AObj.cells [AV.sl 1 (Seq.map T.encL [] (List.drop 1 (List.take (List.length t) t))) Tip.full], AObj.cells [AV.msl 1 7 0 (List.length o)],
        AObj.tok, AObj.arr 1 (Seq.map T.encL [] o)] ∧
        ASpec Try.prog 42 [AV.agg [AV.str { data := List.toArray (Prod.fst (Prod.fst x_1)) }, AV.sl 2 (Seq.map T.encR ((0 : Int), []) (Prod.snd (Prod.fst x_1))) Tip.none]]
        [AObj.mp (MM.typed T.EK es), AObj.cells [AV.map 0], AObj.mp (MM.typed T.EB (T.seenM o)), AObj.cells [AV.map 2],
        AObj.cells [AV.sl 1 (Seq.map T.encL [] (List.drop 1 (List.take (List.length t) t))) Tip.full], AObj.cells [AV.msl 1 7 0 (List.length o)],
        AObj.tok, AObj.arr 1 (Seq.map T.encL [] o),
        AObj.cells [AV.str { data := List.toArray (Prod.fst (Prod.fst x_1)) }, AV.sl 2 (Seq.map T.encR ((0 : Int), []) (Prod.snd (Prod.fst x_1))) Tip.none]]
        fun (r : AV) (H' : List AObj) =>
        ∃ (x_2 : List (List UInt8)),
        r = AV.sl 1 (Seq.map T.encL [] x_2) Tip.none ∧
        H' =
        [AObj.mp (MM.typed T.EK es), AObj.cells [AV.map 0], AObj.mp (MM.typed T.EB (T.seenM o)), AObj.cells [AV.map 2],
        AObj.cells [AV.sl 1 (Seq.map T.encL [] (List.drop 1 (List.take (List.length t) t))) Tip.full],
        AObj.cells [AV.msl 1 7 0 (List.length o)], AObj.tok, AObj.arr 1 (Seq.map T.encL [] o),
        AObj.cells [AV.str { data := List.toArray (Prod.fst (Prod.fst x_1)) }, AV.sl 2 (Seq.map T.encR ((0 : Int), []) (Prod.snd (Prod.fst x_1))) Tip.none]] ∧
        AWP Try.prog 61 n c16_14
        [(0,
        Ab.get
        [(50, AV.int IntKind.i64 (0 : Int)), (49, AV.int IntKind.i64 (↑(List.length x_2) : Int)),
        (48, AV.sl 1 (Seq.map T.encL [] x_2) Tip.none),
        (47,
        AV.agg [AV.str { data := List.toArray (Prod.fst (Prod.fst x_1)) }, AV.sl 2 (Seq.map T.encR ((0 : Int), []) (Prod.snd (Prod.fst x_1))) Tip.none]),
        (13, AV.bool (Prod.snd x_1)), (12, AV.ptr 8 0), (46, AV.bool (Prod.snd x_1)),
        (45,
        AV.agg [AV.str { data := List.toArray (Prod.fst (Prod.fst x_1)) }, AV.sl 2 (Seq.map T.encR ((0 : Int), []) (Prod.snd (Prod.fst x_1))) Tip.none]),
        (41,
        AV.tup
        [AV.agg [AV.str { data := List.toArray (Prod.fst (Prod.fst x_1)) }, AV.sl 2 (Seq.map T.encR ((0 : Int), []) (Prod.snd (Prod.fst x_1))) Tip.none],
        AV.bool (Prod.snd x_1)]),
        (44,
        AV.tup
        [AV.agg [AV.str { data := List.toArray (Prod.fst (Prod.fst x_1)) }, AV.sl 2 (Seq.map T.encR ((0 : Int), []) (Prod.snd (Prod.fst x_1))) Tip.none],
        AV.bool (Prod.snd x_1)]),
        (43, AV.str { data := List.toArray (List.getD t 0 []) }),
        (42,
        ev
        [(40, AV.sl 1 (Seq.map T.encL [] (List.drop 1 (List.take (List.length t) t))) Tip.full),
        (39, AV.int IntKind.i64 (↑(List.length t) : Int)), (38, AV.sl 1 (Seq.map T.encL [] t) (Tip.tok 6)),
        (37, AV.int IntKind.i64 (↑(List.length t) : Int)), (36, AV.sl 1 (Seq.map T.encL [] t) (Tip.tok 6)),
        (35, AV.sl 1 (Seq.map T.encL [] t) (Tip.tok 6)), (11, AV.str { data := List.toArray (List.getD t 0 []) }),
        (34, AV.str { data := List.toArray (List.getD t 0 []) }),
        (33, AV.iptr [AV.str { data := List.toArray (List.getD t 0 []) }] 0),
        (32, AV.sl 1 (Seq.map T.encL [] t) (Tip.tok 6)), (31, AV.bool (decide ((↑(List.length t) : Int) > (0 : Int)))),
        (30, AV.int IntKind.i64 (↑(List.length t) : Int)), (29, AV.sl 1 (Seq.map T.encL [] t) (Tip.tok 6)), (0, x),
        (6, AV.ptr 4 0), (7, AV.ptr 5 0),
        (8, AV.fn (40 : FuncId) [AV.ptr 3 0, AV.ptr 4 0, AV.ptr 5 0])]
        (Operand.tmp 0)),
        (40, AV.sl 1 (Seq.map T.encL [] (List.drop 1 (List.take (List.length t) t))) Tip.full),
        (39, AV.int IntKind.i64 (↑(List.length t) : Int)), (38, AV.sl 1 (Seq.map T.encL [] t) (Tip.tok 6)),
        (37, AV.int IntKind.i64 (↑(List.length t) : Int)), (36, AV.sl 1 (Seq.map T.encL [] t) (Tip.tok 6)),
        (35, AV.sl 1 (Seq.map T.encL [] t) (Tip.tok 6)), (11, AV.str { data := List.toArray (List.getD t 0 []) }),
        (34, AV.str { data := List.toArray (List.getD t 0 []) }),
        (33, AV.iptr [AV.str { data := List.toArray (List.getD t 0 []) }] 0),
        (32, AV.sl 1 (Seq.map T.encL [] t) (Tip.tok 6)), (31, AV.bool (decide ((↑(List.length t) : Int) > (0 : Int)))),
        (30, AV.int IntKind.i64 (↑(List.length t) : Int)), (29, AV.sl 1 (Seq.map T.encL [] t) (Tip.tok 6)), (0, x),
        (6, AV.ptr 4 0), (7, AV.ptr 5 0),
        (8, AV.fn (40 : FuncId) [AV.ptr 3 0, AV.ptr 4 0, AV.ptr 5 0])]
        0),
        (6, AV.ptr 4 0), (7, AV.ptr 5 0),
        (8, AV.fn (40 : FuncId) [AV.ptr 3 0, AV.ptr 4 0, AV.ptr 5 0]),
        (48, AV.sl 1 (Seq.map T.encL [] x_2) Tip.none), (49, AV.int IntKind.i64 (↑(List.length x_2) : Int)), (50, AV.int IntKind.i64 (0 : Int))]
        [AObj.mp (MM.typed T.EK es), AObj.cells [AV.map 0], AObj.mp (MM.typed T.EB (T.seenM o)), AObj.cells [AV.map 2],
        AObj.cells [AV.sl 1 (Seq.map T.encL [] (List.drop 1 (List.take (List.length t) t))) Tip.full],
        AObj.cells [AV.msl 1 7 0 (List.length o)], AObj.tok, AObj.arr 1 (Seq.map T.encL [] o),
        AObj.cells [AV.str { data := List.toArray (Prod.fst (Prod.fst x_1)) }, AV.sl 2 (Seq.map T.encR ((0 : Int), []) (Prod.snd (Prod.fst x_1))) Tip.none]]
        (q16_7 n Post))))
      (ASpec Try.prog 43 [AV.msl 1 7 0 (List.length o)]
        [AObj.mp (MM.typed T.EK es), AObj.cells [AV.map 0], AObj.mp (MM.typed T.EB (T.seenM o)), AObj.cells [AV.map 2],
        AObj.cells [AV.sl 1 (Seq.map T.encL [] t) (Tip.tok 6)], AObj.cells [AV.msl 1 7 0 (List.length o)], AObj.tok, AObj.arr 1 (Seq.map T.encL [] o)]
        fun (r : AV) (H' : List AObj) =>
        (∃ (x : Unit),
        r = AV.tup [] ∧
        H' =
        [AObj.mp (MM.typed T.EK es), AObj.cells [AV.map 0], AObj.mp (MM.typed T.EB (T.seenM o)), AObj.cells [AV.map 2],
        AObj.cells [AV.sl 1 (Seq.map T.encL [] t) (Tip.tok 6)], AObj.cells [AV.msl 1 7 0 (List.length o)], AObj.tok,
        AObj.arr 1 (Seq.map T.encL [] o)] ∧
        Post (AV.msl 1 7 0 (List.length o))
        [AObj.mp (MM.typed T.EK es), AObj.cells [AV.map 0], AObj.mp (MM.typed T.EB (T.seenM o)), AObj.cells [AV.map 2],
        AObj.cells [AV.sl 1 (Seq.map T.encL [] t) (Tip.tok 6)], AObj.cells [AV.msl 1 7 0 (List.length o)], AObj.tok,
        AObj.arr 1 (Seq.map T.encL [] o)]) ∨
        ∃ (x : List (List UInt8)),
        r = AV.tup [] ∧
        H' =
        [AObj.mp (MM.typed T.EK es), AObj.cells [AV.map 0], AObj.mp (MM.typed T.EB (T.seenM o)), AObj.cells [AV.map 2],
        AObj.cells [AV.sl 1 (Seq.map T.encL [] t) (Tip.tok 6)], AObj.cells [AV.msl 1 7 0 (List.length o)], AObj.tok,
        AObj.arr 1 (Seq.map T.encL [] x)] ∧
        Post (AV.msl 1 7 0 (List.length o))
        [AObj.mp (MM.typed T.EK es), AObj.cells [AV.map 0], AObj.mp (MM.typed T.EB (T.seenM o)), AObj.cells [AV.map 2],
        AObj.cells [AV.sl 1 (Seq.map T.encL [] t) (Tip.tok 6)], AObj.cells [AV.msl 1 7 0 (List.length o)], AObj.tok,
        AObj.arr 1 (Seq.map T.encL [] x)]) →
    AWP Try.prog 61 n c16_9
      [(0, x), (6, AV.ptr 4 0), (7, AV.ptr 5 0),
        (8, AV.fn (40 : FuncId) [AV.ptr 3 0, AV.ptr 4 0, AV.ptr 5 0])]
      [AObj.mp (MM.typed T.EK es), AObj.cells [AV.map 0], AObj.mp (MM.typed T.EB (T.seenM o)), AObj.cells [AV.map 2],
        AObj.cells [AV.sl 1 (Seq.map T.encL [] t) (Tip.tok 6)], AObj.cells [AV.msl 1 7 0 (List.length o)], AObj.tok, AObj.arr 1 (Seq.map T.encL [] o)]
      (q16_4 n Post) := fun x es t o n Post h => Go.Ab.AWP.loop' g16 (Cfg.live g16) c16_9 (by kernel_rfl) (by kernel_rfl) (Go.Ab.kc (by kernel_rfl) h)
theorem v16_14b : ∀ (x : AV) (es : T.Kn) (t o s : List (List UInt8)) (n i : Int) (n_1 : Nat) (Post : AV → List AObj → Prop),
  condP (decide (i < n))
      (needP ((0 : Int) ≤ i ∧ i < (↑(List.length s) : Int))
        (ASpec Try.prog 40 [AV.str { data := List.toArray (List.getD s (Int.toNat i) []) }, AV.ptr 3 0, AV.ptr 4 0, AV.ptr 5 0]
        [AObj.mp (MM.typed T.EK es), AObj.cells [AV.map 0], AObj.mp (MM.typed T.EB (T.seenM o)), AObj.cells [AV.map 2],
        AObj.cells [AV.sl 1 (Seq.map T.encL [] t) (Tip.tok 6)], AObj.cells [AV.msl 1 7 0 (List.length o)], AObj.tok,
        AObj.arr 1 (Seq.map T.encL [] o)]
        fun (r : AV) (H' : List AObj) =>
        (∃ (x_1 : Unit),
        r = AV.tup [] ∧
        H' =
        [AObj.mp (MM.typed T.EK es), AObj.cells [AV.map 0], AObj.mp (MM.typed T.EB (T.seenM o)), AObj.cells [AV.map 2],
        AObj.cells [AV.sl 1 (Seq.map T.encL [] t) (Tip.tok 6)], AObj.cells [AV.msl 1 7 0 (List.length o)], AObj.tok,
        AObj.arr 1 (Seq.map T.encL [] o)] ∧
        AWP Try.prog 61 n_1 c16_14
        [(0,
        Ab.get
        [(50, AV.int IntKind.i64 (IntKind.wrap IntKind.i64 (i + (1 : Int)))), (57, AV.int IntKind.i64 (IntKind.wrap IntKind.i64 (i + (1 : Int)))),
        (56, AV.tup []), (55, AV.str { data := List.toArray (List.getD s (Int.toNat i) []) }),
        (54, AV.fn (40 : FuncId) [AV.ptr 3 0, AV.ptr 4 0, AV.ptr 5 0]),
        (15, AV.str { data := List.toArray (List.getD s (Int.toNat i) []) }), (53, AV.str { data := List.toArray (List.getD s (Int.toNat i) []) }),
        (52, AV.iptr [AV.str { data := List.toArray (List.getD s (Int.toNat i) []) }] 0), (51, AV.bool (decide (i < n))), (0, x),
        (6, AV.ptr 4 0), (7, AV.ptr 5 0),
        (8, AV.fn (40 : FuncId) [AV.ptr 3 0, AV.ptr 4 0, AV.ptr 5 0]),
        (48, AV.sl 1 (Seq.map T.encL [] s) Tip.none), (49, AV.int IntKind.i64 n), (50, AV.int IntKind.i64 i)]
        0),
        (6, AV.ptr 4 0), (7, AV.ptr 5 0),
        (8, AV.fn (40 : FuncId) [AV.ptr 3 0, AV.ptr 4 0, AV.ptr 5 0]),
        (48, AV.sl 1 (Seq.map T.encL [] s) Tip.none), (49, AV.int IntKind.i64 n), (50, AV.int IntKind.i64 (IntKind.wrap IntKind.i64 (i + (1 : Int))))]
        [AObj.mp (MM.typed T.EK es), AObj.cells [AV.map 0], AObj.mp (MM.typed T.EB (T.seenM o)), AObj.cells [AV.map 2],
        AObj.cells [AV.sl 1 (Seq.map T.encL [] t) (Tip.tok 6)], AObj.cells [AV.msl 1 7 0 (List.length o)], AObj.tok,
        AObj.arr 1 (Seq.map T.encL [] o)]
        (q16_7 n_1 Post)) ∨
        ∃ (x_1 : List (List UInt8) × List (List UInt8)),
        r = AV.tup [] ∧
        H' =
        [AObj.mp (MM.typed T.EK es), AObj.cells [AV.map 0], AObj.mp (MM.typed T.EB (T.seenM (Prod.snd x_1))), AObj.cells [AV.map 2],
        AObj.cells [AV.sl 1 (Seq.map T.encL [] (Prod.fst x_1)) (Tip.tok 8)], AObj.cells [AV.msl 1 9 0 (List.length (Prod.snd x_1))], AObj.gone,
        AObj.gone, AObj.tok, AObj.arr 1 (Seq.map T.encL [] (Prod.snd x_1))] ∧
        AWP Try.prog 61 n_1 c16_14
        [(0,
        Ab.get
        [(50, AV.int IntKind.i64 (IntKind.wrap IntKind.i64 (i + (1 : Int)))), (57, AV.int IntKind.i64 (IntKind.wrap IntKind.i64 (i + (1 : Int)))),
        (56, AV.tup []), (55, AV.str { data := List.toArray (List.getD s (Int.toNat i) []) }),
        (54, AV.fn (40 : FuncId) [AV.ptr 3 0, AV.ptr 4 0, AV.ptr 5 0]),
        (15, AV.str { data := List.toArray (List.getD s (Int.toNat i) []) }), (53, AV.str { data := List.toArray (List.getD s (Int.toNat i) []) }),
        (52, AV.iptr [AV.str { data := List.toArray (List.getD s (Int.toNat i) []) }] 0), (51, AV.bool (decide (i < n))), (0, x),
        (6, AV.ptr 4 0), (7, AV.ptr 5 0),
        (8, AV.fn (40 : FuncId) [AV.ptr 3 0, AV.ptr 4 0, AV.ptr 5 0]),
        (48, AV.sl 1 (Seq.map T.encL [] s) Tip.none), (49, AV.int IntKind.i64 n), (50, AV.int IntKind.i64 i)]
        0),
        (6, AV.ptr 4 0), (7, AV.ptr 5 0),
        (8, AV.fn (40 : FuncId) [AV.ptr 3 0, AV.ptr 4 0, AV.ptr 5 0]),
        (48, AV.sl 1 (Seq.map T.encL [] s) Tip.none), (49, AV.int IntKind.i64 n), (50, AV.int IntKind.i64 (IntKind.wrap IntKind.i64 (i + (1 : Int))))]
        [AObj.mp (MM.typed T.EK es), AObj.cells [AV.map 0], AObj.mp (MM.typed T.EB (T.seenM (Prod.snd x_1))), AObj.cells [AV.map 2],
        AObj.cells [AV.sl 1 (Seq.map T.encL [] (Prod.fst x_1)) (Tip.tok 8)], AObj.cells [AV.msl 1 9 0 (List.length (Prod.snd x_1))], AObj.gone,
        AObj.gone, AObj.tok, AObj.arr 1 (Seq.map T.encL [] (Prod.snd x_1))]
        (q16_7 n_1 Post)))
      (AWP Try.prog 61 n_1 c16_9
        [(0,
        Ab.get
        [(51, AV.bool (decide (i < n))), (0, x), (6, AV.ptr 4 0), (7, AV.ptr 5 0),
        (8, AV.fn (40 : FuncId) [AV.ptr 3 0, AV.ptr 4 0, AV.ptr 5 0]), (48, AV.sl 1 (Seq.map T.encL [] s) Tip.none),
        (49, AV.int IntKind.i64 n), (50, AV.int IntKind.i64 i)]
        0),
        (6, AV.ptr 4 0), (7, AV.ptr 5 0),
        (8, AV.fn (40 : FuncId) [AV.ptr 3 0, AV.ptr 4 0, AV.ptr 5 0])]
        [AObj.mp (MM.typed T.EK es), AObj.cells [AV.map 0], AObj.mp (MM.typed T.EB (T.seenM o)), AObj.cells [AV.map 2],
        AObj.cells [AV.sl 1 (Seq.map T.encL [] t) (Tip.tok 6)], AObj.cells [AV.msl 1 7 0 (List.length o)], AObj.tok, AObj.arr 1 (Seq.map T.encL [] o)]
        (q16_4 n_1 Post)) →
    AWP Try.prog 61 n_1 c16_14
      [(0, x), (6, AV.ptr 4 0), (7, AV.ptr 5 0),
        (8, AV.fn (40 : FuncId) [AV.ptr 3 0, AV.ptr 4 0, AV.ptr 5 0]), (48, AV.sl 1 (Seq.map T.encL [] s) Tip.none),
        (49, AV.int IntKind.i64 n), (50, AV.int IntKind.i64 i)]
      [AObj.mp (MM.typed T.EK es), AObj.cells [AV.map 0], AObj.mp (MM.typed T.EB (T.seenM o)), AObj.cells [AV.map 2],
        AObj.cells [AV.sl 1 (Seq.map T.encL [] t) (Tip.tok 6)], AObj.cells [AV.msl 1 7 0 (List.length o)], AObj.tok, AObj.arr 1 (Seq.map T.encL [] o)]
      (q16_7 n_1 Post) := fun x es t o s n i n Post h => Go.Ab.AWP.loop' g16 (Cfg.live g16) c16_14 (by kernel_rfl) (by kernel_rfl) (Go.Ab.kc (by kernel_rfl) h)

-- 18
noncomputable def l18 : Nat → List Nat
  | _ => []
noncomputable def u18 : Nat → Bool
  | _ => false
noncomputable def m18 : Nat → Bool
  | _ => false
noncomputable def g18 : Cfg := { N := 11, live := l18, cut := u18, mu := m18, ret := rets }
theorem s18 : ∀ (x : AV) (es : T.Kn) (root : List T.Need) (Post : AV → List AObj → Prop),
  (ASpec Try.prog 16
      [ev
        [(6, AV.sl 2 (Seq.map T.encN ([], []) root) Tip.none),
        (5, ev [(4, AV.sl 0 (Seq.raw []) Tip.nil), (0, x), (1, AV.sl 2 (Seq.map T.encN ([], []) root) Tip.none)] (Operand.tmp 0)),
        (4, AV.sl 0 (Seq.raw []) Tip.nil), (0, x), (1, AV.sl 2 (Seq.map T.encN ([], []) root) Tip.none)]
        (Operand.tmp 5),
        AV.sl 2 (Seq.map T.encN ([], []) root) Tip.none]
      [AObj.mp (MM.typed T.EK es), AObj.cells [AV.map 0]] fun (r : AV) (H' : List AObj) =>
      (∃ (x_1 : Unit),
        r = AV.sl 0 (Seq.raw []) Tip.nil ∧
        H' = [AObj.mp (MM.typed T.EK es), AObj.cells [AV.map 0]] ∧
        ASpec Try.prog 46
        [AV.sl 0 (Seq.raw []) Tip.nil,
        AV.bfn 29
        [ev
        [(8,
        ev
        [(7, AV.sl 0 (Seq.raw []) Tip.nil), (6, AV.sl 2 (Seq.map T.encN ([], []) root) Tip.none),
        (5,
        ev [(4, AV.sl 0 (Seq.raw []) Tip.nil), (0, x), (1, AV.sl 2 (Seq.map T.encN ([], []) root) Tip.none)] (Operand.tmp 0)),
        (4, AV.sl 0 (Seq.raw []) Tip.nil), (0, x), (1, AV.sl 2 (Seq.map T.encN ([], []) root) Tip.none)]
        (Operand.tmp 0)),
        (7, AV.sl 0 (Seq.raw []) Tip.nil), (6, AV.sl 2 (Seq.map T.encN ([], []) root) Tip.none),
        (5,
        ev [(4, AV.sl 0 (Seq.raw []) Tip.nil), (0, x), (1, AV.sl 2 (Seq.map T.encN ([], []) root) Tip.none)] (Operand.tmp 0)),
        (4, AV.sl 0 (Seq.raw []) Tip.nil), (0, x), (1, AV.sl 2 (Seq.map T.encN ([], []) root) Tip.none)]
        (Operand.tmp 8)]]
        [AObj.mp (MM.typed T.EK es), AObj.cells [AV.map 0]] fun (r : AV) (H' : List AObj) =>
        ∃ (x : List (List UInt8)),
        r = AV.sl 1 (Seq.map T.encL [] x) Tip.none ∧
        H' = [AObj.mp (MM.typed T.EK es), AObj.cells [AV.map 0]] ∧
        Post (AV.sl 1 (Seq.map T.encL [] x) Tip.none) [AObj.mp (MM.typed T.EK es), AObj.cells [AV.map 0]]) ∨
        ∃ (x_1 : List (List UInt8)),
        r = AV.msl 1 2 0 (List.length x_1) ∧
        H' = [AObj.mp (MM.typed T.EK es), AObj.cells [AV.map 0], AObj.arr 1 (Seq.map T.encL [] x_1)] ∧
        ASpec Try.prog 46
        [AV.msl 1 2 0 (List.length x_1),
        AV.bfn 29
        [ev
        [(8,
        ev
        [(7, AV.msl 1 2 0 (List.length x_1)), (6, AV.sl 2 (Seq.map T.encN ([], []) root) Tip.none),
        (5,
        ev [(4, AV.sl 0 (Seq.raw []) Tip.nil), (0, x), (1, AV.sl 2 (Seq.map T.encN ([], []) root) Tip.none)] (Operand.tmp 0)),
        (4, AV.sl 0 (Seq.raw []) Tip.nil), (0, x), (1, AV.sl 2 (Seq.map T.encN ([], []) root) Tip.none)]
        (Operand.tmp 0)),
        (7, AV.msl 1 2 0 (List.length x_1)), (6, AV.sl 2 (Seq.map T.encN ([], []) root) Tip.none),
        (5,
        ev [(4, AV.sl 0 (Seq.raw []) Tip.nil), (0, x), (1, AV.sl 2 (Seq.map T.encN ([], []) root) Tip.none)] (Operand.tmp 0)),
        (4, AV.sl 0 (Seq.raw []) Tip.nil), (0, x), (1, AV.sl 2 (Seq.map T.encN ([], []) root) Tip.none)]
        (Operand.tmp 8)]]
        [AObj.mp (MM.typed T.EK es), AObj.cells [AV.map 0], AObj.arr 1 (Seq.map T.encL [] x_1)] fun (r : AV) (H' : List AObj) =>
        ∃ (x : List (List UInt8)),
        r = AV.sl 1 (Seq.map T.encL [] x) Tip.none ∧
        H' = [AObj.mp (MM.typed T.EK es), AObj.cells [AV.map 0], AObj.gone] ∧
        Post (AV.sl 1 (Seq.map T.encL [] x) Tip.none) [AObj.mp (MM.typed T.EK es), AObj.cells [AV.map 0], AObj.gone]) →
    ASpec Try.prog 18 [x, AV.sl 2 (Seq.map T.encN ([], []) root) Tip.none] (T.HX es) Post := fun x es root Post h => Go.Ab.ASpec.of_vc g18 Go.Proofs.Try.func18 (by kernel_rfl) (by kernel_rfl) (by kernel_rfl) (Go.Ab.kc (by kernel_rfl) h)

-- 62
noncomputable def l62 : Nat → List Nat
  | 2 => [0, 1, 7, 8]
  | _ => []
noncomputable def u62 : Nat → Bool
  | _ => false
noncomputable def m62 : Nat → Bool
  | _ => false
noncomputable def g62 : Cfg := { N := 19, live := l62, cut := u62, mu := m62, ret := rets }
noncomputable def c62 : Go.Code := Go.Ab.bodyOf Go.Proofs.Try.f62
noncomputable def q62_0 : Nat → (AV → List AObj → Prop) → AQ := fun (n : Nat) (Post : AV → List AObj → Prop) => endQ Try.prog (resultsOf Try.f62) Post
noncomputable def q62_1 : Nat → (AV → List AObj → Prop) → AQ := fun (n : Nat) (Post : AV → List AObj → Prop) => seqQ (fun (s' : Slots) (H' : List AObj) => awp Try.prog g62 n (codeSnd (codeSnd c62)) s' H' (q62_0 n Post)) (q62_0 n Post)
noncomputable def q62_2 : Nat → (AV → List AObj → Prop) → AQ := fun (n : Nat) (Post : AV → List AObj → Prop) => blockQ 0 (q62_1 n Post)
noncomputable def c62_2 : Go.Code := codeFst (codeSnd (codeFst (codeSnd c62)))
theorem s62m : ∀ (x : AV) (es : T.Kn) (s : List (List UInt8)) (Post : AV → List AObj → Prop),
  AWP Try.prog 19 3 c62_2
      [(0, AV.msl 1 2 0 (List.length s)), (1, AV.bfn (29 : FuncId) [x]), (7, AV.int IntKind.i64 (↑(List.length s) : Int)),
        (8, AV.int IntKind.i64 (0 : Int))]
      [AObj.mp (MM.typed T.EK es), AObj.cells [AV.map 0], AObj.arr 1 (Seq.map T.encL [] s)] (q62_2 3 Post) →
    ASpec Try.prog 62 [AV.msl 1 2 0 (List.length s), AV.bfn (29 : FuncId) [x]] (T.HX es ++ [AObj.arr 1 (Seq.map T.encL [] s)]) Post := fun x es s Post h => Go.Ab.ASpec.of_vc g62 Go.Proofs.Try.func62 (by kernel_rfl) (by kernel_rfl) (by kernel_rfl) (Go.Ab.kc (by kernel_rfl) h)
theorem s62v : ∀ (x : AV) (es : T.Kn) (Post : AV → List AObj → Prop),
  AWP Try.prog 19 2 c62_2
      [(0, AV.sl 0 (Seq.raw []) Tip.nil), (1, AV.bfn (29 : FuncId) [x]), (7, AV.int IntKind.i64 (0 : Int)), (8, AV.int IntKind.i64 (0 : Int))]
      [AObj.mp (MM.typed T.EK es), AObj.cells [AV.map 0]] (q62_2 2 Post) →
    ASpec Try.prog 62 [AV.sl 0 (Seq.raw []) Tip.nil, AV.bfn (29 : FuncId) [x]] (T.HX es) Post := fun x es Post h => Go.Ab.ASpec.of_vc g62 Go.Proofs.Try.func62 (by kernel_rfl) (by kernel_rfl) (by kernel_rfl) (Go.Ab.kc (by kernel_rfl) h)
theorem v62_2m : ∀ (x : AV) (es : T.Kn) (s : List (List UInt8)) (n i : Int) (n_1 : Nat) (Post : AV → List AObj → Prop),
  condP (decide (i < n))
      (needP ((0 : Int) ≤ i ∧ i < (↑(List.length s) : Int))
        (needP (0 + Int.toNat i < List.length s)
        (ASpec Try.prog 29 [x, AV.str { data := List.toArray (List.getD s (0 + Int.toNat i) []) }]
        [AObj.mp (MM.typed T.EK es), AObj.cells [AV.map 0], AObj.arr 1 (Seq.map T.encL [] s)] fun (r : AV) (H' : List AObj) =>
        ∃ (x_1 : Bool),
        r = AV.bool x_1 ∧
        H' = [AObj.mp (MM.typed T.EK es), AObj.cells [AV.map 0], AObj.arr 1 (Seq.map T.encL [] s)] ∧
        condP x_1 (Post (AV.int IntKind.i64 i) [AObj.mp (MM.typed T.EK es), AObj.cells [AV.map 0], AObj.arr 1 (Seq.map T.encL [] s)])
        (AWP Try.prog 19 n_1 c62_2
        [(0, AV.msl 1 2 0 (List.length s)), (1, AV.bfn (29 : FuncId) [x]), (7, AV.int IntKind.i64 n),
        (8, AV.int IntKind.i64 (IntKind.wrap IntKind.i64 (i + (1 : Int))))]
        [AObj.mp (MM.typed T.EK es), AObj.cells [AV.map 0], AObj.arr 1 (Seq.map T.encL [] s)] (q62_2 n_1 Post)))))
      (Post (AV.int IntKind.i64 (-1 : Int)) [AObj.mp (MM.typed T.EK es), AObj.cells [AV.map 0], AObj.arr 1 (Seq.map T.encL [] s)]) →
    AWP Try.prog 19 n_1 c62_2
      [(0, AV.msl 1 2 0 (List.length s)), (1, AV.bfn (29 : FuncId) [x]), (7, AV.int IntKind.i64 n), (8, AV.int IntKind.i64 i)]
      (T.HX es ++ [AObj.arr 1 (Seq.map T.encL [] s)]) (q62_2 n_1 Post) := fun x es s n i n Post h => Go.Ab.AWP.loop' g62 (Cfg.live g62) c62_2 (by kernel_rfl) (by kernel_rfl) (Go.Ab.kc (by kernel_rfl) h)
theorem v62_2v : ∀ (x : AV) (es : T.Kn) (n i : Int) (n_1 : Nat) (Post : AV → List AObj → Prop),
  condP (decide (i < n)) (needP ((0 : Int) ≤ i ∧ i < (0 : Int)) False) (Post (AV.int IntKind.i64 (-1 : Int)) [AObj.mp (MM.typed T.EK es), AObj.cells [AV.map 0]]) →
    AWP Try.prog 19 n_1 c62_2 [(0, AV.sl 0 (Seq.raw []) Tip.nil), (1, AV.bfn (29 : FuncId) [x]), (7, AV.int IntKind.i64 n), (8, AV.int IntKind.i64 i)]
      (T.HX es) (q62_2 n_1 Post) := fun x es n i n Post h => Go.Ab.AWP.loop' g62 (Cfg.live g62) c62_2 (by kernel_rfl) (by kernel_rfl) (Go.Ab.kc (by kernel_rfl) h)

-- 46
noncomputable def l46 : Nat → List Nat
  | 4 => [0, 1, 5]
  | 5 => [0, 1, 5, 6]
  | 11 => [0, 5]
  | _ => []
noncomputable def u46 : Nat → Bool
  | 4 => true
  | 11 => true
  | _ => false
noncomputable def m46 : Nat → Bool
  | 38 => true
  | _ => false
noncomputable def g46 : Cfg := { N := 42, live := l46, cut := u46, mu := m46, ret := rets }
noncomputable def c46 : Go.Code := Go.Ab.bodyOf Go.Proofs.Try.f46
noncomputable def q46_0 : Nat → (AV → List AObj → Prop) → AQ := fun (n : Nat) (Post : AV → List AObj → Prop) => endQ Try.prog (resultsOf Try.f46) Post
noncomputable def c46_4 : Go.Code := codeSnd (codeSnd (codeSnd c46))
theorem s46m : ∀ (x : AV) (es : T.Kn) (s : List (List UInt8)) (Post : AV → List AObj → Prop),
  (ASpec Try.prog 62 [AV.msl 1 2 0 (List.length s), AV.bfn (29 : FuncId) [x]]
      [AObj.mp (MM.typed T.EK es), AObj.cells [AV.map 0], AObj.arr 1 (Seq.map T.encL [] s)] fun (r : AV) (H' : List AObj) =>
      ∃ (x_1 : Int),
        r = AV.int IntKind.i64 x_1 ∧
        H' = [AObj.mp (MM.typed T.EK es), AObj.cells [AV.map 0], AObj.arr 1 (Seq.map T.encL [] s)] ∧
        condP (x_1 == (-1 : Int))
        (Post (AV.msl 1 2 0 (List.length s)) [AObj.mp (MM.typed T.EK es), AObj.cells [AV.map 0], AObj.arr 1 (Seq.map T.encL [] s)])
        (AWP Try.prog 42 3 c46_4 [(0, AV.msl 1 2 0 (List.length s)), (1, AV.bfn (29 : FuncId) [x]), (5, AV.int IntKind.i64 x_1)]
        [AObj.mp (MM.typed T.EK es), AObj.cells [AV.map 0], AObj.arr 1 (Seq.map T.encL [] s)] (q46_0 3 Post))) →
    ASpec Try.prog 46 [AV.msl 1 2 0 (List.length s), AV.bfn (29 : FuncId) [x]] (T.HX es ++ [AObj.arr 1 (Seq.map T.encL [] s)]) Post := fun x es s Post h => Go.Ab.ASpec.of_vc g46 Go.Proofs.Try.func46 (by kernel_rfl) (by kernel_rfl) (by kernel_rfl) (Go.Ab.kc (by kernel_rfl) h)
theorem s46v : ∀ (x : AV) (es : T.Kn) (Post : AV → List AObj → Prop),
  (ASpec Try.prog 62 [AV.sl 0 (Seq.raw []) Tip.nil, AV.bfn (29 : FuncId) [x]] [AObj.mp (MM.typed T.EK es), AObj.cells [AV.map 0]] fun (r : AV) (H' : List AObj) =>
      ∃ (x_1 : Int),
        r = AV.int IntKind.i64 x_1 ∧
        H' = [AObj.mp (MM.typed T.EK es), AObj.cells [AV.map 0]] ∧
        condP (x_1 == (-1 : Int)) (Post (AV.sl 0 (Seq.raw []) Tip.nil) [AObj.mp (MM.typed T.EK es), AObj.cells [AV.map 0]])
        (AWP Try.prog 42 2 c46_4 [(0, AV.sl 0 (Seq.raw []) Tip.nil), (1, AV.bfn (29 : FuncId) [x]), (5, AV.int IntKind.i64 x_1)]
        [AObj.mp (MM.typed T.EK es), AObj.cells [AV.map 0]] (q46_0 2 Post))) →
    ASpec Try.prog 46 [AV.sl 0 (Seq.raw []) Tip.nil, AV.bfn (29 : FuncId) [x]] (T.HX es) Post := fun x es Post h => Go.Ab.ASpec.of_vc g46 Go.Proofs.Try.func46 (by kernel_rfl) (by kernel_rfl) (by kernel_rfl) (Go.Ab.kc (by kernel_rfl) h)
noncomputable def c46_11 : Go.Code := codeSnd c46_4
noncomputable def q46_1 : Nat → (AV → List AObj → Prop) → AQ := fun (n : Nat) (Post : AV → List AObj → Prop) => seqQ (fun (s' : Slots) (H' : List AObj) => AWP Try.prog (Cfg.N g46) n c46_11 (restrict s' (Cfg.live g46 11)) H' (q46_0 n Post)) (q46_0 n Post)
noncomputable def q46_2 : Nat → (AV → List AObj → Prop) → AQ := fun (n : Nat) (Post : AV → List AObj → Prop) => blockQ 0 (q46_1 n Post)
noncomputable def c46_5 : Go.Code := codeFst (codeSnd (codeFst c46_4))
theorem v46_4 : ∀ (x : AV) (es : T.Kn) (s : List (List UInt8)) (i : Int) (n : Nat) (Post : AV → List AObj → Prop),
  AWP Try.prog 42 n c46_5
      [(0, AV.msl 1 2 0 (List.length s)), (1, AV.bfn (29 : FuncId) [x]), (5, AV.int IntKind.i64 i),
        (6, AV.int IntKind.i64 (IntKind.wrap IntKind.i64 (i + (1 : Int))))]
      [AObj.mp (MM.typed T.EK es), AObj.cells [AV.map 0], AObj.arr 1 (Seq.map T.encL [] s)] (q46_2 n Post) →
    AWP Try.prog 42 n c46_4 [(0, AV.msl 1 2 0 (List.length s)), (1, AV.bfn (29 : FuncId) [x]), (5, AV.int IntKind.i64 i)]
      (T.HX es ++ [AObj.arr 1 (Seq.map T.encL [] s)]) (q46_0 n Post) := fun x es s i n Post h => Go.Ab.awp_sound g46 n _ _ _ _ (Go.Ab.kc (by kernel_rfl) h)
theorem v46_5 : ∀ (x : AV) (es : T.Kn) (s : List (List UInt8)) (i j : Int) (n : Nat) (Post : AV → List AObj → Prop),
  condP (decide (j < (↑(List.length s) : Int)))
      (needP ((0 : Int) ≤ j ∧ j < (↑(List.length s) : Int))
        (needP (0 + Int.toNat j < List.length s)
        (ASpec Try.prog 29 [x, AV.str { data := List.toArray (List.getD s (0 + Int.toNat j) []) }]
        [AObj.mp (MM.typed T.EK es), AObj.cells [AV.map 0], AObj.arr 1 (Seq.map T.encL [] s)] fun (r : AV) (H' : List AObj) =>
        ∃ (x_1 : Bool),
        r = AV.bool x_1 ∧
        H' = [AObj.mp (MM.typed T.EK es), AObj.cells [AV.map 0], AObj.arr 1 (Seq.map T.encL [] s)] ∧
        condP (!x_1)
        (needP ((0 : Int) ≤ i ∧ i < (↑(List.length s) : Int))
        (needP (0 + Int.toNat i < List.length s)
        (AWP Try.prog 42 n c46_5
        [(0, AV.msl 1 2 0 (List.length s)), (1, AV.bfn (29 : FuncId) [x]),
        (5, AV.int IntKind.i64 (IntKind.wrap IntKind.i64 (i + (1 : Int)))), (6, AV.int IntKind.i64 (IntKind.wrap IntKind.i64 (j + (1 : Int))))]
        [AObj.mp (MM.typed T.EK es), AObj.cells [AV.map 0],
        AObj.arr 1
        (Seq.raw (List.set (Seq.toList (Seq.map T.encL [] s)) (0 + Int.toNat i) [AV.str { data := List.toArray (List.getD s (0 + Int.toNat j) []) }]))]
        (q46_2 n Post))))
        (AWP Try.prog 42 n c46_5
        [(0, AV.msl 1 2 0 (List.length s)), (1, AV.bfn (29 : FuncId) [x]), (5, AV.int IntKind.i64 i),
        (6, AV.int IntKind.i64 (IntKind.wrap IntKind.i64 (j + (1 : Int))))]
        [AObj.mp (MM.typed T.EK es), AObj.cells [AV.map 0], AObj.arr 1 (Seq.map T.encL [] s)] (q46_2 n Post)))))
      (AWP Try.prog 42 n c46_11 [(0, AV.msl 1 2 0 (List.length s)), (5, AV.int IntKind.i64 i)]
        [AObj.mp (MM.typed T.EK es), AObj.cells [AV.map 0], AObj.arr 1 (Seq.map T.encL [] s)] (q46_0 n Post)) →
    AWP Try.prog 42 n c46_5
      [(0, AV.msl 1 2 0 (List.length s)), (1, AV.bfn (29 : FuncId) [x]), (5, AV.int IntKind.i64 i), (6, AV.int IntKind.i64 j)]
      (T.HX es ++ [AObj.arr 1 (Seq.map T.encL [] s)]) (q46_2 n Post) := fun x es s i j n Post h => Go.Ab.AWP.loop' g46 (Cfg.live g46) c46_5 (by kernel_rfl) (by kernel_rfl) (Go.Ab.kc (by kernel_rfl) h)
theorem v46_11 : ∀ (x : AV) (es : T.Kn) (s : List (List UInt8)) (i : Int) (n : Nat) (Post : AV → List AObj → Prop),
  needP ((0 : Int) ≤ i ∧ i ≤ (↑(List.length s) : Int))
      (condP (decide (i < (↑(List.length s) : Int)))
        (needP (0 + Int.toNat i + (List.length s - Int.toNat i) ≤ List.length s)
        (needP ((0 : Int) ≤ i ∧ i ≤ (↑(List.length s) : Int))
        (Post (AV.msl 1 2 0 (Int.toNat i))
        [AObj.mp (MM.typed T.EK es), AObj.cells [AV.map 0],
        AObj.arr 1
        (copied (Seq.map T.encL [] s) (0 + Int.toNat i)
        (Seq.raw (List.replicate (List.length s - Int.toNat i) (List.map ofCell (Array.toList (Value.cells (Value.string { data := #[] })))))))])))
        False) →
    AWP Try.prog 42 n c46_11 [(0, AV.msl 1 2 0 (List.length s)), (5, AV.int IntKind.i64 i)] (T.HX es ++ [AObj.arr 1 (Seq.map T.encL [] s)])
      (q46_0 n Post) := fun x es s i n Post h => Go.Ab.awp_sound g46 n _ _ _ _ (Go.Ab.kc (by kernel_rfl) h)

-- 19
end
end Rc
end

section
/- Printed: what the code of functions 63, 56, 47, 109, 74, 55, 35 asks for, by the framework's own reading of it; each line is checked against the code. -/

set_option linter.unusedVariables false
set_option maxRecDepth 100000
set_option maxHeartbeats 4000000
open Go Go.Ab Go.Proofs
namespace S
noncomputable section

noncomputable def retS : List (Nat × Ret) := [
  (18032, ⟨Unit, fun _ _ _ => .bool true, fun _ H _ => H⟩),
  (18033, ⟨ByteArray × List UInt8 × Int, fun _ _ x => .tup [.str x.1, .sl 1 (.map encB 0 x.2.1) .none, .int .i64 x.2.2], fun _ H _ => H⟩),
  (9045, ⟨ByteArray × ByteArray × Int, fun _ _ x => .tup [.str x.1, .str x.2.1, .int .i64 x.2.2], fun _ H _ => H⟩),
  (9262, ⟨List UInt8, fun _ _ x => .sl 1 (.map encB 0 x) .none, fun _ H _ => H⟩),
  (9325, ⟨ByteArray, fun _ _ x => .str x, fun _ H _ => H⟩),
  (35, ⟨Bool, fun _ _ x => .bool x, fun _ H _ => H⟩),
  (18090, ⟨List UInt8 × Bool, fun _ _ x => .tup [.sl 1 (.map encB 0 x.1) .none, .bool x.2], fun _ H _ => H⟩),
  (47, ⟨Bool, fun _ _ x => .bool x, fun _ H _ => H⟩),
  (9170, ⟨ByteArray × Bool, fun _ _ x => .tup [.str x.1, .bool x.2], fun _ H _ => H⟩),
  (9323, ⟨List UInt8, fun _ _ x => .sl 1 (.map encB 0 x) .none, fun _ H _ => H⟩),
  (9263, ⟨ByteArray, fun _ _ x => .str x, fun _ H _ => H⟩),
  (55, ⟨List Int, fun _ _ x => .sl 1 (.map encI 0 x) .none, fun _ H _ => H⟩),
  (56, ⟨Int, fun _ _ x => .int .i64 x, fun _ H _ => H⟩),
  (9372, ⟨Int, fun _ _ x => .int .u32 x, fun _ H _ => H⟩),
  (63, ⟨Int, fun _ _ x => .int .i64 x, fun _ H _ => H⟩),
  (9324, ⟨Int, fun _ _ x => .int .i64 x, fun _ H _ => H⟩),
  (74, ⟨Int × Int, fun _ _ x => .tup [.int .i64 x.1, .int .i64 x.2], fun _ H _ => H⟩),
  (9393, ⟨Int, fun _ _ x => .int .u32 x, fun _ H _ => H⟩),
  (9373, ⟨Int, fun _ _ x => .int .i64 x, fun _ H _ => H⟩),
  (109, ⟨Int, fun _ _ x => .int .i64 x, fun _ H _ => H⟩)]
noncomputable def rets : FuncId → List Ret := lookupR (retS ++ V.retL)

-- 63
noncomputable def l63 : Nat → List Nat
  | _ => []
noncomputable def u63 : Nat → Bool
  | _ => false
noncomputable def m63 : Nat → Bool
  | _ => false
noncomputable def g63 : Cfg := { N := 27, live := l63, cut := u63, mu := m63, ret := rets }
theorem s63 : ∀ (c : Int) (Post : AV → List AObj → Prop),
  condP (decide (c ≥ (97 : Int)))
      (condP (decide (c ≤ (122 : Int))) (Post (AV.int IntKind.i64 (0 : Int)) [])
        (condP (decide (c ≥ (945 : Int)))
        (condP (decide (c ≤ (969 : Int))) (Post (AV.int IntKind.i64 (1 : Int)) [])
        (condP (decide (c ≥ (48 : Int)))
        (condP (decide (c ≤ (57 : Int))) (Post (AV.int IntKind.i64 (2 : Int)) []) (condP (c == (45 : Int)) (Post (AV.int IntKind.i64 (3 : Int)) []) (Post (AV.int IntKind.i64 (4 : Int)) [])))
        (condP (c == (45 : Int)) (Post (AV.int IntKind.i64 (3 : Int)) []) (Post (AV.int IntKind.i64 (4 : Int)) []))))
        (condP (decide (c ≥ (48 : Int)))
        (condP (decide (c ≤ (57 : Int))) (Post (AV.int IntKind.i64 (2 : Int)) []) (condP (c == (45 : Int)) (Post (AV.int IntKind.i64 (3 : Int)) []) (Post (AV.int IntKind.i64 (4 : Int)) [])))
        (condP (c == (45 : Int)) (Post (AV.int IntKind.i64 (3 : Int)) []) (Post (AV.int IntKind.i64 (4 : Int)) [])))))
      (condP (decide (c ≥ (945 : Int)))
        (condP (decide (c ≤ (969 : Int))) (Post (AV.int IntKind.i64 (1 : Int)) [])
        (condP (decide (c ≥ (48 : Int)))
        (condP (decide (c ≤ (57 : Int))) (Post (AV.int IntKind.i64 (2 : Int)) []) (condP (c == (45 : Int)) (Post (AV.int IntKind.i64 (3 : Int)) []) (Post (AV.int IntKind.i64 (4 : Int)) [])))
        (condP (c == (45 : Int)) (Post (AV.int IntKind.i64 (3 : Int)) []) (Post (AV.int IntKind.i64 (4 : Int)) []))))
        (condP (decide (c ≥ (48 : Int)))
        (condP (decide (c ≤ (57 : Int))) (Post (AV.int IntKind.i64 (2 : Int)) []) (condP (c == (45 : Int)) (Post (AV.int IntKind.i64 (3 : Int)) []) (Post (AV.int IntKind.i64 (4 : Int)) [])))
        (condP (c == (45 : Int)) (Post (AV.int IntKind.i64 (3 : Int)) []) (Post (AV.int IntKind.i64 (4 : Int)) [])))) →
    ASpec Try.prog 63 [AV.int IntKind.i32 c] [] Post := fun c Post h => Go.Ab.ASpec.of_vc g63 Go.Proofs.Try.func63 (by kernel_rfl) (by kernel_rfl) (by kernel_rfl) (Go.Ab.kc (by kernel_rfl) h)

-- 56
noncomputable def l56 : Nat → List Nat
  | _ => []
noncomputable def u56 : Nat → Bool
  | _ => false
noncomputable def m56 : Nat → Bool
  | _ => false
noncomputable def g56 : Cfg := { N := 23, live := l56, cut := u56, mu := m56, ret := rets }
theorem s56 : ∀ (c : Int) (Post : AV → List AObj → Prop),
  condP (decide (c ≥ (97 : Int)))
      (condP (decide (c ≤ (122 : Int))) (Post (AV.int IntKind.i64 (0 : Int)) [])
        (condP (decide (c ≥ (945 : Int)))
        (condP (decide (c ≤ (969 : Int))) (Post (AV.int IntKind.i64 (1 : Int)) [])
        (condP (decide (c ≥ (48 : Int)))
        (condP (decide (c ≤ (57 : Int))) (Post (AV.int IntKind.i64 (2 : Int)) []) (condP (c == (45 : Int)) (Post (AV.int IntKind.i64 (3 : Int)) []) (Post (AV.int IntKind.i64 (4 : Int)) [])))
        (condP (c == (45 : Int)) (Post (AV.int IntKind.i64 (3 : Int)) []) (Post (AV.int IntKind.i64 (4 : Int)) []))))
        (condP (decide (c ≥ (48 : Int)))
        (condP (decide (c ≤ (57 : Int))) (Post (AV.int IntKind.i64 (2 : Int)) []) (condP (c == (45 : Int)) (Post (AV.int IntKind.i64 (3 : Int)) []) (Post (AV.int IntKind.i64 (4 : Int)) [])))
        (condP (c == (45 : Int)) (Post (AV.int IntKind.i64 (3 : Int)) []) (Post (AV.int IntKind.i64 (4 : Int)) [])))))
      (condP (decide (c ≥ (945 : Int)))
        (condP (decide (c ≤ (969 : Int))) (Post (AV.int IntKind.i64 (1 : Int)) [])
        (condP (decide (c ≥ (48 : Int)))
        (condP (decide (c ≤ (57 : Int))) (Post (AV.int IntKind.i64 (2 : Int)) []) (condP (c == (45 : Int)) (Post (AV.int IntKind.i64 (3 : Int)) []) (Post (AV.int IntKind.i64 (4 : Int)) [])))
        (condP (c == (45 : Int)) (Post (AV.int IntKind.i64 (3 : Int)) []) (Post (AV.int IntKind.i64 (4 : Int)) []))))
        (condP (decide (c ≥ (48 : Int)))
        (condP (decide (c ≤ (57 : Int))) (Post (AV.int IntKind.i64 (2 : Int)) []) (condP (c == (45 : Int)) (Post (AV.int IntKind.i64 (3 : Int)) []) (Post (AV.int IntKind.i64 (4 : Int)) [])))
        (condP (c == (45 : Int)) (Post (AV.int IntKind.i64 (3 : Int)) []) (Post (AV.int IntKind.i64 (4 : Int)) [])))) →
    ASpec Try.prog 56 [AV.int IntKind.i64 c] [] Post := fun c Post h => Go.Ab.ASpec.of_vc g56 Go.Proofs.Try.func56 (by kernel_rfl) (by kernel_rfl) (by kernel_rfl) (Go.Ab.kc (by kernel_rfl) h)

-- 47
noncomputable def l47 : Nat → List Nat
  | 3 => [3, 8]
  | _ => []
noncomputable def u47 : Nat → Bool
  | _ => false
noncomputable def m47 : Nat → Bool
  | _ => false
noncomputable def g47 : Cfg := { N := 32, live := l47, cut := u47, mu := m47, ret := rets }
noncomputable def c47 : Go.Code := Go.Ab.bodyOf Go.Proofs.Try.f47
noncomputable def q47_0 : Nat → (AV → List AObj → Prop) → AQ := fun (n : Nat) (Post : AV → List AObj → Prop) => endQ Try.prog (resultsOf Try.f47) Post
noncomputable def q47_1 : Nat → (AV → List AObj → Prop) → AQ := fun (n : Nat) (Post : AV → List AObj → Prop) => seqQ (fun (s' : Slots) (H' : List AObj) => awp Try.prog g47 n (codeSnd (codeSnd (codeSnd c47))) s' H' (q47_0 n Post)) (q47_0 n Post)
noncomputable def q47_2 : Nat → (AV → List AObj → Prop) → AQ := fun (n : Nat) (Post : AV → List AObj → Prop) => blockQ 0 (q47_1 n Post)
noncomputable def c47_3 : Go.Code := codeFst (codeSnd (codeFst (codeSnd (codeSnd c47))))
theorem s47 : ∀ (s : ByteArray) (Post : AV → List AObj → Prop),
  AWP Try.prog 32 0 c47_3 [(3, AV.int IntKind.i64 (0 : Int)), (8, AV.ptr 0 0)] [AObj.siter s 0] (q47_2 0 Post) →
    ASpec Try.prog 47 [AV.str s] [] Post := fun s Post h => Go.Ab.ASpec.of_vc g47 Go.Proofs.Try.func47 (by kernel_rfl) (by kernel_rfl) (by kernel_rfl) (Go.Ab.kc (by kernel_rfl) h)
theorem v47_3 : ∀ (s : ByteArray) (pos : Nat) (n : Int) (n_1 : Nat) (Post : AV → List AObj → Prop),
  condP (decide (pos < ByteArray.size s))
      (ASpec Try.prog 63 [AV.int IntKind.i32 (↑(Prod.fst (Utf8.decode s pos)) : Int)] [AObj.siter s (pos + Prod.snd (Utf8.decode s pos))] fun (r : AV) (H' : List AObj) =>
        ∃ (x : Int),
        r = AV.int IntKind.i64 x ∧
        H' = [AObj.siter s (pos + Prod.snd (Utf8.decode s pos))] ∧
        condP (decide (x > (3 : Int))) (Post (AV.bool false) [AObj.siter s (pos + Prod.snd (Utf8.decode s pos))])
        (condP (n == (0 : Int))
        (condP (decide (x > (1 : Int))) (Post (AV.bool false) [AObj.siter s (pos + Prod.snd (Utf8.decode s pos))])
        (condP (n == (12 : Int)) (Post (AV.bool false) [AObj.siter s (pos + Prod.snd (Utf8.decode s pos))])
        (AWP Try.prog 32 n_1 c47_3 [(3, AV.int IntKind.i64 (IntKind.wrap IntKind.i64 (n + (1 : Int)))), (8, AV.ptr 0 0)]
        [AObj.siter s (pos + Prod.snd (Utf8.decode s pos))] (q47_2 n_1 Post))))
        (condP (n == (12 : Int)) (Post (AV.bool false) [AObj.siter s (pos + Prod.snd (Utf8.decode s pos))])
        (AWP Try.prog 32 n_1 c47_3 [(3, AV.int IntKind.i64 (IntKind.wrap IntKind.i64 (n + (1 : Int)))), (8, AV.ptr 0 0)]
        [AObj.siter s (pos + Prod.snd (Utf8.decode s pos))] (q47_2 n_1 Post)))))
      (Post (AV.bool (decide (n > (0 : Int)))) [AObj.siter s pos]) →
    AWP Try.prog 32 n_1 c47_3 [(3, AV.int IntKind.i64 n), (8, AV.ptr 0 0)] [AObj.siter s pos] (q47_2 n_1 Post) := fun s pos n n Post h => Go.Ab.AWP.loop' g47 (Cfg.live g47) c47_3 (by kernel_rfl) (by kernel_rfl) (Go.Ab.kc (by kernel_rfl) h)

-- 109
noncomputable def l109 : Nat → List Nat
  | 5 => [0, 1, 5, 6]
  | 7 => [0, 1, 5, 6]
  | 9 => [0, 1, 5, 6]
  | 11 => [0, 1, 5, 6]
  | 12 => [0, 1, 5, 6, 7]
  | 16 => [0, 1, 5, 6]
  | _ => []
noncomputable def u109 : Nat → Bool
  | 5 => true
  | 7 => true
  | 9 => true
  | 11 => true
  | 16 => true
  | _ => false
noncomputable def m109 : Nat → Bool
  | _ => false
noncomputable def g109 : Cfg := { N := 96, live := l109, cut := u109, mu := m109, ret := rets }
noncomputable def c109 : Go.Code := Go.Ab.bodyOf Go.Proofs.Try.f109
noncomputable def q109_0 : Nat → (AV → List AObj → Prop) → AQ := fun (n : Nat) (Post : AV → List AObj → Prop) => endQ Try.prog (resultsOf Try.f109) Post
noncomputable def c109_5 : Go.Code := codeSnd (codeSnd (codeSnd (codeSnd c109)))
theorem s109 : ∀ (s : ByteArray) (p : Int) (Post : AV → List AObj → Prop),
  needP ((0 : Int) ≤ p ∧ p < (↑(ByteArray.size s) : Int))
      (condP (decide (IntKind.wrap IntKind.i64 (↑(UInt8.toNat (List.getD (Array.toList (ByteArray.data s)) (Int.toNat p) (0 : UInt8))) : Int) ≥ (194 : Int)))
        (condP (decide (IntKind.wrap IntKind.i64 (↑(UInt8.toNat (List.getD (Array.toList (ByteArray.data s)) (Int.toNat p) (0 : UInt8))) : Int) ≤ (223 : Int)))
        (AWP Try.prog 96 0 c109_5
        [(0, AV.str s), (1, AV.int IntKind.i64 p), (5, AV.int IntKind.i64 (2 : Int)),
        (6, AV.int IntKind.i64 (IntKind.wrap IntKind.i64 (↑(UInt8.toNat (List.getD (Array.toList (ByteArray.data s)) (Int.toNat p) (0 : UInt8))) : Int)))]
        [] (q109_0 0 Post))
        (AWP Try.prog 96 0 c109_5
        [(0, AV.str s), (1, AV.int IntKind.i64 p), (5, AV.int IntKind.i64 (0 : Int)),
        (6, AV.int IntKind.i64 (IntKind.wrap IntKind.i64 (↑(UInt8.toNat (List.getD (Array.toList (ByteArray.data s)) (Int.toNat p) (0 : UInt8))) : Int)))]
        [] (q109_0 0 Post)))
        (AWP Try.prog 96 0 c109_5
        [(0, AV.str s), (1, AV.int IntKind.i64 p), (5, AV.int IntKind.i64 (0 : Int)),
        (6, AV.int IntKind.i64 (IntKind.wrap IntKind.i64 (↑(UInt8.toNat (List.getD (Array.toList (ByteArray.data s)) (Int.toNat p) (0 : UInt8))) : Int)))]
        [] (q109_0 0 Post))) →
    ASpec Try.prog 109 [AV.str s, AV.int IntKind.i64 p] [] Post := fun s p Post h => Go.Ab.ASpec.of_vc g109 Go.Proofs.Try.func109 (by kernel_rfl) (by kernel_rfl) (by kernel_rfl) (Go.Ab.kc (by kernel_rfl) h)
noncomputable def c109_7 : Go.Code := codeSnd c109_5
theorem v109_5 : ∀ (s : ByteArray) (p n c : Int) (n_1 : Nat) (Post : AV → List AObj → Prop),
  condP (decide (c ≥ (224 : Int)))
      (condP (decide (c ≤ (239 : Int)))
        (AWP Try.prog 96 n_1 c109_7 [(0, AV.str s), (1, AV.int IntKind.i64 p), (5, AV.int IntKind.i64 (3 : Int)), (6, AV.int IntKind.i64 c)] []
        (q109_0 n_1 Post))
        (AWP Try.prog 96 n_1 c109_7 [(0, AV.str s), (1, AV.int IntKind.i64 p), (5, AV.int IntKind.i64 n), (6, AV.int IntKind.i64 c)] [] (q109_0 n_1 Post)))
      (AWP Try.prog 96 n_1 c109_7 [(0, AV.str s), (1, AV.int IntKind.i64 p), (5, AV.int IntKind.i64 n), (6, AV.int IntKind.i64 c)] [] (q109_0 n_1 Post)) →
    AWP Try.prog 96 n_1 c109_5 [(0, AV.str s), (1, AV.int IntKind.i64 p), (5, AV.int IntKind.i64 n), (6, AV.int IntKind.i64 c)] [] (q109_0 n_1 Post) := fun s p n c n Post h => Go.Ab.awp_sound g109 n _ _ _ _ (Go.Ab.kc (by kernel_rfl) h)
noncomputable def c109_9 : Go.Code := codeSnd c109_7
theorem v109_7 : ∀ (s : ByteArray) (p n c : Int) (n_1 : Nat) (Post : AV → List AObj → Prop),
  condP (decide (c ≥ (240 : Int)))
      (condP (decide (c ≤ (244 : Int)))
        (AWP Try.prog 96 n_1 c109_9 [(0, AV.str s), (1, AV.int IntKind.i64 p), (5, AV.int IntKind.i64 (4 : Int)), (6, AV.int IntKind.i64 c)] []
        (q109_0 n_1 Post))
        (AWP Try.prog 96 n_1 c109_9 [(0, AV.str s), (1, AV.int IntKind.i64 p), (5, AV.int IntKind.i64 n), (6, AV.int IntKind.i64 c)] [] (q109_0 n_1 Post)))
      (AWP Try.prog 96 n_1 c109_9 [(0, AV.str s), (1, AV.int IntKind.i64 p), (5, AV.int IntKind.i64 n), (6, AV.int IntKind.i64 c)] [] (q109_0 n_1 Post)) →
    AWP Try.prog 96 n_1 c109_7 [(0, AV.str s), (1, AV.int IntKind.i64 p), (5, AV.int IntKind.i64 n), (6, AV.int IntKind.i64 c)] [] (q109_0 n_1 Post) := fun s p n c n Post h => Go.Ab.awp_sound g109 n _ _ _ _ (Go.Ab.kc (by kernel_rfl) h)
noncomputable def c109_11 : Go.Code := codeSnd c109_9
theorem v109_9 : ∀ (s : ByteArray) (p n c : Int) (n_1 : Nat) (Post : AV → List AObj → Prop),
  condP (n == (0 : Int)) (Post (AV.int IntKind.i64 (0 : Int)) [])
      (condP (decide (IntKind.wrap IntKind.i64 ((↑(ByteArray.size s) : Int) - p) < n)) (Post (AV.int IntKind.i64 (0 : Int)) [])
        (AWP Try.prog 96 n_1 c109_11 [(0, AV.str s), (1, AV.int IntKind.i64 p), (5, AV.int IntKind.i64 n), (6, AV.int IntKind.i64 c)] [] (q109_0 n_1 Post))) →
    AWP Try.prog 96 n_1 c109_9 [(0, AV.str s), (1, AV.int IntKind.i64 p), (5, AV.int IntKind.i64 n), (6, AV.int IntKind.i64 c)] [] (q109_0 n_1 Post) := fun s p n c n Post h => Go.Ab.awp_sound g109 n _ _ _ _ (Go.Ab.kc (by kernel_rfl) h)
noncomputable def c109_16 : Go.Code := codeSnd c109_11
noncomputable def q109_1 : Nat → (AV → List AObj → Prop) → AQ := fun (n : Nat) (Post : AV → List AObj → Prop) => seqQ (fun (s' : Slots) (H' : List AObj) => AWP Try.prog (Cfg.N g109) n c109_16 (restrict s' (Cfg.live g109 16)) H' (q109_0 n Post)) (q109_0 n Post)
noncomputable def q109_2 : Nat → (AV → List AObj → Prop) → AQ := fun (n : Nat) (Post : AV → List AObj → Prop) => blockQ 0 (q109_1 n Post)
noncomputable def c109_12 : Go.Code := codeFst (codeSnd (codeFst c109_11))
theorem v109_11 : ∀ (s : ByteArray) (p n c : Int) (n_1 : Nat) (Post : AV → List AObj → Prop),
  AWP Try.prog 96 n_1 c109_12
      [(0, AV.str s), (1, AV.int IntKind.i64 p), (5, AV.int IntKind.i64 n), (6, AV.int IntKind.i64 c), (7, AV.int IntKind.i64 (1 : Int))] [] (q109_2 n_1 Post) →
    AWP Try.prog 96 n_1 c109_11 [(0, AV.str s), (1, AV.int IntKind.i64 p), (5, AV.int IntKind.i64 n), (6, AV.int IntKind.i64 c)] [] (q109_0 n_1 Post) := fun s p n c n Post h => Go.Ab.awp_sound g109 n _ _ _ _ (Go.Ab.kc (by kernel_rfl) h)
theorem v109_16 : ∀ (s : ByteArray) (p n c : Int) (n_1 : Nat) (Post : AV → List AObj → Prop),
  needP ((0 : Int) ≤ IntKind.wrap IntKind.i64 (p + (1 : Int)) ∧ IntKind.wrap IntKind.i64 (p + (1 : Int)) < (↑(ByteArray.size s) : Int))
      (condP (c == (224 : Int))
        (condP (decide (IntKind.wrap IntKind.i64 (↑(UInt8.toNat (List.getD (Array.toList (ByteArray.data s)) (Int.toNat (IntKind.wrap IntKind.i64 (p + (1 : Int)))) (0 : UInt8))) : Int) < (160 : Int)))
        (Post (AV.int IntKind.i64 (0 : Int)) [])
        (condP (c == (237 : Int))
        (condP
        (decide (IntKind.wrap IntKind.i64 (↑(UInt8.toNat (List.getD (Array.toList (ByteArray.data s)) (Int.toNat (IntKind.wrap IntKind.i64 (p + (1 : Int)))) (0 : UInt8))) : Int) > (159 : Int)))
        (Post (AV.int IntKind.i64 (0 : Int)) [])
        (condP (c == (240 : Int))
        (condP
        (decide
        (IntKind.wrap IntKind.i64 (↑(UInt8.toNat (List.getD (Array.toList (ByteArray.data s)) (Int.toNat (IntKind.wrap IntKind.i64 (p + (1 : Int)))) (0 : UInt8))) : Int) < (144 : Int)))
        (Post (AV.int IntKind.i64 (0 : Int)) [])
        (condP (c == (244 : Int))
        (condP
        (decide
        (IntKind.wrap IntKind.i64 (↑(UInt8.toNat (List.getD (Array.toList (ByteArray.data s)) (Int.toNat (IntKind.wrap IntKind.i64 (p + (1 : Int)))) (0 : UInt8))) : Int) >
        (143 : Int)))
        (Post (AV.int IntKind.i64 (0 : Int)) []) (Post (AV.int IntKind.i64 n) []))
        (Post (AV.int IntKind.i64 n) [])))
        (condP (c == (244 : Int))
        (condP
        (decide
        (IntKind.wrap IntKind.i64 (↑(UInt8.toNat (List.getD (Array.toList (ByteArray.data s)) (Int.toNat (IntKind.wrap IntKind.i64 (p + (1 : Int)))) (0 : UInt8))) : Int) > (143 : Int)))
        (Post (AV.int IntKind.i64 (0 : Int)) []) (Post (AV.int IntKind.i64 n) []))
        (Post (AV.int IntKind.i64 n) []))))
        (condP (c == (240 : Int))
        (condP
        (decide
        (IntKind.wrap IntKind.i64 (↑(UInt8.toNat (List.getD (Array.toList (ByteArray.data s)) (Int.toNat (IntKind.wrap IntKind.i64 (p + (1 : Int)))) (0 : UInt8))) : Int) < (144 : Int)))
        (Post (AV.int IntKind.i64 (0 : Int)) [])
        (condP (c == (244 : Int))
        (condP
        (decide
        (IntKind.wrap IntKind.i64 (↑(UInt8.toNat (List.getD (Array.toList (ByteArray.data s)) (Int.toNat (IntKind.wrap IntKind.i64 (p + (1 : Int)))) (0 : UInt8))) : Int) > (143 : Int)))
        (Post (AV.int IntKind.i64 (0 : Int)) []) (Post (AV.int IntKind.i64 n) []))
        (Post (AV.int IntKind.i64 n) [])))
        (condP (c == (244 : Int))
        (condP
        (decide
        (IntKind.wrap IntKind.i64 (↑(UInt8.toNat (List.getD (Array.toList (ByteArray.data s)) (Int.toNat (IntKind.wrap IntKind.i64 (p + (1 : Int)))) (0 : UInt8))) : Int) > (143 : Int)))
        (Post (AV.int IntKind.i64 (0 : Int)) []) (Post (AV.int IntKind.i64 n) []))
        (Post (AV.int IntKind.i64 n) [])))))
        (condP (c == (237 : Int))
        (condP
        (decide (IntKind.wrap IntKind.i64 (↑(UInt8.toNat (List.getD (Array.toList (ByteArray.data s)) (Int.toNat (IntKind.wrap IntKind.i64 (p + (1 : Int)))) (0 : UInt8))) : Int) > (159 : Int)))
        (Post (AV.int IntKind.i64 (0 : Int)) [])
        (condP (c == (240 : Int))
        (condP
        (decide
        (IntKind.wrap IntKind.i64 (↑(UInt8.toNat (List.getD (Array.toList (ByteArray.data s)) (Int.toNat (IntKind.wrap IntKind.i64 (p + (1 : Int)))) (0 : UInt8))) : Int) < (144 : Int)))
        (Post (AV.int IntKind.i64 (0 : Int)) [])
        (condP (c == (244 : Int))
        (condP
        (decide
        (IntKind.wrap IntKind.i64 (↑(UInt8.toNat (List.getD (Array.toList (ByteArray.data s)) (Int.toNat (IntKind.wrap IntKind.i64 (p + (1 : Int)))) (0 : UInt8))) : Int) > (143 : Int)))
        (Post (AV.int IntKind.i64 (0 : Int)) []) (Post (AV.int IntKind.i64 n) []))
        (Post (AV.int IntKind.i64 n) [])))
        (condP (c == (244 : Int))
        (condP
        (decide
        (IntKind.wrap IntKind.i64 (↑(UInt8.toNat (List.getD (Array.toList (ByteArray.data s)) (Int.toNat (IntKind.wrap IntKind.i64 (p + (1 : Int)))) (0 : UInt8))) : Int) > (143 : Int)))
        (Post (AV.int IntKind.i64 (0 : Int)) []) (Post (AV.int IntKind.i64 n) []))
        (Post (AV.int IntKind.i64 n) []))))
        (condP (c == (240 : Int))
        (condP
        (decide (IntKind.wrap IntKind.i64 (↑(UInt8.toNat (List.getD (Array.toList (ByteArray.data s)) (Int.toNat (IntKind.wrap IntKind.i64 (p + (1 : Int)))) (0 : UInt8))) : Int) < (144 : Int)))
        (Post (AV.int IntKind.i64 (0 : Int)) [])
        (condP (c == (244 : Int))
        (condP
        (decide
        (IntKind.wrap IntKind.i64 (↑(UInt8.toNat (List.getD (Array.toList (ByteArray.data s)) (Int.toNat (IntKind.wrap IntKind.i64 (p + (1 : Int)))) (0 : UInt8))) : Int) > (143 : Int)))
        (Post (AV.int IntKind.i64 (0 : Int)) []) (Post (AV.int IntKind.i64 n) []))
        (Post (AV.int IntKind.i64 n) [])))
        (condP (c == (244 : Int))
        (condP
        (decide
        (IntKind.wrap IntKind.i64 (↑(UInt8.toNat (List.getD (Array.toList (ByteArray.data s)) (Int.toNat (IntKind.wrap IntKind.i64 (p + (1 : Int)))) (0 : UInt8))) : Int) > (143 : Int)))
        (Post (AV.int IntKind.i64 (0 : Int)) []) (Post (AV.int IntKind.i64 n) []))
        (Post (AV.int IntKind.i64 n) []))))) →
    AWP Try.prog 96 n_1 c109_16 [(0, AV.str s), (1, AV.int IntKind.i64 p), (5, AV.int IntKind.i64 n), (6, AV.int IntKind.i64 c)] [] (q109_0 n_1 Post) := fun s p n c n Post h => Go.Ab.awp_sound g109 n _ _ _ _ (Go.Ab.kc (by kernel_rfl) h)
theorem v109_12 : ∀ (s : ByteArray) (p n c i : Int) (n_1 : Nat) (Post : AV → List AObj → Prop),
  condP (decide (i < n))
      (needP ((0 : Int) ≤ IntKind.wrap IntKind.i64 (p + i) ∧ IntKind.wrap IntKind.i64 (p + i) < (↑(ByteArray.size s) : Int))
        (condP (decide ((↑(UInt8.toNat (List.getD (Array.toList (ByteArray.data s)) (Int.toNat (IntKind.wrap IntKind.i64 (p + i))) (0 : UInt8))) : Int) < (128 : Int)))
        (Post (AV.int IntKind.i64 (0 : Int)) [])
        (needP ((0 : Int) ≤ IntKind.wrap IntKind.i64 (p + i) ∧ IntKind.wrap IntKind.i64 (p + i) < (↑(ByteArray.size s) : Int))
        (condP (decide ((↑(UInt8.toNat (List.getD (Array.toList (ByteArray.data s)) (Int.toNat (IntKind.wrap IntKind.i64 (p + i))) (0 : UInt8))) : Int) > (191 : Int)))
        (Post (AV.int IntKind.i64 (0 : Int)) [])
        (AWP Try.prog 96 n_1 c109_12
        [(0, AV.str s), (1, AV.int IntKind.i64 p), (5, AV.int IntKind.i64 n), (6, AV.int IntKind.i64 c),
        (7, AV.int IntKind.i64 (IntKind.wrap IntKind.i64 (i + (1 : Int))))]
        [] (q109_2 n_1 Post))))))
      (AWP Try.prog 96 n_1 c109_16 [(0, AV.str s), (1, AV.int IntKind.i64 p), (5, AV.int IntKind.i64 n), (6, AV.int IntKind.i64 c)] [] (q109_0 n_1 Post)) →
    AWP Try.prog 96 n_1 c109_12
      [(0, AV.str s), (1, AV.int IntKind.i64 p), (5, AV.int IntKind.i64 n), (6, AV.int IntKind.i64 c), (7, AV.int IntKind.i64 i)] [] (q109_2 n_1 Post) := fun s p n c i n Post h => Go.Ab.AWP.loop' g109 (Cfg.live g109) c109_12 (by kernel_rfl) (by kernel_rfl) (Go.Ab.kc (by kernel_rfl) h)

-- 74
noncomputable def l74 : Nat → List Nat
  | 9 => [0, 1, 6, 7]
  | 11 => [0, 1, 6, 7]
  | 12 => [0, 1, 6, 7, 8]
  | _ => []
noncomputable def u74 : Nat → Bool
  | 9 => true
  | 11 => true
  | _ => false
noncomputable def m74 : Nat → Bool
  | _ => false
noncomputable def g74 : Cfg := { N := 58, live := l74, cut := u74, mu := m74, ret := rets }
noncomputable def c74 : Go.Code := Go.Ab.bodyOf Go.Proofs.Try.f74
noncomputable def q74_0 : Nat → (AV → List AObj → Prop) → AQ := fun (n : Nat) (Post : AV → List AObj → Prop) => endQ Try.prog (resultsOf Try.f74) Post
noncomputable def c74_9 : Go.Code := codeSnd (codeSnd (codeSnd (codeSnd (codeSnd (codeSnd c74)))))
theorem s74 : ∀ (s : ByteArray) (p : Int) (Post : AV → List AObj → Prop),
  needP ((0 : Int) ≤ p ∧ p < (↑(ByteArray.size s) : Int))
      (condP (decide ((↑(UInt8.toNat (List.getD (Array.toList (ByteArray.data s)) (Int.toNat p) (0 : UInt8))) : Int) < (128 : Int)))
        (needP ((0 : Int) ≤ p ∧ p < (↑(ByteArray.size s) : Int))
        (Post (AV.tup [AV.int IntKind.i64 (IntKind.wrap IntKind.i64 (↑(UInt8.toNat (List.getD (Array.toList (ByteArray.data s)) (Int.toNat p) (0 : UInt8))) : Int)), AV.int IntKind.i64 (1 : Int)])
        []))
        (ASpec Try.prog 109 [AV.str s, AV.int IntKind.i64 p] [] fun (r : AV) (H' : List AObj) =>
        ∃ (x : Int),
        r = AV.int IntKind.i64 x ∧
        H' = [] ∧
        condP (x == (0 : Int)) (Post (AV.tup [AV.int IntKind.i64 (65533 : Int), AV.int IntKind.i64 (1 : Int)]) [])
        (needP ((0 : Int) ≤ p ∧ p < (↑(ByteArray.size s) : Int))
        (needP ((32 : Int) ≠ (0 : Int))
        (condP (x == (3 : Int))
        (needP ((0 : Int) ≤ p ∧ p < (↑(ByteArray.size s) : Int))
        (needP ((16 : Int) ≠ (0 : Int))
        (AWP Try.prog 58 0 c74_9
        [(0, AV.str s), (1, AV.int IntKind.i64 p), (6, AV.int IntKind.i64 x),
        (7,
        AV.int IntKind.i64 (Int.tmod (IntKind.wrap IntKind.i64 (↑(UInt8.toNat (List.getD (Array.toList (ByteArray.data s)) (Int.toNat p) (0 : UInt8))) : Int)) (16 : Int)))]
        [] (q74_0 0 Post))))
        (AWP Try.prog 58 0 c74_9
        [(0, AV.str s), (1, AV.int IntKind.i64 p), (6, AV.int IntKind.i64 x),
        (7,
        AV.int IntKind.i64 (Int.tmod (IntKind.wrap IntKind.i64 (↑(UInt8.toNat (List.getD (Array.toList (ByteArray.data s)) (Int.toNat p) (0 : UInt8))) : Int)) (32 : Int)))]
        [] (q74_0 0 Post))))))) →
    ASpec Try.prog 74 [AV.str s, AV.int IntKind.i64 p] [] Post := fun s p Post h => Go.Ab.ASpec.of_vc g74 Go.Proofs.Try.func74 (by kernel_rfl) (by kernel_rfl) (by kernel_rfl) (Go.Ab.kc (by kernel_rfl) h)
noncomputable def c74_11 : Go.Code := codeSnd c74_9
theorem v74_9 : ∀ (s : ByteArray) (p n x : Int) (n_1 : Nat) (Post : AV → List AObj → Prop),
  condP (n == (4 : Int))
      (needP ((0 : Int) ≤ p ∧ p < (↑(ByteArray.size s) : Int))
        (needP ((8 : Int) ≠ (0 : Int))
        (AWP Try.prog 58 n_1 c74_11
        [(0, AV.str s), (1, AV.int IntKind.i64 p), (6, AV.int IntKind.i64 n),
        (7, AV.int IntKind.i64 (Int.tmod (IntKind.wrap IntKind.i64 (↑(UInt8.toNat (List.getD (Array.toList (ByteArray.data s)) (Int.toNat p) (0 : UInt8))) : Int)) (8 : Int)))]
        [] (q74_0 n_1 Post))))
      (AWP Try.prog 58 n_1 c74_11 [(0, AV.str s), (1, AV.int IntKind.i64 p), (6, AV.int IntKind.i64 n), (7, AV.int IntKind.i64 x)] [] (q74_0 n_1 Post)) →
    AWP Try.prog 58 n_1 c74_9 [(0, AV.str s), (1, AV.int IntKind.i64 p), (6, AV.int IntKind.i64 n), (7, AV.int IntKind.i64 x)] [] (q74_0 n_1 Post) := fun s p n x n Post h => Go.Ab.awp_sound g74 n _ _ _ _ (Go.Ab.kc (by kernel_rfl) h)
noncomputable def q74_1 : Nat → (AV → List AObj → Prop) → AQ := fun (n : Nat) (Post : AV → List AObj → Prop) => seqQ (fun (s' : Slots) (H' : List AObj) => awp Try.prog g74 n (codeSnd c74_11) s' H' (q74_0 n Post)) (q74_0 n Post)
noncomputable def q74_2 : Nat → (AV → List AObj → Prop) → AQ := fun (n : Nat) (Post : AV → List AObj → Prop) => blockQ 0 (q74_1 n Post)
noncomputable def c74_12 : Go.Code := codeFst (codeSnd (codeFst c74_11))
theorem v74_11 : ∀ (s : ByteArray) (p n x : Int) (n_1 : Nat) (Post : AV → List AObj → Prop),
  AWP Try.prog 58 n_1 c74_12
      [(0, AV.str s), (1, AV.int IntKind.i64 p), (6, AV.int IntKind.i64 n), (7, AV.int IntKind.i64 x), (8, AV.int IntKind.i64 (1 : Int))] [] (q74_2 n_1 Post) →
    AWP Try.prog 58 n_1 c74_11 [(0, AV.str s), (1, AV.int IntKind.i64 p), (6, AV.int IntKind.i64 n), (7, AV.int IntKind.i64 x)] [] (q74_0 n_1 Post) := fun s p n x n Post h => Go.Ab.awp_sound g74 n _ _ _ _ (Go.Ab.kc (by kernel_rfl) h)
theorem v74_12 : ∀ (s : ByteArray) (p n x i : Int) (n_1 : Nat) (Post : AV → List AObj → Prop),
  condP (decide (i < n))
      (needP ((0 : Int) ≤ IntKind.wrap IntKind.i64 (p + i) ∧ IntKind.wrap IntKind.i64 (p + i) < (↑(ByteArray.size s) : Int))
        (needP ((64 : Int) ≠ (0 : Int))
        (AWP Try.prog 58 n_1 c74_12
        [(0, AV.str s), (1, AV.int IntKind.i64 p), (6, AV.int IntKind.i64 n),
        (7,
        AV.int IntKind.i64
        (IntKind.wrap IntKind.i64
        (IntKind.wrap IntKind.i64 (x * (64 : Int)) +
        Int.tmod (IntKind.wrap IntKind.i64 (↑(UInt8.toNat (List.getD (Array.toList (ByteArray.data s)) (Int.toNat (IntKind.wrap IntKind.i64 (p + i))) (0 : UInt8))) : Int)) (64 : Int)))),
        (8, AV.int IntKind.i64 (IntKind.wrap IntKind.i64 (i + (1 : Int))))]
        [] (q74_2 n_1 Post))))
      (Post (AV.tup [AV.int IntKind.i64 x, AV.int IntKind.i64 n]) []) →
    AWP Try.prog 58 n_1 c74_12
      [(0, AV.str s), (1, AV.int IntKind.i64 p), (6, AV.int IntKind.i64 n), (7, AV.int IntKind.i64 x), (8, AV.int IntKind.i64 i)] [] (q74_2 n_1 Post) := fun s p n x i n Post h => Go.Ab.AWP.loop' g74 (Cfg.live g74) c74_12 (by kernel_rfl) (by kernel_rfl) (Go.Ab.kc (by kernel_rfl) h)

-- 55
noncomputable def l55 : Nat → List Nat
  | 3 => [0, 3, 4]
  | _ => []
noncomputable def u55 : Nat → Bool
  | _ => false
noncomputable def m55 : Nat → Bool
  | _ => false
noncomputable def g55 : Cfg := { N := 25, live := l55, cut := u55, mu := m55, ret := rets }
noncomputable def c55 : Go.Code := Go.Ab.bodyOf Go.Proofs.Try.f55
noncomputable def q55_0 : Nat → (AV → List AObj → Prop) → AQ := fun (n : Nat) (Post : AV → List AObj → Prop) => endQ Try.prog (resultsOf Try.f55) Post
noncomputable def q55_1 : Nat → (AV → List AObj → Prop) → AQ := fun (n : Nat) (Post : AV → List AObj → Prop) => seqQ (fun (s' : Slots) (H' : List AObj) => awp Try.prog g55 n (codeSnd (codeSnd (codeSnd (codeSnd c55)))) s' H' (q55_0 n Post)) (q55_0 n Post)
noncomputable def q55_2 : Nat → (AV → List AObj → Prop) → AQ := fun (n : Nat) (Post : AV → List AObj → Prop) => blockQ 0 (q55_1 n Post)
noncomputable def c55_3 : Go.Code := codeFst (codeFst (codeSnd (codeSnd (codeSnd c55))))
theorem s55 : ∀ (s : ByteArray) (Post : AV → List AObj → Prop),
  AWP Try.prog 25 0 c55_3 [(0, AV.str s), (3, AV.sl 0 (Seq.raw []) Tip.nil), (4, AV.int IntKind.i64 (0 : Int))] [] (q55_2 0 Post) →
    ASpec Try.prog 55 [AV.str s] [] Post := fun s Post h => Go.Ab.ASpec.of_vc g55 Go.Proofs.Try.func55 (by kernel_rfl) (by kernel_rfl) (by kernel_rfl) (Go.Ab.kc (by kernel_rfl) h)
theorem v55_3 : ∀ (s : ByteArray) (l : List Int) (p : Int) (n : Nat) (Post : AV → List AObj → Prop),
  condP (decide (p < (↑(ByteArray.size s) : Int)))
      (ASpec Try.prog 74 [AV.str s, AV.int IntKind.i64 p] [AObj.tok] fun (r : AV) (H' : List AObj) =>
        ∃ (x : Int × Int),
        r = AV.tup [AV.int IntKind.i64 (Prod.fst x), AV.int IntKind.i64 (Prod.snd x)] ∧
        H' = [AObj.tok] ∧
        needP ((List.length l + 1) * 8 ≤ 140737488351232)
        (AWP Try.prog 25 n c55_3
        [(0, AV.str s), (3, AV.sl 1 (Seq.app (Seq.map encI (0 : Int) l) (Seq.raw [[AV.int IntKind.i64 (Prod.fst x)]])) (Tip.tok 1)),
        (4, AV.int IntKind.i64 (IntKind.wrap IntKind.i64 (p + Prod.snd x)))]
        [AObj.gone, AObj.tok] (q55_2 n Post)))
      (Post (AV.sl 1 (Seq.map encI (0 : Int) l) (Tip.tok 0)) [AObj.tok]) →
    AWP Try.prog 25 n c55_3 [(0, AV.str s), (3, AV.sl 1 (Seq.map encI (0 : Int) l) (Tip.tok 0)), (4, AV.int IntKind.i64 p)] [AObj.tok] (q55_2 n Post) := fun s l p n Post h => Go.Ab.AWP.loop' g55 (Cfg.live g55) c55_3 (by kernel_rfl) (by kernel_rfl) (Go.Ab.kc (by kernel_rfl) h)

-- 35
noncomputable def l35 : Nat → List Nat
  | 5 => [3, 4]
  | _ => []
noncomputable def u35 : Nat → Bool
  | _ => false
noncomputable def m35 : Nat → Bool
  | _ => false
noncomputable def g35 : Cfg := { N := 42, live := l35, cut := u35, mu := m35, ret := rets }
noncomputable def c35 : Go.Code := Go.Ab.bodyOf Go.Proofs.Try.f35
noncomputable def q35_0 : Nat → (AV → List AObj → Prop) → AQ := fun (n : Nat) (Post : AV → List AObj → Prop) => endQ Try.prog (resultsOf Try.f35) Post
noncomputable def q35_1 : Nat → (AV → List AObj → Prop) → AQ := fun (n : Nat) (Post : AV → List AObj → Prop) => seqQ (fun (s' : Slots) (H' : List AObj) => awp Try.prog g35 n (codeSnd (codeSnd (codeSnd (codeSnd c35)))) s' H' (q35_0 n Post)) (q35_0 n Post)
noncomputable def q35_2 : Nat → (AV → List AObj → Prop) → AQ := fun (n : Nat) (Post : AV → List AObj → Prop) => blockQ 0 (q35_1 n Post)
noncomputable def c35_5 : Go.Code := codeFst (codeSnd (codeFst (codeSnd (codeSnd (codeSnd c35)))))
theorem s35 : ∀ (s : ByteArray) (Post : AV → List AObj → Prop),
  condP (decide ((↑(ByteArray.size s) : Int) > (100 : Int))) (Post (AV.bool false) [])
      (ASpec Try.prog 55 [AV.str s] [] fun (r : AV) (H' : List AObj) =>
        ∃ (x : List Int),
        r = AV.sl 1 (Seq.map encI (0 : Int) x) Tip.none ∧
        H' = [] ∧ AWP Try.prog 42 0 c35_5 [(3, AV.sl 1 (Seq.map encI (0 : Int) x) Tip.none), (4, AV.int IntKind.i64 (0 : Int))] [] (q35_2 0 Post)) →
    ASpec Try.prog 35 [AV.str s] [] Post := fun s Post h => Go.Ab.ASpec.of_vc g35 Go.Proofs.Try.func35 (by kernel_rfl) (by kernel_rfl) (by kernel_rfl) (Go.Ab.kc (by kernel_rfl) h)
theorem v35_5 : ∀ (l : List Int) (i : Int) (n : Nat) (Post : AV → List AObj → Prop),
  condP (decide (i < (↑(List.length l) : Int)))
      (needP ((0 : Int) ≤ i ∧ i < (↑(List.length l) : Int))
        (ASpec Try.prog 56 [AV.int IntKind.i64 (List.getD l (Int.toNat i) (0 : Int))] [] fun (r : AV) (H' : List AObj) =>
        ∃ (x : Int),
        r = AV.int IntKind.i64 x ∧
        H' = [] ∧
        condP (x == (4 : Int)) (Post (AV.bool false) [])
        (condP (i == (0 : Int))
        (needP ((0 : Int) ≤ i ∧ i < (↑(List.length l) : Int))
        (ASpec Try.prog 56 [AV.int IntKind.i64 (List.getD l (Int.toNat i) (0 : Int))] [] fun (r : AV) (H' : List AObj) =>
        ∃ (x : Int),
        r = AV.int IntKind.i64 x ∧
        H' = [] ∧
        condP (decide (x > (1 : Int))) (Post (AV.bool false) [])
        (AWP Try.prog 42 n c35_5
        [(3, AV.sl 1 (Seq.map encI (0 : Int) l) Tip.none), (4, AV.int IntKind.i64 (IntKind.wrap IntKind.i64 (i + (1 : Int))))] [] (q35_2 n Post))))
        (AWP Try.prog 42 n c35_5 [(3, AV.sl 1 (Seq.map encI (0 : Int) l) Tip.none), (4, AV.int IntKind.i64 (IntKind.wrap IntKind.i64 (i + (1 : Int))))] []
        (q35_2 n Post)))))
      (condP (decide ((↑(List.length l) : Int) ≥ (1 : Int))) (Post (AV.bool (decide ((↑(List.length l) : Int) ≤ (12 : Int)))) []) (Post (AV.bool false) [])) →
    AWP Try.prog 42 n c35_5 [(3, AV.sl 1 (Seq.map encI (0 : Int) l) Tip.none), (4, AV.int IntKind.i64 i)] [] (q35_2 n Post) := fun l i n Post h => Go.Ab.AWP.loop' g35 (Cfg.live g35) c35_5 (by kernel_rfl) (by kernel_rfl) (Go.Ab.kc (by kernel_rfl) h)

end
end S
end

section
/- The plain law of numbers as bytes. -/

namespace V

/-- the digits that go on -/
def lead (v : Nat) : List UInt8 := if _h : v = 0 then [] else lead (v / 128) ++ [UInt8.ofNat (128 + v % 128)]
  termination_by v
  decreasing_by omega

def enc (v : Nat) : List UInt8 := lead (v / 128) ++ [UInt8.ofNat (v % 128)]

end V
end

section
/- vlq.Put: what it computes. -/

set_option linter.unusedVariables false
set_option linter.unusedSimpArgs false
open Go Go.Ab Go.Proofs
namespace V

def big : Nat := 140737488351232

theorem tmodN (a b : Nat) : Int.tmod (a : Int) (b : Int) = ((a % b : Nat) : Int) := by rfl

theorem selTok : Sel 0 [1] [AObj.gone, AObj.tok] [AObj.tok] := Sel.one 1 rfl rfl

end V
end

section
/- The reader of bytes: what its methods compute. -/

set_option linter.unusedVariables false
set_option linter.unusedSimpArgs false
open Go Go.Ab Go.Proofs
namespace V

def scan : Nat → List UInt8 → Nat → Nat → Int ⊕ (Nat × Nat)
  | 0, _, _, _ => .inl 4
  | _ + 1, [], _, _ => .inl 2
  | f + 1, c :: s, x, i => if 128 ≤ c.toNat then scan f s (x * 128 + c.toNat % 128) (i + 1) else .inr (x * 128 + c.toNat % 128, i + 1)

/-- the number ahead, how many bytes it has, and what is wrong -/
def lookM (s : List UInt8) (most : Int) : Int × Nat × Int :=
  match s with
  | [] => (0, 0, 2)
  | c :: _ => if c = 128 then (0, 0, 3) else match scan 6 s 0 0 with
    | .inl e => (0, 0, e)
    | .inr (n, k) => if (n : Int) > min most 1099511627776 then (0, 0, 4) else (n, k, 0)

theorem getD_drop (bs : List UInt8) (q : Nat) (h : q < bs.length) : bs.drop q = bs.getD q 0 :: bs.drop (q + 1) := by
  rw [List.drop_eq_getElem_cons h]
  simp [List.getD, List.getElem?_eq_getElem h]

def peekP (bs : List UInt8) (p : Nat) (most : Int) (Post : AV → List AObj → Prop) : Int ⊕ (Nat × Nat) → Prop
  | .inl e => Post (.tup [.int .i64 0, .int .i64 p]) [rd bs p e]
  | .inr (n, k) => if (n : Int) > min most 1099511627776 then Post (.tup [.int .i64 0, .int .i64 p]) [rd bs p 4] else Post (.tup [.int .i64 n, .int .i64 (p + k : Nat)]) [rd bs p 0]

theorem min_if (most : Int) : (if 1099511627776 < most then 1099511627776 else most) = min most 1099511627776 := by
  split <;> omega

theorem peek9 {bs : List UInt8} {p : Nat} {most : Int} {Post : AV → List AObj → Prop} (hb : bs.length ≤ big) (hp : p ≤ bs.length) : ∀ (f i x : Nat), f + i = 6 → p + i ≤ bs.length → x < 128 ^ i →
    peekP bs p most Post (scan f (bs.drop (p + i)) x i) →
    AWP Try.prog 113 1 c122_9 [(0, .ptr 0 0), (1, .int .i64 most), (6, .int .i64 x), (44, .int .i64 i)] [rd bs p 0] (q122_2 1 Post) := by
  intro f
  unfold big at hb
  induction f with
  | zero =>
    intro i x hf hpi hx h
    refine v122_9 _ _ _ _ _ _ _ _ (condD (fun hc => by omega) fun hc => ⟨⟨rfl, rfl⟩, h⟩)
  | succ f ih =>
    intro i x hf hpi hx h
    have hi6 : (128 : Nat) ^ i ≤ 128 ^ 5 := Nat.pow_le_pow_right (by omega) (by omega)
    have h5 : (128 : Nat) ^ 5 = 34359738368 := by decide
    have hwp : IntKind.wrap .i64 ((p : Int) + i) = ((p + i : Nat) : Int) := by rw [wrap64 (by omega) (by omega)]; simp
    refine v122_9 _ _ _ _ _ _ _ _ (condD (fun hc => ?_) fun hc => by omega)
    rw [hwp]
    refine condE (fun he => ?_) fun he => ?_
    · have he : p + i = bs.length := by omega
      refine ⟨⟨rfl, rfl⟩, ?_⟩
      rw [List.drop_eq_nil_of_le (by omega)] at h
      exact h
    · have he : p + i ≠ bs.length := by omega
      refine needJ (by omega) (needJ (by decide) ?_)
      rw [Int.toNat_natCast]
      rw [getD_drop bs (p + i) (by omega)] at h
      generalize bs.getD (p + i) 0 = c at h ⊢
      have hc8 : c.toNat < 256 := c.toNat_lt
      have hwc : IntKind.wrap .i64 (c.toNat : Int) = (c.toNat : Int) := wrapN (by omega)
      have hx1 : IntKind.wrap .i64 (IntKind.wrap .i64 ((x : Int) * 128) + (c.toNat : Int).tmod 128) = ((x * 128 + c.toNat % 128 : Nat) : Int) := by
        rw [show (128 : Int) = ((128 : Nat) : Int) from rfl, tmodN, wrap64 (x := (x : Int) * ((128 : Nat) : Int)) (by omega) (by omega), wrap64 (by omega) (by omega)]
        simp
      rw [hwc, hx1]
      simp only [scan] at h
      refine condD (fun hg => ?_) fun hg => ?_
      · rw [if_pos (by omega)] at h
        rw [show IntKind.wrap .i64 ((i : Int) + 1) = ((i + 1 : Nat) : Int) by rw [wrap64 (by omega) (by omega)]; simp]
        refine ih (i + 1) _ (by omega) (by omega) ?_ ?_
        · rw [Nat.pow_succ]; omega
        · exact h
      · rw [if_neg (by omega)] at h
        simp only [peekP] at h
        rw [min_if]
        refine condD (fun hm => ?_) fun hm => ?_
        · rw [if_pos hm] at h
          exact ⟨⟨rfl, rfl⟩, h⟩
        · rw [if_neg hm] at h
          rw [show IntKind.wrap .i64 (((p + i : Nat) : Int) + 1) = ((p + (i + 1) : Nat) : Int) by rw [wrap64 (by omega) (by omega)]; omega]
          exact ⟨⟨rfl, rfl⟩, h⟩

theorem peek_spec {bs : List UInt8} {p : Nat} (most : Int) (hb : bs.length ≤ big) (hp : p ≤ bs.length) :
    ASpec Try.prog 122 [.ptr 0 0, .int .i64 most] [rd bs p 0] (fun r H' => r = .tup [.int .i64 (lookM (bs.drop p) most).1, .int .i64 (p + (lookM (bs.drop p) most).2.1 : Nat)] ∧ H' = [rd bs p (lookM (bs.drop p) most).2.2]) := by
  refine s122 _ _ _ _ _ (condE (fun he => ?_) fun he => ?_)
  · have he : p = bs.length := by omega
    rw [List.drop_eq_nil_of_le (by omega)]
    exact ⟨⟨rfl, rfl⟩, rfl, rfl⟩
  · have he : p ≠ bs.length := by omega
    refine needJ (by omega) ?_
    rw [Int.toNat_natCast]
    have hd := getD_drop bs p (by omega)
    refine condE (fun h1 => ?_) fun h1 => ?_
    · have h1 : (bs.getD p 0) = 128 := by
        have : (bs.getD p 0).toNat = 128 := by omega
        exact UInt8.toNat_inj.1 this
      have e : lookM (bs.drop p) most = (0, 0, 3) := by rw [hd]; simp only [lookM, if_pos h1]
      rw [e]
      exact ⟨⟨rfl, rfl⟩, rfl, rfl⟩
    · have h1 : (bs.getD p 0) ≠ 128 := by
        intro e
        rw [e] at h1
        exact h1 rfl
      refine peek9 hb hp 6 0 0 rfl (by omega) (by simp) ?_
      rw [Nat.add_zero]
      have e : lookM (bs.drop p) most = match scan 6 (bs.drop p) 0 0 with
        | .inl e => (0, 0, e)
        | .inr (n, k) => if (n : Int) > min most 1099511627776 then (0, 0, 4) else (n, k, 0) := by
        rw [hd]; simp only [lookM, if_neg h1]
      rw [e]
      cases scan 6 (bs.drop p) 0 0 with
      | inl er => exact ⟨rfl, rfl⟩
      | inr nk =>
        obtain ⟨n, k⟩ := nk
        simp only [peekP]
        split
        · exact ⟨rfl, rfl⟩
        · exact ⟨rfl, rfl⟩

theorem scan_le : ∀ (f : Nat) (s : List UInt8) (x i n k : Nat), scan f s x i = .inr (n, k) → i < k ∧ k ≤ i + s.length
  | 0, s, x, i, n, k, h => by simp [scan] at h
  | f + 1, [], x, i, n, k, h => by simp [scan] at h
  | f + 1, c :: s, x, i, n, k, h => by
    simp only [scan] at h
    split at h
    · have := scan_le f s _ _ _ _ h
      simp; omega
    · simp at h
      simp; omega

theorem lookM_le (s : List UInt8) (most : Int) : (lookM s most).2.1 ≤ s.length ∧ 0 ≤ (lookM s most).1 ∧ (lookM s most).1 ≤ 1099511627776 ∧ ((lookM s most).2.2 ≠ 0 → (lookM s most).1 = 0 ∧ (lookM s most).2.1 = 0) := by
  cases s with
  | nil => simp [lookM]
  | cons c s =>
    simp only [lookM]
    split
    · simp
    · split
      · simp
      · rename_i n k hs
        have := scan_le _ _ _ _ _ _ hs
        split
        · simp
        · refine ⟨?_, by simp, ?_, by simp⟩
          · show k ≤ _
            omega
          · show (n : Int) ≤ _
            omega

/-- a reader's next number: the answer, the place, the error -/
def numM (bs : List UInt8) (p : Nat) (e most : Int) : Int × Nat × Int :=
  if e ≠ 0 then (0, p, e) else ((lookM (bs.drop p) most).1, p + (lookM (bs.drop p) most).2.1, (lookM (bs.drop p) most).2.2)

def strM (bs : List UInt8) (p : Nat) (e most : Int) : List UInt8 × Nat × Int :=
  if e ≠ 0 then ([], p, e) else
    if (lookM (bs.drop p) most).2.2 ≠ 0 then ([], p, (lookM (bs.drop p) most).2.2) else
    if (lookM (bs.drop p) most).1 > (bs.length : Int) - ((p + (lookM (bs.drop p) most).2.1 : Nat) : Int) then ([], p, 2) else
      ((bs.drop (p + (lookM (bs.drop p) most).2.1)).take (lookM (bs.drop p) most).1.toNat, p + (lookM (bs.drop p) most).2.1 + (lookM (bs.drop p) most).1.toNat, 0)

theorem num_spec0 {bs : List UInt8} {p : Nat} (e most : Int) (hb : bs.length ≤ big) (hp : p ≤ bs.length) :
    ASpec Try.prog 92 [.ptr 0 0, .int .i64 most] [rd bs p e] (fun r H' => r = .int .i64 (numM bs p e most).1 ∧ H' = [rd bs (numM bs p e most).2.1 (numM bs p e most).2.2]) := by
  refine s92 _ _ _ _ _ (condNe (fun he => ?_) fun he => ?_)
  · rw [show numM bs p e most = (0, p, e) by simp only [numM, if_pos he]]
    exact ⟨rfl, rfl⟩
  · subst he
    rw [show numM bs p 0 most = ((lookM (bs.drop p) most).1, p + (lookM (bs.drop p) most).2.1, (lookM (bs.drop p) most).2.2) by simp [numM]]
    refine ASpec.call (peek_spec most hb hp) (Les.refl _) ⟨(_, _, _, _), rfl, rfl, rfl, rfl⟩

theorem str_spec0 {bs : List UInt8} {p : Nat} (e most : Int) (hb : bs.length ≤ big) (hp : p ≤ bs.length) :
    ASpec Try.prog 90 [.ptr 0 0, .int .i64 most] [rd bs p e] (fun r H' => r = .str ⟨(strM bs p e most).1.toArray⟩ ∧ H' = [rd bs (strM bs p e most).2.1 (strM bs p e most).2.2]) := by
  refine s90 _ _ _ _ _ (condNe (fun he => ?_) fun he => ?_)
  · rw [show strM bs p e most = ([], p, e) by simp only [strM, if_pos he]]
    exact ⟨rfl, rfl⟩
  · subst he
    obtain ⟨h1, h2, h3, h4⟩ := lookM_le (bs.drop p) most
    have hs : strM bs p 0 most = if (lookM (bs.drop p) most).2.2 ≠ 0 then ([], p, (lookM (bs.drop p) most).2.2) else
      if (lookM (bs.drop p) most).1 > (bs.length : Int) - ((p + (lookM (bs.drop p) most).2.1 : Nat) : Int) then ([], p, 2) else
      ((bs.drop (p + (lookM (bs.drop p) most).2.1)).take (lookM (bs.drop p) most).1.toNat, p + (lookM (bs.drop p) most).2.1 + (lookM (bs.drop p) most).1.toNat, 0) := by simp [strM]
    refine ASpec.call (peek_spec most hb hp) (Les.refl _) ⟨((lookM (bs.drop p) most).1, ((p + (lookM (bs.drop p) most).2.1 : Nat) : Int), p, (lookM (bs.drop p) most).2.2), rfl, rfl, ?_⟩
    generalize lookM (bs.drop p) most = q at h1 h2 h3 h4 hs ⊢
    obtain ⟨n, k, er⟩ := q
    unfold big at hb
    rw [List.length_drop] at h1
    simp only at h1 h2 h3 h4 hs ⊢
    refine condNe (fun he => ?_) fun he => ?_
    · rw [hs, if_pos he]; exact ⟨rfl, rfl⟩
    · subst he
      rw [wrap64 (x := (bs.length : Int) - ((p + k : Nat) : Int)) (by omega) (by omega)]
      refine condD (fun hg => ?_) fun hg => ?_
      · rw [hs, if_neg (by simp), if_pos hg]; exact ⟨rfl, rfl⟩
      · rw [hs, if_neg (by simp), if_neg hg]
        have hw : IntKind.wrap .i64 (((p + k : Nat) : Int) + n) = ((p + k + n.toNat : Nat) : Int) := by
          have h5 : 0 ≤ n := h2
          rw [wrap64 (x := ((p + k : Nat) : Int) + n) (by omega) (by omega)]; omega
        rw [hw]
        refine needJ (by omega) (needJ (allBytes_map _) ?_)
        rw [bytesOf_map, Int.toNat_natCast, Int.toNat_natCast, List.drop_take]
        refine ⟨?_, rfl⟩
        rw [show p + k + n.toNat - (p + k) = n.toNat by omega]

end V
end

section
/- The document's numbers, texts and reader: what they compute. -/

set_option linter.unusedVariables false
set_option linter.unusedSimpArgs false
open Go Go.Ab Go.Proofs
namespace V

abbrev B (l : List UInt8) : ByteArray := ⟨l.toArray⟩

theorem B_size (l : List UInt8) : (B l).size = l.length := by simp [ByteArray.size]
theorem B_toList (l : List UInt8) : (B l).toList = l := by rw [ByteArray.toList_eq]
theorem B_beq (a b : List UInt8) : ((B a).toList == (B b).toList) = (a == b) := by rw [B_toList, B_toList]
theorem B_extract (l : List UInt8) (i j : Nat) (h : j ≤ l.length) : (B l).extract i j = B ((l.take j).drop i) := by
  apply ByteArray.ext
  apply Array.toList_inj.1
  simp [List.drop_take]

theorem condS {a b : List UInt8} {A C : Prop} (h1 : a = b → A) (h2 : a ≠ b → C) : condP ((B a).toList == (B b).toList) A C := by
  rw [B_beq]
  by_cases h : a = b
  · rw [beq_iff_eq.2 h]; exact h1 h
  · rw [beq_eq_false_iff_ne.2 h]; exact h2 h

/-! ### numbers -/

/-! ### the document's look -/

def acc (x : Nat) : List UInt8 → Nat
  | [] => x
  | c :: s => acc (x * 128 + c.toNat % 128) s

theorem acc_lt : ∀ (s : List UInt8) (x i : Nat), x < 128 ^ i → acc x s < 128 ^ (i + s.length)
  | [], x, i, h => h
  | c :: s, x, i, h => by
    simp only [acc, List.length_cons]
    have := acc_lt s (x * 128 + c.toNat % 128) (i + 1) (by rw [Nat.pow_succ]; omega)
    rwa [show i + (s.length + 1) = i + 1 + s.length by omega]

theorem acc_append (x : Nat) : ∀ (s t : List UInt8), acc x (s ++ t) = acc (acc x s) t
  | [], t => rfl
  | c :: s, t => acc_append _ s t

theorem scan_hi : ∀ (k : Nat) (s : List UInt8) (x i f : Nat), k ≤ s.length → k ≤ f → (∀ j, j < k → 128 ≤ (s.getD j 0).toNat) → scan f s x i = scan (f - k) (s.drop k) (acc x (s.take k)) (i + k)
  | 0, s, x, i, f, _, _, _ => by simp [acc]
  | k + 1, [], x, i, f, h, _, _ => by simp at h
  | k + 1, c :: s, x, i, 0, _, h, _ => by omega
  | k + 1, c :: s, x, i, f + 1, h1, h2, h3 => by
    have hc : 128 ≤ c.toNat := by simpa using h3 0 (by omega)
    simp only [scan, if_pos hc]
    rw [scan_hi k s _ (i + 1) f (by simpa using h1) (by omega) (fun j hj => by simpa using h3 (j + 1) (by omega))]
    simp only [List.take_succ_cons, acc, List.drop_succ_cons]
    congr 1 <;> omega

theorem look14 {l : List UInt8} {most : Int} {k : Nat} {Post : AV → List AObj → Prop} (hk : k < 6) (hkl : k < l.length) : ∀ (m i : Nat), m + i = k + 1 →
    (if (acc 0 (l.take (k + 1)) : Int) > min most 1099511627776 then Post (.tup [.int .i64 0, .int .i64 0, .int .i64 4]) [] else Post (.tup [.int .i64 (acc 0 (l.take (k + 1)) : Nat), .int .i64 (k + 1 : Nat), .int .i64 0]) []) →
    AWP Try.prog 60 0 c132_14 [(0, .str (B l)), (1, .int .i64 most), (7, .int .i64 k), (8, .int .i64 (acc 0 (l.take i) : Nat)), (9, .int .i64 i)] [] (q132_4 0 Post) := by
  intro m
  induction m with
  | zero =>
    intro i hm h
    refine v132_14 _ _ _ _ _ _ _ (condD (fun hc => by omega) fun hc => ?_)
    rw [show i = k + 1 by omega]
    refine condD (fun h1 => ?_) fun h1 => condD (fun h2 => ?_) fun h2 => ?_
    · rw [if_pos (by omega)] at h; exact h
    · rw [if_pos (by omega)] at h; exact h
    · rw [if_neg (by omega)] at h
      rw [show IntKind.wrap .i64 ((k : Int) + 1) = ((k + 1 : Nat) : Int) by rw [wrap64 (by omega) (by omega)]; simp]
      exact h
  | succ m ih =>
    intro i hm h
    refine v132_14 _ _ _ _ _ _ _ (condD (fun hc => needJ ?_ (needJ (by decide) ?_)) fun hc => by omega)
    · rw [B_size]; omega
    · have hx := acc_lt (l.take i) 0 0 (by simp)
      have hlen : (l.take i).length ≤ 5 := by simp; omega
      have hp : (128 : Nat) ^ (0 + (l.take i).length) ≤ 128 ^ 5 := Nat.pow_le_pow_right (by omega) (by omega)
      have h5 : (128 : Nat) ^ 5 = 34359738368 := by decide
      have e : acc 0 (l.take (i + 1)) = acc 0 (l.take i) * 128 + (l.getD i 0).toNat % 128 := by
        have : l.take (i + 1) = l.take i ++ [l.getD i 0] := by
          rw [List.take_add_one]
          simp [List.getElem?_eq_getElem (show i < l.length by omega)]
        rw [this, acc_append]; rfl
      have := ih (i + 1) (by omega) h
      rw [e] at this
      generalize acc 0 (l.take i) = x at this hx ⊢
      have hg : (B l).data.toList.getD (Int.toNat (i : Int)) 0 = l.getD i 0 := rfl
      rw [hg]
      generalize l.getD i 0 = c at this ⊢
      have hc8 : c.toNat < 256 := c.toNat_lt
      rw [show IntKind.wrap .i64 ((i : Int) + 1) = ((i + 1 : Nat) : Int) by rw [wrap64 (by omega) (by omega)]; simp]
      rw [show (128 : Int) = ((128 : Nat) : Int) from rfl, tmodN, wrap64 (x := (x : Int) * ((128 : Nat) : Int)) (by omega) (by omega), wrap64 (x := ((c.toNat % 128 : Nat) : Int)) (by omega) (by omega), wrap64 (by omega) (by omega)]
      have e2 : (x : Int) * ((128 : Nat) : Int) + ((c.toNat % 128 : Nat) : Int) = ((x * 128 + c.toNat % 128 : Nat) : Int) := by simp
      rw [e2]
      exact this

def lookP (Post : AV → List AObj → Prop) (most : Int) : Int ⊕ (Nat × Nat) → Prop
  | .inl e => Post (.tup [.int .i64 0, .int .i64 0, .int .i64 e]) []
  | .inr (n, k) => if (n : Int) > min most 1099511627776 then Post (.tup [.int .i64 0, .int .i64 0, .int .i64 4]) [] else Post (.tup [.int .i64 n, .int .i64 k, .int .i64 0]) []

theorem look6 {l : List UInt8} {most : Int} {Post : AV → List AObj → Prop} (hl : l.length ≤ 10 * big) : ∀ (m k : Nat), m + k = 6 → k ≤ l.length → (∀ j, j < k → 128 ≤ (l.getD j 0).toNat) → lookP Post most (scan 6 l 0 0) →
    AWP Try.prog 60 0 c132_6 [(0, .str (B l)), (1, .int .i64 most), (7, .int .i64 k)] [] (q132_2 0 Post) := by
  unfold big at hl
  -- behind the loop
  have tail : ∀ k, k ≤ 6 → k ≤ l.length → (∀ j, j < k → 128 ≤ (l.getD j 0).toNat) → (k < 6 → k < l.length → (l.getD k 0).toNat < 128) → lookP Post most (scan 6 l 0 0) →
      condP ((k : Int) == (6 : Int)) (Post (.tup [.int .i64 0, .int .i64 0, .int .i64 4]) [])
        (condP ((k : Int) == ((B l).size : Int)) (Post (.tup [.int .i64 0, .int .i64 0, .int .i64 2]) [])
          (AWP Try.prog 60 0 c132_14 [(0, .str (B l)), (1, .int .i64 most), (7, .int .i64 k), (8, .int .i64 0), (9, .int .i64 0)] [] (q132_4 0 Post))) := by
    intro k hk hkl hhi hlo h
    rw [scan_hi k l 0 0 6 hkl hk hhi] at h
    refine condE (fun e => ?_) fun e => condE (fun e2 => ?_) fun e2 => ?_
    · have : k = 6 := by omega
      subst this
      exact h
    · rw [B_size] at e2
      have : k = l.length := by omega
      rw [List.drop_eq_nil_of_le (by omega), show 6 - k = (5 - k) + 1 by omega] at h
      exact h
    · rw [B_size] at e2
      have hlt : (l.getD k 0).toNat < 128 := hlo (by omega) (by omega)
      rw [getD_drop l k (by omega), show 6 - k = (5 - k) + 1 by omega] at h
      simp only [scan, if_neg (show ¬ 128 ≤ (l.getD k 0).toNat by omega)] at h
      refine look14 (by omega) (by omega) (k + 1) 0 rfl ?_
      have e : acc 0 (l.take (k + 1)) = acc 0 (l.take k) * 128 + (l.getD k 0).toNat % 128 := by
        have : l.take (k + 1) = l.take k ++ [l.getD k 0] := by
          rw [List.take_add_one]
          simp [List.getElem?_eq_getElem (show k < l.length by omega)]
        rw [this, acc_append]; rfl
      rw [e]
      simpa [lookP] using h
  intro m
  induction m with
  | zero =>
    intro k hm hkl hhi h
    have : k = 6 := by omega
    subst this
    refine v132_6 _ _ _ _ _ (condD (fun _ => condD (fun hc => by omega) fun _ => ?_) fun _ => ?_)
    · exact tail 6 (by omega) hkl hhi (fun h => by omega) h
    · exact tail 6 (by omega) hkl hhi (fun h => by omega) h
  | succ m ih =>
    intro k hm hkl hhi h
    refine v132_6 _ _ _ _ _ (condD (fun hc => condD (fun _ => needJ ?_ ?_) fun hc => by omega) fun hc => ?_)
    · exact ⟨by omega, hc⟩
    · rw [B_size] at hc
      have hg : (B l).data.toList.getD (Int.toNat (k : Int)) 0 = l.getD k 0 := rfl
      rw [hg]
      refine condD (fun hx => ?_) fun hx => ?_
      · rw [show IntKind.wrap .i64 ((k : Int) + 1) = ((k + 1 : Nat) : Int) by rw [wrap64 (by omega) (by omega)]; simp]
        refine ih (k + 1) (by omega) (by omega) (fun j hj => ?_) h
        by_cases e : j = k
        · subst e; omega
        · exact hhi j (by omega)
      · exact tail k (by omega) hkl hhi (fun _ _ => by omega) h
    · rw [B_size] at hc
      exact tail k (by omega) hkl hhi (fun _ h => by omega) h

theorem look_spec (l : List UInt8) (most : Int) (hl : l.length ≤ 10 * big) (H : List AObj) :
    ASpec Try.prog 132 [.str (B l), .int .i64 most] H (fun r H' => r = .tup [.int .i64 (lookM l most).1, .int .i64 (lookM l most).2.1, .int .i64 (lookM l most).2.2] ∧ H' = H) := by
  have k : ASpec Try.prog 132 [.str (B l), .int .i64 most] [] (fun r H' => r = .tup [.int .i64 (lookM l most).1, .int .i64 (lookM l most).2.1, .int .i64 (lookM l most).2.2] ∧ H' = []) := by
    refine s132 _ _ _ (condS (b := []) (fun e => ?_) fun e => ?_)
    · subst e; exact ⟨rfl, rfl⟩
    · cases l with
      | nil => exact (e rfl).elim
      | cons c l =>
        refine needJ ⟨by omega, by rw [B_size]; simp⟩ ?_
        have hg : (B (c :: l)).data.toList.getD 0 0 = c := rfl
        rw [hg]
        refine condE (fun h1 => ?_) fun h1 => ?_
        · have h1 : c = 128 := UInt8.toNat_inj.1 (by have : c.toNat = 128 := by omega
                                                     exact this)
          rw [show lookM (c :: l) most = (0, 0, 3) by simp only [lookM, if_pos h1]]
          exact ⟨rfl, rfl⟩
        · have h1 : c ≠ 128 := by intro e; rw [e] at h1; exact h1 rfl
          refine look6 hl 6 0 rfl (by omega) (fun j hj => by omega) ?_
          have e : lookM (c :: l) most = match scan 6 (c :: l) 0 0 with
            | .inl e => (0, 0, e)
            | .inr (n, k) => if (n : Int) > min most 1099511627776 then (0, 0, 4) else (n, k, 0) := by simp only [lookM, if_neg h1] <;> rfl
          rw [e]
          cases scan 6 (c :: l) 0 0 with
          | inl er => exact ⟨rfl, rfl⟩
          | inr nk =>
            obtain ⟨n, k⟩ := nk
            by_cases hm : (n : Int) > min most 1099511627776
            · simp [lookP, hm]
            · simp [lookP, hm]
  exact ASpec.pureH H k _ _ rfl rfl

end V
end

section
/- Readers as objects, in any heap; the chapter's examples. -/

set_option linter.unusedVariables false
set_option linter.unusedSimpArgs false
open Go Go.Ab Go.Proofs
namespace V

/-- a reader stands at id -/
abbrev At (H : List AObj) (id : Nat) (bs : List UInt8) (p : Nat) (e : Int) : Prop := H[id]? = some (rd bs p e)

theorem num_spec {H : List AObj} {id : Nat} {bs : List UInt8} {p : Nat} {e : Int} (most : Int) (hb : bs.length ≤ big) (hp : p ≤ bs.length) (h : At H id bs p e) :
    ASpec Try.prog 92 [.ptr id 0, .int .i64 most] H (fun r H' => r = .int .i64 (numM bs p e most).1 ∧ H' = H.set id (rd bs (numM bs p e most).2.1 (numM bs p e most).2.2)) :=
  ASpec.oneH H id (num_spec0 e most hb hp) _ _ _ rfl rfl h rfl

theorem str_spec {H : List AObj} {id : Nat} {bs : List UInt8} {p : Nat} {e : Int} (most : Int) (hb : bs.length ≤ big) (hp : p ≤ bs.length) (h : At H id bs p e) :
    ASpec Try.prog 90 [.ptr id 0, .int .i64 most] H (fun r H' => r = .str (B (strM bs p e most).1) ∧ H' = H.set id (rd bs (strM bs p e most).2.1 (strM bs p e most).2.2)) :=
  ASpec.oneH H id (str_spec0 e most hb hp) _ _ _ rfl rfl h rfl

theorem set_same {α : Type _} {l : List α} {i : Nat} {a : α} (h : l[i]? = some a) : l.set i a = l := by
  apply List.ext_getElem?
  intro j
  rw [List.getElem?_set]
  split
  · rename_i e; subst e
    have := (List.getElem?_eq_some_iff.1 h).1
    simp only [this, if_true]
    exact h.symm
  · rfl

theorem err_spec {H : List AObj} {id : Nat} {bs : List UInt8} {p : Nat} {e : Int} (h : At H id bs p e) : ASpec Try.prog 123 [.ptr id 0] H (fun r H' => r = .int .i64 e ∧ H' = H) := by
  have k : ASpec Try.prog 123 [.ptr 0 0] [rd bs p e] (fun r H' => r = .int .i64 e ∧ H' = [rd bs p e]) := s123 _ _ _ _ ⟨rfl, rfl⟩
  have := ASpec.oneH H id k [.ptr id 0] (.int .i64 e) (rd bs p e) rfl rfl h rfl
  rw [set_same h] at this
  exact this

theorem left_spec {H : List AObj} {id : Nat} {bs : List UInt8} {p : Nat} {e : Int} (hb : bs.length ≤ big) (hp : p ≤ bs.length) (h : At H id bs p e) : ASpec Try.prog 124 [.ptr id 0] H (fun r H' => r = .int .i64 (bs.length - p : Nat) ∧ H' = H) := by
  have k : ASpec Try.prog 124 [.ptr 0 0] [rd bs p e] (fun r H' => r = .int .i64 (bs.length - p : Nat) ∧ H' = [rd bs p e]) := by
    refine s124 _ _ _ _ ⟨?_, rfl⟩
    unfold big at hb
    rw [wrap64 (by omega) (by omega)]
    congr 1
    omega
  have := ASpec.oneH H id k [.ptr id 0] (.int .i64 (bs.length - p : Nat)) (rd bs p e) rfl rfl h rfl
  rw [set_same h] at this
  exact this

theorem copied_all (bs : List UInt8) (l : List (List AV)) (hl : l.length = bs.length) : (copied (.raw l) 0 (.map encB 0 bs)).toList = bs.map encB := by
  simp [copied, Seq.toList, hl]

theorem open_spec (bs : List UInt8) (hb : bs.length ≤ big) (H : List AObj) : ASpec Try.prog 88 [.sl 1 (.map encB 0 bs) .none] H (fun r H' => r = .ptr H.length 0 ∧ H' = H ++ [rd bs 0 0]) := by
  have k : ASpec Try.prog 88 [.sl 1 (.map encB 0 bs) .none] [] (fun r H' => r = .ptr 0 0 ∧ H' = [rd bs 0 0]) := by
    unfold big at hb
    refine s88 _ _ _ (needJ ⟨by omega, by omega, by omega, by omega⟩ (needJ oneB (needJ (by simp) ?_)))
    generalize hq : copied _ _ _ = q
    have hq2 : q.toList = bs.map encB := by rw [← hq]; exact copied_all _ _ (by simp)
    refine AWP.re (ReSt.freeze (id := 0) (sz := 1) (q := q) (s2 := [(3, .sl 1 (.map encB 0 bs) .none)]) rfl (by simp) (fun d => ?_)) ?_
    · by_cases e : d = 3
      · subst e
        right; right
        exact ⟨0, bs.length, .map encB 0 bs, rfl, by rw [hq2]; simp, rfl, by rw [hq2]; simp [Seq.toList, List.take_of_length_le]⟩
      · left
        have : Nat.beq 3 d = false := by
          cases hx : Nat.beq 3 d with
          | false => rfl
          | true => exact absurd (Nat.eq_of_beq_eq_true hx).symm e
        simp only [Ab.get, this]; rfl
    · exact AWP.shape [] [(3, .sl 1 (.map encB 0 bs) .none)] [] Sel.none ⟨rfl, Le.refl _, trivial⟩ (v88_3 _ _ _ ⟨rfl, rfl⟩)
  exact ASpec.anyH H k _ _ _ rfl rfl rfl

end V
end

section
/- VlqOrder: the law's function returns true. -/

set_option linter.unusedVariables false
set_option linter.unusedSimpArgs false
open Go Go.Ab Go.Proofs
namespace V

end V
end

section
/- VlqBack: what was put is read: the law's function returns true. -/

set_option linter.unusedVariables false
set_option linter.unusedSimpArgs false
open Go Go.Ab Go.Proofs
namespace V

end V
end

section
/- The document's reader, and a reader that is none: what their methods compute, in any heap. -/

set_option linter.unusedVariables false
set_option linter.unusedSimpArgs false
open Go Go.Ab Go.Proofs
namespace V

/-- the document's reader -/
abbrev dr (l : List UInt8) (e : Int) : AObj := .cells [.str (B l), .int .i64 e]
abbrev AtD (H : List AObj) (id : Nat) (l : List UInt8) (e : Int) : Prop := H[id]? = some (dr l e)

def dnumM (l : List UInt8) (e most : Int) : Int × List UInt8 × Int :=
  if e ≠ 0 then (0, l, e) else ((lookM l most).1, l.drop (lookM l most).2.1, (lookM l most).2.2)
def dstrM (l : List UInt8) (e most : Int) : List UInt8 × List UInt8 × Int :=
  if e ≠ 0 then ([], l, e) else if (lookM l most).2.2 ≠ 0 then ([], l, (lookM l most).2.2) else
    if (lookM l most).1 > (l.length : Int) - ((lookM l most).2.1 : Nat) then ([], l, 2) else
    ((l.drop (lookM l most).2.1).take (lookM l most).1.toNat, l.drop ((lookM l most).2.1 + (lookM l most).1.toNat), 0)

theorem dnum_spec0 (l : List UInt8) (e most : Int) (hl : l.length ≤ 10 * big) :
    ASpec Try.prog 111 [.ptr 0 0, .int .i64 most] [dr l e] (fun r H' => r = .int .i64 (dnumM l e most).1 ∧ H' = [dr (dnumM l e most).2.1 (dnumM l e most).2.2]) := by
  refine s111 _ _ _ _ (condNe (fun he => ?_) fun he => ?_)
  · rw [show dnumM l e most = (0, l, e) by simp only [dnumM, if_pos he]]
    exact ⟨rfl, rfl⟩
  · subst he
    rw [show dnumM l 0 most = ((lookM l most).1, l.drop (lookM l most).2.1, (lookM l most).2.2) by simp [dnumM]]
    obtain ⟨h1, h2, h3, h4⟩ := lookM_le l most
    refine ASpec.call (look_spec l most hl _) (Les.refl _) ⟨((lookM l most).1, ((lookM l most).2.1 : Nat), (lookM l most).2.2), rfl, rfl, needJ ?_ ⟨rfl, ?_⟩⟩
    · simp only [B_size]; omega
    · simp only [Int.toNat_natCast, B_size]
      rw [B_extract _ _ _ (Nat.le_refl _), List.take_of_length_le (Nat.le_refl _)]

theorem dstr_spec0 (l : List UInt8) (e most : Int) (hl : l.length ≤ 10 * big) :
    ASpec Try.prog 110 [.ptr 0 0, .int .i64 most] [dr l e] (fun r H' => r = .str (B (dstrM l e most).1) ∧ H' = [dr (dstrM l e most).2.1 (dstrM l e most).2.2]) := by
  refine s110 _ _ _ _ (condNe (fun he => ?_) fun he => ?_)
  · rw [show dstrM l e most = ([], l, e) by simp only [dstrM, if_pos he]]
    exact ⟨rfl, rfl⟩
  · subst he
    obtain ⟨h1, h2, h3, h4⟩ := lookM_le l most
    refine ASpec.call (look_spec l most hl _) (Les.refl _) ⟨((lookM l most).1, ((lookM l most).2.1 : Nat), (lookM l most).2.2), rfl, rfl, ?_⟩
    have hs : dstrM l 0 most = if (lookM l most).2.2 ≠ 0 then ([], l, (lookM l most).2.2) else
      if (lookM l most).1 > (l.length : Int) - ((lookM l most).2.1 : Nat) then ([], l, 2) else
      ((l.drop (lookM l most).2.1).take (lookM l most).1.toNat, l.drop ((lookM l most).2.1 + (lookM l most).1.toNat), 0) := by simp [dstrM]
    rw [hs]
    generalize lookM l most = q at h1 h2 h3 h4 ⊢
    obtain ⟨n, k, er⟩ := q
    unfold big at hl
    simp only at h1 h2 h3 h4 ⊢
    simp only [B_size]
    refine condE (fun he => ?_) fun he => ?_
    · subst he
      rw [wrap64 (x := (l.length : Int) - ((k : Nat) : Int)) (by omega) (by omega)]
      refine condD (fun hg => ?_) fun hg => ?_
      · rw [if_neg (by simp), if_pos hg]; exact ⟨rfl, rfl⟩
      · rw [if_neg (by simp), if_neg hg]
        have hw : IntKind.wrap .i64 (((k : Nat) : Int) + n) = ((k + n.toNat : Nat) : Int) := by
          rw [wrap64 (x := ((k : Nat) : Int) + n) (by omega) (by omega)]; omega
        refine condNe (fun h => (h rfl).elim) fun _ => ?_
        rw [hw]
        refine needJ (by omega) (needJ (by omega) ?_)
        simp only [Int.toNat_natCast]
        rw [B_extract _ _ _ (by omega), B_extract _ _ _ (Nat.le_refl _), List.take_of_length_le (Nat.le_refl _), List.drop_take, show k + n.toNat - k = n.toNat by omega]
        exact ⟨rfl, rfl⟩
    · refine condNe (fun h => ?_) fun h => (he h).elim
      rw [if_pos he]; exact ⟨rfl, rfl⟩

theorem dnum_spec {H : List AObj} {id : Nat} {l : List UInt8} {e : Int} (most : Int) (hl : l.length ≤ 10 * big) (h : AtD H id l e) :
    ASpec Try.prog 111 [.ptr id 0, .int .i64 most] H (fun r H' => r = .int .i64 (dnumM l e most).1 ∧ H' = H.set id (dr (dnumM l e most).2.1 (dnumM l e most).2.2)) :=
  ASpec.oneH H id (dnum_spec0 l e most hl) _ _ _ rfl rfl h rfl
theorem dstr_spec {H : List AObj} {id : Nat} {l : List UInt8} {e : Int} (most : Int) (hl : l.length ≤ 10 * big) (h : AtD H id l e) :
    ASpec Try.prog 110 [.ptr id 0, .int .i64 most] H (fun r H' => r = .str (B (dstrM l e most).1) ∧ H' = H.set id (dr (dstrM l e most).2.1 (dstrM l e most).2.2)) :=
  ASpec.oneH H id (dstr_spec0 l e most hl) _ _ _ rfl rfl h rfl

def closeM (e : Int) (left : Nat) : Int := if e ≠ 0 then e else if 0 < left then 3 else 0

theorem close_spec {H : List AObj} {id : Nat} {bs : List UInt8} {p : Nat} {e : Int} (hb : bs.length ≤ big) (hp : p ≤ bs.length) (h : At H id bs p e) :
    ASpec Try.prog 98 [.ptr id 0] H (fun r H' => r = .int .i64 (closeM e (bs.length - p)) ∧ H' = H) := by
  have k : ASpec Try.prog 98 [.ptr 0 0] [rd bs p e] (fun r H' => r = .int .i64 (closeM e (bs.length - p)) ∧ H' = [rd bs p e]) := by
    refine s98 _ _ _ _ (ASpec.call (err_spec (id := 0) (bs := bs) (p := p) (e := e) rfl) (Les.refl _) ⟨e, rfl, rfl, ?_⟩)
    refine condNe (fun he => ?_) fun he => ?_
    · rw [show closeM e (bs.length - p) = e from if_pos he]; exact ⟨rfl, rfl⟩
    · subst he
      refine ASpec.call (left_spec (id := 0) (bs := bs) (p := p) (e := 0) hb hp rfl) (Les.refl _) ⟨_, rfl, rfl, ?_⟩
      refine condD (fun hc => ?_) fun hc => ?_
      · rw [show closeM 0 (bs.length - p) = 3 by simp only [closeM]; rw [if_neg (by simp), if_pos (by omega)]]; exact ⟨rfl, rfl⟩
      · rw [show closeM 0 (bs.length - p) = 0 by simp only [closeM]; rw [if_neg (by simp), if_neg (by omega)]]; exact ⟨rfl, rfl⟩
  have := ASpec.oneH H id k [.ptr id 0] (.int .i64 (closeM e (bs.length - p))) (rd bs p e) rfl rfl h rfl
  rw [set_same h] at this
  exact this

theorem condSn {a b : List UInt8} {A C : Prop} (h1 : a ≠ b → A) (h2 : a = b → C) : condP (!(B a).toList == (B b).toList) A C := by
  rw [B_beq]
  by_cases h : a = b
  · rw [beq_iff_eq.2 h]; exact h2 h
  · rw [beq_eq_false_iff_ne.2 h]; exact h1 h

theorem dclose_spec {H : List AObj} {id : Nat} {l : List UInt8} {e : Int} (h : AtD H id l e) :
    ASpec Try.prog 113 [.ptr id 0] H (fun r H' => r = .int .i64 (closeM e l.length) ∧ H' = H) := by
  have k : ASpec Try.prog 113 [.ptr 0 0] [dr l e] (fun r H' => r = .int .i64 (closeM e l.length) ∧ H' = [dr l e]) := by
    refine s113 _ _ _ (condE (fun he => condSn (b := []) (fun hl => ?_) fun hl => ?_) fun he => ?_)
    · subst he
      rw [show closeM 0 l.length = 3 by simp only [closeM]; rw [if_neg (by simp), if_pos (List.length_pos_iff.2 hl)]]; exact ⟨rfl, rfl⟩
    · subst he; subst hl
      exact ⟨rfl, rfl⟩
    · rw [show closeM e l.length = e from if_pos he]; exact ⟨rfl, rfl⟩
  have := ASpec.oneH H id k [.ptr id 0] (.int .i64 (closeM e l.length)) (dr l e) rfl rfl h rfl
  rw [set_same h] at this
  exact this

/-! ### a reader that is none -/

/-! ### the reader and the document's -/

theorem num_doc (bs : List UInt8) (p : Nat) (e most : Int) (hp : p ≤ bs.length) :
    dnumM (bs.drop p) e most = ((numM bs p e most).1, bs.drop (numM bs p e most).2.1, (numM bs p e most).2.2) ∧ (numM bs p e most).2.1 ≤ bs.length := by
  have h := (lookM_le (bs.drop p) most).1
  rw [List.length_drop] at h
  unfold dnumM numM
  split
  · exact ⟨rfl, hp⟩
  · refine ⟨by simp [List.drop_drop], by simp only; omega⟩

theorem str_doc (bs : List UInt8) (p : Nat) (e most : Int) (hp : p ≤ bs.length) :
    dstrM (bs.drop p) e most = ((strM bs p e most).1, bs.drop (strM bs p e most).2.1, (strM bs p e most).2.2) ∧ (strM bs p e most).2.1 ≤ bs.length := by
  obtain ⟨h, h2, -, -⟩ := lookM_le (bs.drop p) most
  rw [List.length_drop] at h
  unfold dstrM strM
  simp only [List.length_drop]
  split
  · exact ⟨rfl, hp⟩
  split
  · exact ⟨rfl, hp⟩
  split
  · rename_i hg
    rw [if_pos (by omega)]
    exact ⟨rfl, hp⟩
  · rename_i hg
    rw [if_neg (by omega)]
    refine ⟨by simp [List.drop_drop, Nat.add_assoc], by simp only; omega⟩

end V
end

section
/- Stamps: what the code and the document sum up, close and open. -/

set_option linter.unusedVariables false
set_option linter.unusedSimpArgs false
open Go Go.Ab Go.Proofs V
namespace Go.Ab

theorem Le.tup {l r : List AV} (h : Les l r) : Le (.tup l) (.tup r) := by
  intro M w loc v hv
  cases hv with
  | tup _ vs hs hr =>
    have hl := h.len
    exact .tup _ vs (by omega) fun i hi => h.get i (by omega) hi M w loc _ (hr i (by omega))

theorem Le.agg {l r : List AV} (h : Les l r) : Le (.agg l) (.agg r) := by
  intro M w loc v hv
  cases hv with
  | agg _ vs hs hr =>
    have hl := h.len
    exact .agg _ vs (by omega) fun i hi => h.get i (by omega) hi M w loc _ (hr i (by omega))

end Go.Ab
namespace S

def fnv : Nat → List UInt8 → Nat
  | n, [] => n
  | n, c :: l => fnv ((n ^^^ c.toNat) * 16777619 % 4294967296) l

abbrev sum (l : List UInt8) : Nat := fnv 2166136261 l
/-! ### xor, bit by bit -/

/-! ### sums -/

/-! ### sealing -/

/-! ### opening -/

end S
end

section
/- Labels: runes, kinds, and which names may be. -/

set_option linter.unusedVariables false
set_option linter.unusedSimpArgs false
set_option maxRecDepth 100000
open Go Go.Ab Go.Proofs V
namespace S

def kindM (c : Int) : Int := if 97 ≤ c ∧ c ≤ 122 then 0 else if 945 ≤ c ∧ c ≤ 969 then 1 else if 48 ≤ c ∧ c ≤ 57 then 2 else if c = 45 then 3 else 4

theorem kind_spec (c : Int) (H : List AObj) : ASpec Try.prog 63 [.int .i32 c] H (fun r H' => r = .int .i64 (kindM c) ∧ H' = H) := by
  have k : ASpec Try.prog 63 [.int .i32 c] [] (fun r H' => r = .int .i64 (kindM c) ∧ H' = []) := by
    refine s63 _ _ ?_
    repeat' (first | refine condD (fun _ => ?_) fun _ => ?_ | refine condE (fun _ => ?_) fun _ => ?_)
    all_goals (refine ⟨?_, rfl⟩; congr 1; unfold kindM; repeat' split)
    all_goals omega
  exact ASpec.pureH H k _ _ rfl rfl

theorem rkind_spec (c : Int) (H : List AObj) : ASpec Try.prog 56 [.int .i64 c] H (fun r H' => r = .int .i64 (kindM c) ∧ H' = H) := by
  have k : ASpec Try.prog 56 [.int .i64 c] [] (fun r H' => r = .int .i64 (kindM c) ∧ H' = []) := by
    refine s56 _ _ ?_
    repeat' (first | refine condD (fun _ => ?_) fun _ => ?_ | refine condE (fun _ => ?_) fun _ => ?_)
    all_goals (refine ⟨?_, rfl⟩; congr 1; unfold kindM; repeat' split)
    all_goals omega
  exact ASpec.pureH H k _ _ rfl rfl

theorem kindM_range (c : Int) : 0 ≤ kindM c ∧ kindM c ≤ 4 := by
  unfold kindM; repeat' split
  all_goals omega

/-! ### the rune at a place -/

/-- a byte behind a place -/
abbrev bt (l : List UInt8) (p k : Nat) : Nat := (l.getD (p + k) 0).toNat

theorem bt_lt (l : List UInt8) (p k : Nat) : bt l p k < 256 := (l.getD (p + k) 0).toNat_lt

theorem get_B (l : List UInt8) (j : Nat) : (B l).get! j = l.getD j 0 := by
  show l.toArray[j]! = _
  rw [getElem!_def]
  simp [List.getD]
  rfl

abbrev wideC (a b0 b1 b2 b3 : Nat) : Nat :=
  if 194 ≤ b0 ∧ b0 ≤ 223 then (if 2 ≤ a ∧ (128 ≤ b1 ∧ b1 ≤ 191) then 2 else 0)
  else if 224 ≤ b0 ∧ b0 ≤ 239 then (if 3 ≤ a ∧ (128 ≤ b1 ∧ b1 ≤ 191) ∧ (128 ≤ b2 ∧ b2 ≤ 191) ∧ ¬ (b0 = 224 ∧ b1 < 160) ∧ ¬ (b0 = 237 ∧ 159 < b1) then 3 else 0)
  else if 240 ≤ b0 ∧ b0 ≤ 244 then (if 4 ≤ a ∧ (128 ≤ b1 ∧ b1 ≤ 191) ∧ (128 ≤ b2 ∧ b2 ≤ 191) ∧ (128 ≤ b3 ∧ b3 ≤ 191) ∧ ¬ (b0 = 240 ∧ b1 < 144) ∧ ¬ (b0 = 244 ∧ 143 < b1) then 4 else 0)
  else 0

def wideM (l : List UInt8) (p : Nat) : Nat := wideC (l.length - p) (bt l p 0) (bt l p 1) (bt l p 2) (bt l p 3)

abbrev runeC (w b0 b1 b2 b3 : Nat) : Nat × Nat :=
  if b0 < 128 then (b0, 1) else if w = 0 then (65533, 1) else if w = 2 then (b0 % 32 * 64 + b1 % 64, 2)
  else if w = 3 then ((b0 % 16 * 64 + b1 % 64) * 64 + b2 % 64, 3) else (((b0 % 8 * 64 + b1 % 64) * 64 + b2 % 64) * 64 + b3 % 64, 4)

def runeM (l : List UInt8) (p : Nat) : Nat × Nat := runeC (wideM l p) (bt l p 0) (bt l p 1) (bt l p 2) (bt l p 3)

theorem decode_core (a b0 b1 b2 b3 : Nat) (h0 : b0 < 256) (h1 : b1 < 256) (h2 : b2 < 256) (h3 : b3 < 256) :
    (if b0 < 128 then (b0, 1)
     else if b0 / 32 = 6 ∧ (1 < a ∧ b1 / 64 = 2) then (if 128 ≤ b0 % 32 * 64 + b1 % 64 then (b0 % 32 * 64 + b1 % 64, 2) else (65533, 1))
     else if b0 / 16 = 14 ∧ (1 < a ∧ b1 / 64 = 2) ∧ (2 < a ∧ b2 / 64 = 2) then
       (if 2048 ≤ b0 % 16 * 4096 + b1 % 64 * 64 + b2 % 64 ∧ (b0 % 16 * 4096 + b1 % 64 * 64 + b2 % 64 < 55296 ∨ (57344 ≤ b0 % 16 * 4096 + b1 % 64 * 64 + b2 % 64 ∧ b0 % 16 * 4096 + b1 % 64 * 64 + b2 % 64 ≤ 1114111))
        then (b0 % 16 * 4096 + b1 % 64 * 64 + b2 % 64, 3) else (65533, 1))
     else if b0 / 8 = 30 ∧ (1 < a ∧ b1 / 64 = 2) ∧ (2 < a ∧ b2 / 64 = 2) ∧ (3 < a ∧ b3 / 64 = 2) then
       (if 65536 ≤ b0 % 8 * 262144 + b1 % 64 * 4096 + b2 % 64 * 64 + b3 % 64 ∧ (b0 % 8 * 262144 + b1 % 64 * 4096 + b2 % 64 * 64 + b3 % 64 < 55296 ∨ (57344 ≤ b0 % 8 * 262144 + b1 % 64 * 4096 + b2 % 64 * 64 + b3 % 64 ∧ b0 % 8 * 262144 + b1 % 64 * 4096 + b2 % 64 * 64 + b3 % 64 ≤ 1114111))
        then (b0 % 8 * 262144 + b1 % 64 * 4096 + b2 % 64 * 64 + b3 % 64, 4) else (65533, 1))
     else ((65533 : Nat), (1 : Nat))) = runeC (wideC a b0 b1 b2 b3) b0 b1 b2 b3 := by
  have e2 : ∀ w : Nat, w = 0 ∨ w = 2 ∨ w = 3 ∨ w = 4 ∨ 4 < w ∨ w = 1 := by omega
  by_cases c0 : b0 < 128
  · rw [if_pos c0]; unfold runeC; rw [if_pos c0]
  rw [if_neg c0]
  unfold runeC
  rw [if_neg c0]
  by_cases c1 : 194 ≤ b0 ∧ b0 ≤ 223
  · unfold wideC
    rw [if_pos c1]
    by_cases d : 1 < a ∧ b1 / 64 = 2
    · rw [if_pos ⟨by omega, d⟩, if_pos (by omega), if_pos (show 2 ≤ a ∧ (128 ≤ b1 ∧ b1 ≤ 191) by omega)]; rfl
    · rw [if_neg (fun h => d h.2), if_neg (fun h => d h.2.1), if_neg (fun h => d h.2.1), if_neg (show ¬ (2 ≤ a ∧ (128 ≤ b1 ∧ b1 ≤ 191)) by omega)]; rfl
  by_cases c2 : 224 ≤ b0 ∧ b0 ≤ 239
  · unfold wideC
    rw [if_neg c1, if_pos c2]
    rw [if_neg (show ¬ (b0 / 32 = 6 ∧ (1 < a ∧ b1 / 64 = 2)) by omega)]
    by_cases d : (1 < a ∧ b1 / 64 = 2) ∧ (2 < a ∧ b2 / 64 = 2)
    · rw [if_pos ⟨by omega, d⟩]
      by_cases f : ¬ (b0 = 224 ∧ b1 < 160) ∧ ¬ (b0 = 237 ∧ 159 < b1)
      · rw [if_pos (show 3 ≤ a ∧ (128 ≤ b1 ∧ b1 ≤ 191) ∧ (128 ≤ b2 ∧ b2 ≤ 191) ∧ ¬ (b0 = 224 ∧ b1 < 160) ∧ ¬ (b0 = 237 ∧ 159 < b1) by omega), if_pos (by omega)]
        simp only [if_neg (show ¬ (3 = 0) by omega), if_neg (show ¬ (3 = 2) by omega), if_true]
        rw [show b0 % 16 * 4096 + b1 % 64 * 64 + b2 % 64 = (b0 % 16 * 64 + b1 % 64) * 64 + b2 % 64 by omega]
      · rw [if_neg (show ¬ (3 ≤ a ∧ (128 ≤ b1 ∧ b1 ≤ 191) ∧ (128 ≤ b2 ∧ b2 ≤ 191) ∧ ¬ (b0 = 224 ∧ b1 < 160) ∧ ¬ (b0 = 237 ∧ 159 < b1)) by omega), if_neg (by omega)]; rfl
    · rw [if_neg (fun h => d h.2), if_neg (show ¬ (b0 / 8 = 30 ∧ (1 < a ∧ b1 / 64 = 2) ∧ (2 < a ∧ b2 / 64 = 2) ∧ (3 < a ∧ b3 / 64 = 2)) by omega),
        if_neg (show ¬ (3 ≤ a ∧ (128 ≤ b1 ∧ b1 ≤ 191) ∧ (128 ≤ b2 ∧ b2 ≤ 191) ∧ ¬ (b0 = 224 ∧ b1 < 160) ∧ ¬ (b0 = 237 ∧ 159 < b1)) by omega)]; rfl
  by_cases c3 : 240 ≤ b0 ∧ b0 ≤ 244
  · unfold wideC
    rw [if_neg c1, if_neg c2, if_pos c3]
    rw [if_neg (show ¬ (b0 / 32 = 6 ∧ (1 < a ∧ b1 / 64 = 2)) by omega), if_neg (show ¬ (b0 / 16 = 14 ∧ (1 < a ∧ b1 / 64 = 2) ∧ (2 < a ∧ b2 / 64 = 2)) by omega)]
    by_cases d : (1 < a ∧ b1 / 64 = 2) ∧ (2 < a ∧ b2 / 64 = 2) ∧ (3 < a ∧ b3 / 64 = 2)
    · rw [if_pos ⟨by omega, d⟩]
      by_cases f : ¬ (b0 = 240 ∧ b1 < 144) ∧ ¬ (b0 = 244 ∧ 143 < b1)
      · rw [if_pos (show 4 ≤ a ∧ (128 ≤ b1 ∧ b1 ≤ 191) ∧ (128 ≤ b2 ∧ b2 ≤ 191) ∧ (128 ≤ b3 ∧ b3 ≤ 191) ∧ ¬ (b0 = 240 ∧ b1 < 144) ∧ ¬ (b0 = 244 ∧ 143 < b1) by omega), if_pos (by omega)]
        simp only [if_neg (show ¬ (4 = 0) by omega), if_neg (show ¬ (4 = 2) by omega), if_neg (show ¬ (4 = 3) by omega)]
        rw [show b0 % 8 * 262144 + b1 % 64 * 4096 + b2 % 64 * 64 + b3 % 64 = ((b0 % 8 * 64 + b1 % 64) * 64 + b2 % 64) * 64 + b3 % 64 by omega]
      · rw [if_neg (show ¬ (4 ≤ a ∧ (128 ≤ b1 ∧ b1 ≤ 191) ∧ (128 ≤ b2 ∧ b2 ≤ 191) ∧ (128 ≤ b3 ∧ b3 ≤ 191) ∧ ¬ (b0 = 240 ∧ b1 < 144) ∧ ¬ (b0 = 244 ∧ 143 < b1)) by omega), if_neg (by omega)]; rfl
    · rw [if_neg (fun h => d h.2), if_neg (show ¬ (4 ≤ a ∧ (128 ≤ b1 ∧ b1 ≤ 191) ∧ (128 ≤ b2 ∧ b2 ≤ 191) ∧ (128 ≤ b3 ∧ b3 ≤ 191) ∧ ¬ (b0 = 240 ∧ b1 < 144) ∧ ¬ (b0 = 244 ∧ 143 < b1)) by omega)]; rfl
  · unfold wideC
    rw [if_neg c1, if_neg c2, if_neg c3]
    by_cases d : b0 / 32 = 6 ∧ (1 < a ∧ b1 / 64 = 2)
    · rw [if_pos d, if_neg (by omega)]; rfl
    rw [if_neg d, if_neg (show ¬ (b0 / 16 = 14 ∧ (1 < a ∧ b1 / 64 = 2) ∧ (2 < a ∧ b2 / 64 = 2)) by omega)]
    by_cases f : b0 / 8 = 30 ∧ (1 < a ∧ b1 / 64 = 2) ∧ (2 < a ∧ b2 / 64 = 2) ∧ (3 < a ∧ b3 / 64 = 2)
    · rw [if_pos f, if_neg (by omega)]; rfl
    · rw [if_neg f]; rfl

theorem validN (n : Nat) : Utf8.valid (n : Int) = (decide (n < 55296) || (decide (57344 ≤ n) && decide (n ≤ 1114111))) := by
  unfold Utf8.valid
  rw [Bool.eq_iff_iff]
  simp only [Bool.and_eq_true, Bool.or_eq_true, decide_eq_true_eq]
  omega

set_option maxRecDepth 100000 in
theorem decode_eq (l : List UInt8) (p : Nat) (hp : p < l.length) : Utf8.decode (B l) p = runeM l p := by
  unfold runeM wideM
  rw [← decode_core (l.length - p) _ _ _ _ (bt_lt l p 0) (bt_lt l p 1) (bt_lt l p 2) (bt_lt l p 3)]
  have hb : ∀ k, ((B l).get! (p + k)).toNat = bt l p k := fun k => by rw [get_B]
  have hc : ∀ k, decide (p + k < (B l).size) = decide (k < l.length - p) := fun k => by rw [B_size]; apply decide_eq_decide.2; omega
  unfold Utf8.decode
  simp only [hb, hc, validN]
  generalize bt l p 0 = b0
  generalize bt l p 1 = b1
  generalize bt l p 2 = b2
  generalize bt l p 3 = b3
  generalize l.length - p = a
  simp only [Utf8.runeError, Bool.and_eq_true, Bool.or_eq_true, decide_eq_true_eq, beq_iff_eq, ge_iff_le, and_assoc]

theorem runeM_width (l : List UInt8) (p : Nat) : 1 ≤ (runeM l p).2 ∧ (runeM l p).2 ≤ 4 := by
  unfold runeM runeC
  repeat' split
  all_goals simp

theorem wideM_cases (l : List UInt8) (p : Nat) : wideM l p = 0 ∨ (wideM l p = 2 ∧ 194 ≤ bt l p 0 ∧ bt l p 0 ≤ 223 ∧ p + 2 ≤ l.length) ∨
    (wideM l p = 3 ∧ 224 ≤ bt l p 0 ∧ bt l p 0 ≤ 239 ∧ p + 3 ≤ l.length ∧ (128 ≤ bt l p 1 ∧ bt l p 1 ≤ 191) ∧ ¬ (bt l p 0 = 224 ∧ bt l p 1 < 160)) ∨
    (wideM l p = 4 ∧ 240 ≤ bt l p 0 ∧ bt l p 0 ≤ 244 ∧ p + 4 ≤ l.length ∧ (128 ≤ bt l p 1 ∧ bt l p 1 ≤ 191) ∧ ¬ (bt l p 0 = 240 ∧ bt l p 1 < 144)) := by
  unfold wideM wideC
  repeat' split
  all_goals omega

/-- a rune that a name may have has two bytes at most -/
theorem runeM_small {l : List UInt8} {p : Nat} (h : kindM ((runeM l p).1 : Nat) ≤ 3) : (runeM l p).2 ≤ 2 := by
  have hk : ((runeM l p).1 : Int) ≤ 969 := by
    unfold kindM at h
    repeat' split at h
    all_goals omega
  rcases wideM_cases l p with e | ⟨e, h1⟩ | ⟨e, h1, h2, h3, h4, h5⟩ | ⟨e, h1, h2, h3, h4, h5⟩
  · unfold runeM runeC
    repeat' split
    all_goals simp_all
  · unfold runeM runeC
    repeat' split
    all_goals simp_all
  · exfalso
    unfold runeM runeC at hk
    rw [e] at hk
    rw [if_neg (by omega), if_neg (by omega), if_neg (by omega), if_pos rfl] at hk
    simp only at hk
    omega
  · exfalso
    unfold runeM runeC at hk
    rw [e] at hk
    rw [if_neg (by omega), if_neg (by omega), if_neg (by omega), if_neg (by omega)] at hk
    simp only at hk
    omega

/-! ### the document's walk over a rune's bytes -/

section
variable {l : List UInt8} {p : Nat} {Post : AV → List AObj → Prop}

theorem btInt (hl : l.length ≤ 10 * big) (i : Nat) (hp : p + i < l.length) :
    IntKind.wrap .i64 ((p : Int) + (i : Int)) = ((p + i : Nat) : Int) := by
  unfold big at hl
  rw [wrap64 (by omega) (by omega)]; simp

theorem btGet (i : Nat) : ((List.getD (Array.toList (ByteArray.data (B l))) (p + i) 0).toNat : Int) = (bt l p i : Nat) := rfl

def nOf (b0 : Nat) : Nat := if 194 ≤ b0 ∧ b0 ≤ 223 then 2 else if 224 ≤ b0 ∧ b0 ≤ 239 then 3 else if 240 ≤ b0 ∧ b0 ≤ 244 then 4 else 0

theorem nOf_cases (b0 : Nat) : (nOf b0 = 2 ∧ 194 ≤ b0 ∧ b0 ≤ 223) ∨ (nOf b0 = 3 ∧ 224 ≤ b0 ∧ b0 ≤ 239) ∨ (nOf b0 = 4 ∧ 240 ≤ b0 ∧ b0 ≤ 244) ∨ (nOf b0 = 0 ∧ ¬ (194 ≤ b0 ∧ b0 ≤ 244)) := by
  unfold nOf
  repeat' split
  all_goals omega

theorem wide_short (h : l.length - p < nOf (bt l p 0) ∨ nOf (bt l p 0) = 0) : wideM l p = 0 := by
  have := nOf_cases (bt l p 0)
  unfold wideM wideC
  repeat' split
  all_goals omega

theorem wide_bad {i : Nat} (h1 : 1 ≤ i) (h2 : i < nOf (bt l p 0)) (h : bt l p i < 128 ∨ 191 < bt l p i) : wideM l p = 0 := by
  have := nOf_cases (bt l p 0)
  have hi : i = 1 ∨ i = 2 ∨ i = 3 := by omega
  unfold wideM wideC
  rcases hi with rfl | rfl | rfl <;> repeat' split
  all_goals omega

theorem wideC_no {a b0 b1 b2 b3 : Nat} (h : (b0 = 224 ∧ b1 < 160) ∨ (b0 = 237 ∧ 159 < b1) ∨ (b0 = 240 ∧ b1 < 144) ∨ (b0 = 244 ∧ 143 < b1)) : wideC a b0 b1 b2 b3 = 0 := by
  unfold wideC
  repeat' split
  all_goals omega

theorem wideC_yes {a n b0 b1 b2 b3 : Nat} (hcs : (n = 2 ∧ 194 ≤ b0 ∧ b0 ≤ 223) ∨ (n = 3 ∧ 224 ≤ b0 ∧ b0 ≤ 239) ∨ (n = 4 ∧ 240 ≤ b0 ∧ b0 ≤ 244)) (ha : n ≤ a) (hc1 : 128 ≤ b1 ∧ b1 ≤ 191) (hc2 : 2 < n → 128 ≤ b2 ∧ b2 ≤ 191) (hc3 : 3 < n → 128 ≤ b3 ∧ b3 ≤ 191)
    (k1 : ¬ (b0 = 224 ∧ b1 < 160)) (k2 : ¬ (b0 = 237 ∧ 159 < b1)) (k3 : ¬ (b0 = 240 ∧ b1 < 144)) (k4 : ¬ (b0 = 244 ∧ 143 < b1)) : wideC a b0 b1 b2 b3 = n := by
  unfold wideC
  rcases hcs with ⟨rfl, g1, g2⟩ | ⟨rfl, g1, g2⟩ | ⟨rfl, g1, g2⟩
  · rw [if_pos ⟨g1, g2⟩, if_pos ⟨ha, hc1⟩]
  · rw [if_neg (by omega), if_pos ⟨g1, g2⟩, if_pos ⟨ha, hc1, hc2 (by omega), k1, k2⟩]
  · rw [if_neg (by omega), if_neg (by omega), if_pos ⟨g1, g2⟩, if_pos ⟨ha, hc1, hc2 (by omega), hc3 (by omega), k3, k4⟩]

theorem w16 (hl : l.length ≤ 10 * big) (hn : nOf (bt l p 0) ≠ 0) (hp : p + nOf (bt l p 0) ≤ l.length) (hc : ∀ i, 1 ≤ i → i < nOf (bt l p 0) → 128 ≤ bt l p i ∧ bt l p i ≤ 191) (h : Post (.int .i64 (wideM l p : Nat)) []) :
    AWP Try.prog 96 0 c109_16 [(0, .str (B l)), (1, .int .i64 p), (5, .int .i64 (nOf (bt l p 0) : Nat)), (6, .int .i64 (bt l p 0 : Nat))] [] (q109_0 0 Post) := by
  have hcs := nOf_cases (bt l p 0)
  have h256 := bt_lt l p 1
  have e1 : IntKind.wrap .i64 ((p : Int) + 1) = ((p + 1 : Nat) : Int) := by unfold big at hl; rw [wrap64 (by omega) (by omega)]; simp
  have hc1 := hc 1 (by omega) (by omega)
  have hc2 : 2 < nOf (bt l p 0) → 128 ≤ bt l p 2 ∧ bt l p 2 ≤ 191 := hc 2 (by omega)
  have hc3 : 3 < nOf (bt l p 0) → 128 ≤ bt l p 3 ∧ bt l p 3 ≤ 191 := hc 3 (by omega)
  have hcs3 : (nOf (bt l p 0) = 2 ∧ 194 ≤ bt l p 0 ∧ bt l p 0 ≤ 223) ∨ (nOf (bt l p 0) = 3 ∧ 224 ≤ bt l p 0 ∧ bt l p 0 ≤ 239) ∨ (nOf (bt l p 0) = 4 ∧ 240 ≤ bt l p 0 ∧ bt l p 0 ≤ 244) := by omega
  have fin0 : (bt l p 0 = 224 ∧ bt l p 1 < 160) ∨ (bt l p 0 = 237 ∧ 159 < bt l p 1) ∨ (bt l p 0 = 240 ∧ bt l p 1 < 144) ∨ (bt l p 0 = 244 ∧ 143 < bt l p 1) → Post (.int .i64 0) [] := by
    intro hh
    have := wideC_no (a := l.length - p) (b2 := bt l p 2) (b3 := bt l p 3) hh
    unfold wideM at h
    rw [this] at h
    exact h
  have finn : ¬ (bt l p 0 = 224 ∧ bt l p 1 < 160) → ¬ (bt l p 0 = 237 ∧ 159 < bt l p 1) → ¬ (bt l p 0 = 240 ∧ bt l p 1 < 144) → ¬ (bt l p 0 = 244 ∧ 143 < bt l p 1) → Post (.int .i64 (nOf (bt l p 0) : Nat)) [] := by
    intro k1 k2 k3 k4
    have := wideC_yes (a := l.length - p) (b2 := bt l p 2) (b3 := bt l p 3) hcs3 (by omega) hc1 hc2 hc3 k1 k2 k3 k4
    unfold wideM at h
    rw [this] at h
    exact h
  have hn2 : 2 ≤ nOf (bt l p 0) := by omega
  clear hc hcs hcs3 hc2 hc3 h
  refine v109_16 _ _ _ _ _ _ ?_
  rw [e1, Int.toNat_natCast, btGet 1, wrapN (n := bt l p 1) (by omega)]
  refine needJ ⟨by omega, by rw [B_size]; omega⟩ ?_
  generalize nOf (bt l p 0) = n at *
  generalize bt l p 0 = b0 at *
  generalize bt l p 1 = b1 at *
  repeat' (first | refine condD (fun _ => ?_) fun _ => ?_ | refine condE (fun _ => ?_) fun _ => ?_)
  all_goals first
    | exact fin0 (by omega)
    | exact finn (by omega) (by omega) (by omega) (by omega)

theorem w12 (hl : l.length ≤ 10 * big) (hn : nOf (bt l p 0) ≠ 0) (hp : p + nOf (bt l p 0) ≤ l.length) (h : Post (.int .i64 (wideM l p : Nat)) []) :
    ∀ (m i : Nat), m + i = nOf (bt l p 0) → 1 ≤ i → (∀ j, 1 ≤ j → j < i → 128 ≤ bt l p j ∧ bt l p j ≤ 191) →
    AWP Try.prog 96 0 c109_12 [(0, .str (B l)), (1, .int .i64 p), (5, .int .i64 (nOf (bt l p 0) : Nat)), (6, .int .i64 (bt l p 0 : Nat)), (7, .int .i64 i)] [] (q109_2 0 Post) := by
  have hcs := nOf_cases (bt l p 0)
  intro m
  induction m with
  | zero =>
    intro i hm h1 hc
    refine v109_12 _ _ _ _ _ _ _ (condD (fun hi => by omega) fun _ => w16 hl hn hp (fun j a b => hc j a (by omega)) h)
  | succ m ih =>
    intro i hm h1 hc
    have e1 := btInt (p := p) hl i (by omega)
    refine v109_12 _ _ _ _ _ _ _ (condD (fun hi => ?_) fun hi => by omega)
    rw [e1, Int.toNat_natCast, btGet i]
    refine needJ ⟨by omega, by rw [B_size]; omega⟩ (condD (fun hb => ?_) fun hb => needJ ⟨by omega, by rw [B_size]; omega⟩ (condD (fun hb2 => ?_) fun hb2 => ?_))
    · rw [wide_bad (l := l) (p := p) h1 (by omega) (.inl (by omega))] at h; exact h
    · rw [wide_bad (l := l) (p := p) h1 (by omega) (.inr (by omega))] at h; exact h
    · rw [show IntKind.wrap .i64 ((i : Int) + 1) = ((i + 1 : Nat) : Int) by rw [wrap64 (by omega) (by omega)]; simp]
      refine ih (i + 1) (by omega) (by omega) (fun j a b => ?_)
      by_cases e : j = i
      · subst e; omega
      · exact hc j a (by omega)

theorem w9 (hl : l.length ≤ 10 * big) (hp : p < l.length) (h : Post (.int .i64 (wideM l p : Nat)) []) :
    AWP Try.prog 96 0 c109_9 [(0, .str (B l)), (1, .int .i64 p), (5, .int .i64 (nOf (bt l p 0) : Nat)), (6, .int .i64 (bt l p 0 : Nat))] [] (q109_0 0 Post) := by
  have hcs := nOf_cases (bt l p 0)
  have hl' := hl
  unfold big at hl'
  refine v109_9 _ _ _ _ _ _ (condE (fun e => ?_) fun e => ?_)
  · rw [wide_short (l := l) (p := p) (.inr (by omega))] at h; exact h
  rw [B_size, wrap64 (x := (l.length : Int) - (p : Int)) (by omega) (by omega)]
  refine condD (fun e2 => ?_) fun e2 => ?_
  · rw [wide_short (l := l) (p := p) (.inl (by omega))] at h; exact h
  · refine v109_11 _ _ _ _ _ _ ?_
    exact w12 hl (by omega) (by omega) h (nOf (bt l p 0) - 1) 1 (by omega) (by omega) (fun j a b => by omega)

theorem wide_spec0 (hl : l.length ≤ 10 * big) (hp : p < l.length) : ASpec Try.prog 109 [.str (B l), .int .i64 p] [] (fun r H' => r = .int .i64 (wideM l p : Nat) ∧ H' = []) := by
  have h256 := bt_lt l p 0
  have hcs := nOf_cases (bt l p 0)
  have k9 : ∀ n : Int, n = (nOf (bt l p 0) : Nat) → AWP Try.prog 96 0 c109_9 [(0, .str (B l)), (1, .int .i64 p), (5, .int .i64 n), (6, .int .i64 (bt l p 0 : Nat))] [] (q109_0 0 (fun r H' => r = .int .i64 (wideM l p : Nat) ∧ H' = [])) := by
    intro n e; subst e; exact w9 hl hp ⟨rfl, rfl⟩
  refine s109 _ _ _ (needJ ⟨by omega, by rw [B_size]; omega⟩ ?_)
  rw [Int.toNat_natCast, show ((List.getD (Array.toList (ByteArray.data (B l))) p 0).toNat : Int) = (bt l p 0 : Nat) from rfl, wrapN (n := bt l p 0) (by omega)]
  generalize nOf (bt l p 0) = n at *
  generalize bt l p 0 = b0 at *
  have k7 : ∀ m : Int, m = (if 240 ≤ b0 ∧ b0 ≤ 244 then m else (n : Int)) → AWP Try.prog 96 0 c109_7 [(0, .str (B l)), (1, .int .i64 p), (5, .int .i64 m), (6, .int .i64 (b0 : Nat))] [] (q109_0 0 (fun r H' => r = .int .i64 (wideM l p : Nat) ∧ H' = [])) := by
    intro m hm
    refine v109_7 _ _ _ _ _ _ (condD (fun _ => condD (fun _ => k9 _ (by omega)) fun _ => k9 _ ?_) fun _ => k9 _ ?_)
    · rw [if_neg (by omega)] at hm; exact hm
    · rw [if_neg (by omega)] at hm; exact hm
  have k5 : ∀ m : Int, m = (if 224 ≤ b0 ∧ b0 ≤ 244 then m else (n : Int)) → AWP Try.prog 96 0 c109_5 [(0, .str (B l)), (1, .int .i64 p), (5, .int .i64 m), (6, .int .i64 (b0 : Nat))] [] (q109_0 0 (fun r H' => r = .int .i64 (wideM l p : Nat) ∧ H' = [])) := by
    intro m hm
    refine v109_5 _ _ _ _ _ _ (condD (fun _ => condD (fun _ => k7 _ ?_) fun _ => k7 _ ?_) fun _ => k7 _ ?_)
    · rw [if_neg (by omega)]; omega
    · split
      · rfl
      · rw [if_neg (by omega)] at hm; exact hm
    · split
      · rfl
      · rw [if_neg (by omega)] at hm; exact hm
  refine condD (fun _ => condD (fun _ => k5 _ ?_) fun _ => k5 _ ?_) fun _ => k5 _ ?_
  · rw [if_neg (by omega)]; omega
  · split
    · rfl
    · omega
  · split
    · rfl
    · omega

theorem wide_spec (hl : l.length ≤ 10 * big) (hp : p < l.length) (H : List AObj) : ASpec Try.prog 109 [.str (B l), .int .i64 p] H (fun r H' => r = .int .i64 (wideM l p : Nat) ∧ H' = H) :=
  ASpec.pureH H (wide_spec0 hl hp) _ _ rfl rfl

end
end S
end

section
/- Which names may be: the code's walk and the document's. -/

set_option linter.unusedVariables false
set_option linter.unusedSimpArgs false
set_option maxRecDepth 100000
open Go Go.Ab Go.Proofs V
namespace S
theorem condBn {b : Bool} {A C : Prop} (h1 : b = false → A) (h2 : b = true → C) : condP (!b) A C := by cases b <;> simp_all [condP]
section
variable {l : List UInt8} {p : Nat}

def foldx (l : List UInt8) (p : Nat) : Nat → Nat → Nat → Nat
  | 0, _, x => x
  | m + 1, i, x => foldx l p m (i + 1) (x * 64 + bt l p i % 64)

theorem u12 {Post : AV → List AObj → Prop} (hl : l.length ≤ 10 * big) {n : Nat} (hn : n ≤ 4) (hp : p + n ≤ l.length) : ∀ (m i x : Nat), m + i = n → x < 64 ^ i → Post (.tup [.int .i64 (foldx l p m i x : Nat), .int .i64 n]) [] →
    AWP Try.prog 58 0 c74_12 [(0, .str (B l)), (1, .int .i64 p), (6, .int .i64 n), (7, .int .i64 x), (8, .int .i64 i)] [] (q74_2 0 Post) := by
  intro m
  induction m with
  | zero =>
    intro i x hm hx h
    exact v74_12 _ _ _ _ _ _ _ (condD (fun hi => by omega) fun _ => h)
  | succ m ih =>
    intro i x hm hx h
    have e1 := btInt (p := p) hl i (by omega)
    have h256 := bt_lt l p i
    have h4 : (64 : Nat) ^ i ≤ 64 ^ 4 := Nat.pow_le_pow_right (by omega) (by omega)
    have e4 : (64 : Nat) ^ 4 = 16777216 := by decide
    have hn := ih (i + 1) (x * 64 + bt l p i % 64) (by omega) (by rw [Nat.pow_succ]; omega) h
    refine v74_12 _ _ _ _ _ _ _ (condD (fun hi => ?_) fun hi => by omega)
    rw [e1, Int.toNat_natCast, btGet i]
    refine needJ ⟨by omega, by rw [B_size]; omega⟩ (needJ (by decide) ?_)
    generalize bt l p i = b at h256 hn ⊢
    have m64 : Int.tmod (b : Int) 64 = ((b % 64 : Nat) : Int) := tmodN b 64
    rw [wrapN (n := b) (by omega), m64, wrap64 (x := (x : Int) * 64) (by omega) (by omega), wrap64 (x := (x : Int) * 64 + ((b % 64 : Nat) : Int)) (by omega) (by omega)]
    rw [show IntKind.wrap .i64 ((i : Int) + 1) = ((i + 1 : Nat) : Int) by rw [wrap64 (by omega) (by omega)]; simp]
    rw [show (x : Int) * 64 + ((b % 64 : Nat) : Int) = ((x * 64 + b % 64 : Nat) : Int) by simp]
    exact hn

theorem rune_spec0 (hl : l.length ≤ 10 * big) (hp : p < l.length) :
    ASpec Try.prog 74 [.str (B l), .int .i64 p] [] (fun r H' => r = .tup [.int .i64 ((runeM l p).1 : Nat), .int .i64 ((runeM l p).2 : Nat)] ∧ H' = []) := by
  have h256 := bt_lt l p 0
  have hin : (0 : Int) ≤ (p : Int) ∧ (p : Int) < ((B l).size : Int) := ⟨by omega, by rw [B_size]; omega⟩
  have hcs := wideM_cases l p
  have hR : runeM l p = runeC (wideM l p) (bt l p 0) (bt l p 1) (bt l p 2) (bt l p 3) := rfl
  refine s74 _ _ _ (needJ hin ?_)
  rw [Int.toNat_natCast, show ((List.getD (Array.toList (ByteArray.data (B l))) p 0).toNat : Int) = (bt l p 0 : Nat) from rfl, wrapN (n := bt l p 0) (by omega)]
  have m32 : Int.tmod (bt l p 0 : Nat) 32 = ((bt l p 0 % 32 : Nat) : Int) := tmodN _ 32
  have m16 : Int.tmod (bt l p 0 : Nat) 16 = ((bt l p 0 % 16 : Nat) : Int) := tmodN _ 16
  have m8 : Int.tmod (bt l p 0 : Nat) 8 = ((bt l p 0 % 8 : Nat) : Int) := tmodN _ 8
  refine condD (fun hc => needJ hin ?_) fun hc => ?_
  · rw [hR, runeC, if_pos (by omega)]
    exact ⟨rfl, rfl⟩
  refine ASpec.call (wide_spec hl hp []) (Les.refl _) ⟨_, rfl, rfl, condE (fun h0 => ?_) fun h0 => needJ hin (needJ (by decide) ?_)⟩
  · rw [hR, runeC, if_neg (by omega), if_pos (by omega)]
    exact ⟨rfl, rfl⟩
  have key : ∀ (n x0 : Nat), n = wideM l p → x0 < 64 → foldx l p (n - 1) 1 x0 = (runeM l p).1 → n = (runeM l p).2 →
      AWP Try.prog 58 0 c74_11 [(0, .str (B l)), (1, .int .i64 p), (6, .int .i64 n), (7, .int .i64 x0)] [] (q74_0 0 (fun r H' => r = .tup [.int .i64 ((runeM l p).1 : Nat), .int .i64 ((runeM l p).2 : Nat)] ∧ H' = [])) := by
    intro n x0 hn hx e1 e2
    refine v74_11 _ _ _ _ _ _ (u12 hl (n := n) (by omega) (by omega) (n - 1) 1 x0 (by omega) hx ?_)
    rw [e1, e2]
    exact ⟨rfl, rfl⟩
  refine condE (fun h3 => needJ hin (needJ (by decide) ?_)) fun h3 => ?_
  · have hw : wideM l p = 3 := by omega
    rw [m16]
    refine v74_9 _ _ _ _ _ _ (condE (fun h => by omega) fun _ => key _ _ rfl (by omega) ?_ ?_)
    · rw [hR, runeC, if_neg (by omega), if_neg (by omega), if_neg (by omega), if_pos hw, hw]; rfl
    · rw [hR, runeC, if_neg (by omega), if_neg (by omega), if_neg (by omega), if_pos hw, hw]
  · rw [m32]
    refine v74_9 _ _ _ _ _ _ (condE (fun h => needJ hin (needJ (by decide) ?_)) fun h => key _ _ rfl (by omega) ?_ ?_)
    · have hw : wideM l p = 4 := by omega
      rw [Int.toNat_natCast, show ((List.getD (Array.toList (ByteArray.data (B l))) p 0).toNat : Int) = (bt l p 0 : Nat) from rfl, wrapN (n := bt l p 0) (by omega), m8]
      refine key _ _ rfl (by omega) ?_ ?_
      · rw [hR, runeC, if_neg (by omega), if_neg (by omega), if_neg (by omega), if_neg (by omega), hw]; rfl
      · rw [hR, runeC, if_neg (by omega), if_neg (by omega), if_neg (by omega), if_neg (by omega), hw]
    · have hw : wideM l p = 2 := by omega
      rw [hR, runeC, if_neg (by omega), if_neg (by omega), if_pos hw, hw]; rfl
    · have hw : wideM l p = 2 := by omega
      rw [hR, runeC, if_neg (by omega), if_neg (by omega), if_pos hw, hw]

theorem rune_spec (hl : l.length ≤ 10 * big) (hp : p < l.length) (H : List AObj) :
    ASpec Try.prog 74 [.str (B l), .int .i64 p] H (fun r H' => r = .tup [.int .i64 ((runeM l p).1 : Nat), .int .i64 ((runeM l p).2 : Nat)] ∧ H' = H) :=
  ASpec.pureH H (rune_spec0 hl hp) _ _ rfl rfl

/-! ### all runes -/

def runesF : Nat → List UInt8 → Nat → List Int
  | 0, _, _ => []
  | f + 1, l, p => if p < l.length then ((runeM l p).1 : Int) :: runesF f l (p + (runeM l p).2) else []
def runesM (l : List UInt8) : List Int := runesF l.length l 0

theorem leAppI {l : List Int} {x : Int} {H : List AObj} : Le (.sl 1 (.app (.map encI 0 l) (.raw [[.int .i64 x]])) (.tok 1)) (AV.ren (selR [1] H.length) (.sl 1 (.map encI 0 (l ++ [x])) (.tok 0))) := by
  refine Le.sl ?_ (.inl rfl) (.inl rfl)
  simp [Ab.Seq.toList, Seq.ren, encI, renL, AV.ren]

theorem runes3 {Post : AV → List AObj → Prop} (hl : l.length ≤ 1000000) : ∀ (f p : Nat) (acc : List Int), l.length - p ≤ f → acc.length ≤ p → p ≤ l.length + 4 → Post (.sl 1 (.map encI 0 (acc ++ runesF f l p)) (.tok 0)) [.tok] →
    AWP Try.prog 25 0 c55_3 [(0, .str (B l)), (3, .sl 1 (.map encI 0 acc) (.tok 0)), (4, .int .i64 p)] [.tok] (q55_2 0 Post) := by
  intro f
  induction f with
  | zero =>
    intro p acc hf ha hp h
    refine v55_3 _ _ _ _ _ (condD (fun hc => by rw [B_size] at hc; omega) fun _ => ?_)
    simpa [runesF] using h
  | succ f ih =>
    intro p acc hf ha hp h
    refine v55_3 _ _ _ _ _ (condD (fun hc => ?_) fun hc => ?_)
    · rw [B_size] at hc
      have hpl : p < l.length := by omega
      have hw := runeM_width l p
      refine ASpec.call (rune_spec (by unfold big; omega) hpl _) (Les.refl _) ⟨(((runeM l p).1 : Int), ((runeM l p).2 : Int)), rfl, rfl, needJ (by omega) ?_⟩
      rw [show IntKind.wrap .i64 ((p : Int) + ((runeM l p).2 : Int)) = ((p + (runeM l p).2 : Nat) : Int) by rw [wrap64 (by omega) (by omega)]; simp]
      refine AWP.shape [1] [(0, .str (B l)), (3, .sl 1 (.map encI 0 (acc ++ [((runeM l p).1 : Int)])) (.tok 0)), (4, .int .i64 (p + (runeM l p).2 : Nat))] _ selTok ⟨rfl, Le.refl _, rfl, leAppI, rfl, Le.refl _, trivial⟩ (ih (p + (runeM l p).2) (acc ++ [((runeM l p).1 : Int)]) (by omega) (by simp; omega) (by omega) ?_)
      simp only [runesF, if_pos hpl] at h
      simpa using h
    · rw [B_size] at hc
      simp only [runesF, if_neg (show ¬ p < l.length by omega)] at h
      simpa using h

theorem runes_spec (hl : l.length ≤ 1000000) (H : List AObj) : ASpec Try.prog 55 [.str (B l)] H (fun r H' => r = .sl 1 (.map encI 0 (runesM l)) .none ∧ H' = H) := by
  have k : ASpec Try.prog 55 [.str (B l)] [] (fun r H' => r = .sl 1 (.map encI 0 (runesM l)) .none ∧ H' = []) := by
    refine ASpec.sel (s55 _ _ ?_)
    refine AWP.re (ReSt.tok (k := 3) (q' := .map encI 0 []) (sz' := 1) (s2 := [(0, .str (B l)), (3, .sl 1 (.map encI 0 []) (.tok 0)), (4, .int .i64 0)]) rfl (.inl rfl) rfl (.inr rfl) (fun d hd => ?_) rfl) ?_
    · simp only [Ab.get]
      have e : Nat.beq 3 d = false := by
        cases hx : Nat.beq 3 d with
        | false => rfl
        | true => exact absurd (Nat.eq_of_beq_eq_true hx).symm hd
      rw [e]; rfl
    · refine runes3 hl l.length 0 [] (by omega) (by simp) (by omega) ?_
      refine ⟨[], [], .sl 1 (.map encI 0 (runesM l)) .none, Sel.none, ?_, rfl, rfl⟩
      exact Le.sl (s' := Seq.ren _ (.map encI 0 (runesM l))) (by simp [Ab.Seq.toList, Seq.ren, encI, renL, AV.ren, runesM]) (.inl rfl) (.inr rfl)
  exact ASpec.pureH H k _ _ rfl rfl

/-! ### names -/

def fitF (n : Nat) : List Int → Bool
  | [] => decide (0 < n)
  | c :: r => if 3 < kindM c ∨ (n = 0 ∧ 1 < kindM c) ∨ n = 12 then false else fitF (n + 1) r

def fitM (l : List UInt8) : Bool := fitF 0 (runesM l)

theorem fit3 {Post : AV → List AObj → Prop} (hl : l.length ≤ 10 * big) : ∀ (f p n : Nat), l.length - p ≤ f → n ≤ 12 → (∀ q, Post (.bool (fitF n (runesF f l p))) [.siter (B l) q]) →
    AWP Try.prog 32 0 c47_3 [(3, .int .i64 n), (8, .ptr 0 0)] [.siter (B l) p] (q47_2 0 Post) := by
  intro f
  induction f with
  | zero =>
    intro p n hf hn h
    refine v47_3 _ _ _ _ _ (condD (fun hc => by rw [B_size] at hc; omega) fun _ => ?_)
    have := h p
    simp only [runesF, fitF] at this
    rw [show decide ((n : Int) > 0) = decide (0 < n) from decide_eq_decide.2 (by omega)]
    exact this
  | succ f ih =>
    intro p n hf hn h
    refine v47_3 _ _ _ _ _ (condD (fun hc => ?_) fun hc => ?_)
    · rw [B_size] at hc
      rw [decode_eq l p hc]
      have hw := runeM_width l p
      simp only [runesF, if_pos hc, fitF] at h
      refine ASpec.call (kind_spec _ _) (Les.refl _) ⟨_, rfl, rfl, ?_⟩
      generalize kindM ((runeM l p).1 : Nat) = k at h ⊢
      have no : (3 < k ∨ (n = 0 ∧ 1 < k) ∨ n = 12) → Post (.bool false) [.siter (B l) (p + (runeM l p).2)] := by
        intro hh
        have := h (p + (runeM l p).2)
        rw [if_pos hh] at this
        exact this
      have yes : ¬ (3 < k ∨ (n = 0 ∧ 1 < k) ∨ n = 12) → AWP Try.prog 32 0 c47_3 [(3, .int .i64 (IntKind.wrap .i64 ((n : Int) + 1))), (8, .ptr 0 0)] [.siter (B l) (p + (runeM l p).2)] (q47_2 0 Post) := by
        intro hh
        rw [show IntKind.wrap .i64 ((n : Int) + 1) = ((n + 1 : Nat) : Int) by rw [wrap64 (by omega) (by omega)]; simp]
        refine ih (p + (runeM l p).2) (n + 1) (by omega) (by omega) (fun q => ?_)
        have := h q
        rw [if_neg hh] at this
        exact this
      refine condD (fun h1 => no (.inl h1)) fun h1 => condE (fun h2 => condD (fun h3 => no (.inr (.inl ⟨by omega, h3⟩))) fun h3 => condE (fun h4 => no (.inr (.inr (by omega)))) fun h4 => yes (by omega)) fun h2 => condE (fun h4 => no (.inr (.inr (by omega)))) fun h4 => yes (by omega)
    · rw [B_size] at hc
      have := h p
      simp only [runesF, if_neg hc, fitF] at this
      rw [show decide ((n : Int) > 0) = decide (0 < n) from decide_eq_decide.2 (by omega)]
      exact this

theorem fit_spec (hl : l.length ≤ 10 * big) (H : List AObj) : ASpec Try.prog 47 [.str (B l)] H (fun r H' => r = .bool (fitM l) ∧ H' = H) := by
  have k : ASpec Try.prog 47 [.str (B l)] [] (fun r H' => r = .bool (fitM l) ∧ H' = []) := by
    refine ASpec.sel (s47 _ _ (fit3 hl l.length 0 0 (by omega) (by omega) (fun q => ⟨[], [], .bool (fitM l), Sel.none, Le.refl _, rfl, rfl⟩)))
  exact ASpec.pureH H k _ _ rfl rfl

theorem fitF_short (hl : True) : ∀ (f p n : Nat), l.length - p ≤ f → n ≤ 12 → fitF n (runesF f l p) = true → l.length - p ≤ 2 * (12 - n) := by
  intro f
  induction f with
  | zero => intro p n hf hn h; omega
  | succ f ih =>
    intro p n hf hn h
    by_cases hc : p < l.length
    · simp only [runesF, if_pos hc, fitF] at h
      split at h
      · cases h
      rename_i hh
      have hw := runeM_small (l := l) (p := p) (by omega)
      have := ih (p + (runeM l p).2) (n + 1) (by have := runeM_width l p; omega) (by omega) h
      omega
    · omega

theorem fitM_short (h : fitM l = true) : l.length ≤ 24 := by
  have := fitF_short (l := l) trivial l.length 0 0 (by omega) (by omega) h
  omega

/-- the document's: by places in a list -/
def fitD (i : Nat) : List Int → Bool
  | [] => true
  | c :: r => if kindM c = 4 ∨ (i = 0 ∧ 1 < kindM c) then false else fitD (i + 1) r

theorem fitF_fitD : ∀ (r : List Int) (i : Nat), i ≤ 12 → fitF i r = (fitD i r && decide (1 ≤ i + r.length) && decide (i + r.length ≤ 12))
  | [], i, hi => by
    simp only [fitF, fitD, List.length_nil, Nat.add_zero, Bool.true_and]
    rw [Bool.eq_iff_iff]; simp; omega
  | c :: r, i, hi => by
    have hk := kindM_range c
    simp only [fitF, fitD, List.length_cons]
    by_cases h1 : kindM c = 4 ∨ (i = 0 ∧ 1 < kindM c)
    · rw [if_pos h1, if_pos (by omega)]; rfl
    · rw [if_neg h1]
      by_cases h2 : i = 12
      · rw [if_pos (by omega)]
        rw [Bool.eq_iff_iff]; simp; omega
      · rw [if_neg (by omega), fitF_fitD r (i + 1) (by omega), show i + 1 + r.length = i + (r.length + 1) by omega]

theorem rfit5 {ls : List Int} {Post : AV → List AObj → Prop} (hl : ls.length ≤ 1000000) : ∀ (m i : Nat), m + i = ls.length → Post (.bool (fitD i (ls.drop i) && (decide (1 ≤ ls.length) && decide (ls.length ≤ 12)))) [] →
    AWP Try.prog 42 0 c35_5 [(3, .sl 1 (.map encI 0 ls) .none), (4, .int .i64 i)] [] (q35_2 0 Post) := by
  intro m
  induction m with
  | zero =>
    intro i hm h
    refine v35_5 _ _ _ _ (condD (fun hc => by omega) fun _ => ?_)
    rw [List.drop_eq_nil_of_le (by omega)] at h
    simp only [fitD, Bool.true_and] at h
    refine condD (fun h1 => ?_) fun h1 => ?_
    · rw [decide_eq_true (show 1 ≤ ls.length by omega), Bool.true_and] at h
      rw [show decide ((ls.length : Int) ≤ 12) = decide (ls.length ≤ 12) from decide_eq_decide.2 (by omega)]
      exact h
    · rw [decide_eq_false (show ¬ 1 ≤ ls.length by omega), Bool.false_and] at h
      exact h
  | succ m ih =>
    intro i hm h
    refine v35_5 _ _ _ _ (condD (fun hc => needJ ⟨by omega, by omega⟩ ?_) fun hc => by omega)
    rw [Int.toNat_natCast]
    have hg : ls.drop i = ls.getD i 0 :: ls.drop (i + 1) := by
      rw [List.drop_eq_getElem_cons (by omega)]
      simp [List.getD, List.getElem?_eq_getElem (show i < ls.length by omega)]
    rw [hg] at h
    simp only [fitD] at h
    generalize ls.getD i 0 = c at h ⊢
    have hn : ¬ (kindM c = 4 ∨ (i = 0 ∧ 1 < kindM c)) → AWP Try.prog 42 0 c35_5 [(3, .sl 1 (.map encI 0 ls) .none), (4, .int .i64 (IntKind.wrap .i64 ((i : Int) + 1)))] [] (q35_2 0 Post) := by
      intro hh
      rw [if_neg hh] at h
      rw [show IntKind.wrap .i64 ((i : Int) + 1) = ((i + 1 : Nat) : Int) by rw [wrap64 (by omega) (by omega)]; simp]
      exact ih (i + 1) (by omega) h
    have hy : (kindM c = 4 ∨ (i = 0 ∧ 1 < kindM c)) → Post (.bool false) [] := by
      intro hh
      rw [if_pos hh] at h
      simpa using h
    refine ASpec.call (rkind_spec c []) (Les.refl _) ⟨_, rfl, rfl, condE (fun h1 => hy (.inl h1)) fun h1 => condE (fun h2 => needJ ⟨by omega, by omega⟩ ?_) fun h2 => hn (by omega)⟩
    refine ASpec.call (rkind_spec c []) (Les.refl _) ⟨_, rfl, rfl, condD (fun h3 => hy (.inr ⟨by omega, h3⟩)) fun h3 => hn (by omega)⟩

theorem runesF_len : ∀ (f p : Nat), (runesF f l p).length ≤ f
  | 0, p => by simp [runesF]
  | f + 1, p => by
    simp only [runesF]
    split
    · have := runesF_len f (p + (runeM l p).2)
      simp; omega
    · simp

theorem rfit_spec (hl : l.length ≤ 10 * big) (H : List AObj) : ASpec Try.prog 35 [.str (B l)] H (fun r H' => r = .bool (fitM l) ∧ H' = H) := by
  have k : ASpec Try.prog 35 [.str (B l)] [] (fun r H' => r = .bool (fitM l) ∧ H' = []) := by
    refine s35 _ _ ?_
    rw [B_size]
    refine condD (fun h1 => ?_) fun h1 => ?_
    · have : fitM l = false := by
        cases h : fitM l with
        | false => rfl
        | true => have := fitM_short h; omega
      rw [this]; exact ⟨rfl, rfl⟩
    · have hlen := runesF_len (l := l) l.length 0
      refine ASpec.call (runes_spec (by omega) []) (Les.refl _) ⟨_, rfl, rfl, rfit5 (ls := runesM l) (by unfold runesM; omega) (runesM l).length 0 (by omega) ?_⟩
      unfold fitM
      rw [fitF_fitD _ 0 (by omega), List.drop_zero, Nat.zero_add, Bool.and_assoc]
      exact ⟨rfl, rfl⟩
  exact ASpec.pureH H k _ _ rfl rfl

end
end S
end

section
/- Which spans, needs and manifests may be: the code's walks and the document's. -/

set_option linter.unusedVariables false
set_option linter.unusedSimpArgs false
set_option maxRecDepth 100000
open Go Go.Ab Go.Proofs V S T
namespace C

/-- the answer c, whatever lies in the heap -/
abbrev PB (c : Bool) : AV → List AObj → Prop := fun r H' => ∃ l H2 r2, Sel 0 l H' H2 ∧ Le r (AV.ren (selR l H'.length) r2) ∧ (r2 = .bool c ∧ H2 = [])
theorem pb {b c : Bool} {H' : List AObj} (h : b = c) : PB c (.bool b) H' := ⟨[], [], .bool c, Sel.none, h ▸ Le.refl _, rfl, rfl⟩

theorem dropD {α : Type} (l : List α) (d : α) (i : Nat) (h : i < l.length) : l.drop i = l.getD i d :: l.drop (i + 1) := by
  rw [List.drop_eq_getElem_cons h]
  simp [List.getD, List.getElem?_eq_getElem h]

theorem memD {α : Type} (l : List α) (d : α) (i : Nat) (h : i < l.length) : l.getD i d ∈ l := by
  simp [List.getD, List.getElem?_eq_getElem h]

theorem succ64 {i : Nat} (h : i ≤ 10000000) : IntKind.wrap .i64 ((i : Int) + 1) = ((i + 1 : Nat) : Int) := by rw [wrap64 (by omega) (by omega)]; simp
theorem pred64 {i : Nat} (h : i ≤ 10000000) (h1 : 0 < i) : IntKind.wrap .i64 ((i : Int) - 1) = ((i - 1 : Nat) : Int) := by rw [wrap64 (by omega) (by omega)]; omega

abbrev lim : Nat := 1000000

/-! ### spans -/

def chkS (e : Int) : List Span → Bool
  | [] => true
  | x :: r => if x.1 ≤ e ∨ x.2 ≤ x.1 ∨ 1000000000 < x.2 then false else chkS x.2 r
def spanOk (l : List Span) : Bool := chkS (-1) l

theorem chk3 {l : List Span} {c : Bool} (hl : l.length ≤ lim) : ∀ (m i : Nat) (e : Int), m + i = l.length → chkS e (l.drop i) = c →
    AWP Try.prog 31 0 c135_3 [(3, .int .i64 e), (6, .sl 2 (.map encS (0, 0) l) .none), (7, .int .i64 l.length), (8, .int .i64 i)] [] (q135_2 0 (PB c)) := by
  intro m
  induction m with
  | zero =>
    intro i e hm h
    refine v135_3 _ _ _ _ _ _ (condD (fun hc => by omega) fun _ => pb ?_)
    rw [List.drop_eq_nil_of_le (by omega)] at h
    exact h
  | succ m ih =>
    intro i e hm h
    rw [dropD l (0, 0) i (by omega)] at h
    simp only [chkS] at h
    refine v135_3 _ _ _ _ _ _ (condD (fun hc => needJ ⟨by omega, by omega⟩ ?_) fun hc => by omega)
    rw [Int.toNat_natCast]
    generalize l.getD i (0, 0) = x at h ⊢
    refine condD (fun h1 => pb ?_) fun h1 => condD (fun h2 => pb ?_) fun h2 => condD (fun h3 => pb ?_) fun h3 => ?_
    · rw [if_pos (.inl h1)] at h; exact h
    · rw [if_pos (.inr (.inl h2))] at h; exact h
    · rw [if_pos (.inr (.inr h3))] at h; exact h
    · rw [if_neg (by omega)] at h
      rw [succ64 (by unfold lim at hl; omega)]
      exact AWP.shape [] [(3, .int .i64 x.2), (6, .sl 2 (.map encS (0, 0) l) .none), (7, .int .i64 l.length), (8, .int .i64 (i + 1 : Nat))] [] Sel.none ⟨rfl, Le.refl _, rfl, Le.refl _, rfl, Le.refl _, rfl, Le.refl _, trivial⟩ (ih (i + 1) x.2 (by omega) h)

theorem spanCheck_spec (l : List Span) (hl : l.length ≤ lim) (H : List AObj) : ASpec Try.prog 135 [.sl 2 (.map encS (0, 0) l) .none] H (fun r H' => r = .bool (spanOk l) ∧ H' = H) :=
  ASpec.pureH H (ASpec.sel (s135 _ _ (chk3 hl l.length 0 (-1) (by omega) rfl))) _ _ rfl rfl

theorem rchk2 {l : List Span} {c : Bool} (hl : l.length ≤ lim) : ∀ (m i : Nat) (e : Int), m + i = l.length → (i = 0 → e = -1) → (0 < i → e = (l.getD (i - 1) (0, 0)).2 ∧ 0 ≤ e) → chkS e (l.drop i) = c →
    AWP Try.prog 55 0 c36_2 [(0, .sl 2 (.map encS (0, 0) l) .none), (3, .int .i64 i)] [] (q36_2 0 (PB c)) := by
  intro m
  induction m with
  | zero =>
    intro i e hm _ _ h
    refine v36_2 _ _ _ _ (condD (fun hc => by omega) fun _ => pb ?_)
    rw [List.drop_eq_nil_of_le (by omega)] at h
    exact h
  | succ m ih =>
    intro i e hm h0 he h
    have hin : (0 : Int) ≤ (i : Int) ∧ (i : Int) < (l.length : Int) := ⟨by omega, by omega⟩
    rw [dropD l (0, 0) i (by omega)] at h
    simp only [chkS] at h
    have hnext : ∀ x, x = l.getD i (0, 0) → ¬ (x.1 ≤ e ∨ x.2 ≤ x.1 ∨ 1000000000 < x.2) → AWP Try.prog 55 0 c36_2 [(0, .sl 2 (.map encS (0, 0) l) .none), (3, .int .i64 (IntKind.wrap .i64 ((i : Int) + 1)))] [] (q36_2 0 (PB c)) := by
      intro x hx hn
      rw [← hx, if_neg hn] at h
      rw [succ64 (by unfold lim at hl; omega)]
      have hge : -1 ≤ e := by
        rcases Nat.eq_zero_or_pos i with z | z
        · have := h0 z; omega
        · have := he z; omega
      exact ih (i + 1) x.2 (by omega) (fun hh => by omega) (fun _ => ⟨by rw [hx]; rfl, by omega⟩) h
    have hbad : ∀ x, x = l.getD i (0, 0) → (x.1 ≤ e ∨ x.2 ≤ x.1 ∨ 1000000000 < x.2) → PB c (.bool false) [] := by
      intro x hx hh
      rw [← hx, if_pos hh] at h
      exact pb h
    refine v36_2 _ _ _ _ (condD (fun hc => needJ hin ?_) fun hc => by omega)
    rw [Int.toNat_natCast]
    generalize hx : l.getD i (0, 0) = x at h ⊢
    refine condD (fun h1 => hbad x hx.symm (.inl ?_)) fun h1 => needJ hin (condD (fun h2 => hbad x hx.symm (.inr (.inr h2))) fun h2 => needJ hin (needJ hin (condD (fun h3 => hbad x hx.symm (.inr (.inl h3))) fun h3 => condD (fun h4 => needJ hin (needJ ?_ (condD (fun h5 => hbad x hx.symm (.inl ?_)) fun h5 => hnext x hx.symm ?_))) fun h4 => hnext x hx.symm ?_)))
    · rcases Nat.eq_zero_or_pos i with z | z
      · have := h0 z; omega
      · have := he z; omega
    · rw [pred64 (by unfold lim at hl; omega) (by omega)]; omega
    · rw [pred64 (by unfold lim at hl; omega) (by omega), Int.toNat_natCast] at h5
      have := he (by omega); omega
    · rw [pred64 (by unfold lim at hl; omega) (by omega), Int.toNat_natCast] at h5
      have := he (by omega); omega
    · have := h0 (by omega); omega

theorem rspanCheck_spec (l : List Span) (hl : l.length ≤ lim) (H : List AObj) : ASpec Try.prog 36 [.sl 2 (.map encS (0, 0) l) .none] H (fun r H' => r = .bool (spanOk l) ∧ H' = H) :=
  ASpec.pureH H (ASpec.sel (s36 _ _ (rchk2 hl l.length 0 (-1) (by omega) (fun _ => rfl) (fun h => by omega) rfl))) _ _ rfl rfl

/-! ### needs -/

def leB (a b : List UInt8) : Bool := Op.bytesLess a b || a == b

def needsF (last : List UInt8) : List Need → Bool
  | [] => true
  | x :: r => if fitM x.1 = false ∨ leB x.1 last = true ∨ 6 < x.2.length ∨ spanOk x.2 = false then false else needsF x.1 r
def needOk (l : List Need) : Bool := needsF [] l && decide (l.length ≤ 6)

theorem fit_nil : fitM [] = false := rfl
theorem leB_nil {a : List UInt8} (h : fitM a = true) : leB a [] = false := by
  cases a with
  | nil => rw [fit_nil] at h; cases h
  | cons c a => simp [leB, Op.bytesLess]

def okN (l : List Need) : Prop := l.length ≤ lim ∧ ∀ n ∈ l, n.1.length ≤ lim ∧ n.2.length ≤ lim

theorem need3 {l : List Need} {c : Bool} (hl : okN l) : ∀ (m i : Nat) (last : List UInt8), m + i = l.length → (needsF last (l.drop i) && decide (l.length ≤ 6)) = c →
    AWP Try.prog 40 0 c125_3 [(0, .sl 2 (.map encN ([], []) l) .none), (3, .str (B last)), (6, .sl 2 (.map encN ([], []) l) .none), (7, .int .i64 l.length), (8, .int .i64 i)] [] (q125_2 0 (PB c)) := by
  obtain ⟨hl1, hl2⟩ := hl
  intro m
  induction m with
  | zero =>
    intro i last hm h
    refine v125_3 _ _ _ _ _ _ (condD (fun hc => by omega) fun _ => pb ?_)
    rw [List.drop_eq_nil_of_le (by omega)] at h
    simp only [needsF, Bool.true_and] at h
    rw [show decide ((l.length : Int) ≤ 6) = decide (l.length ≤ 6) from decide_eq_decide.2 (by omega)]
    exact h
  | succ m ih =>
    intro i last hm h
    have hx := hl2 _ (memD l ([], []) i (by omega))
    rw [dropD l ([], []) i (by omega)] at h
    simp only [needsF] at h
    refine v125_3 _ _ _ _ _ _ (condD (fun hc => needJ ⟨by omega, by omega⟩ ?_) fun hc => by omega)
    rw [Int.toNat_natCast]
    generalize l.getD i ([], []) = x at h hx ⊢
    have bad : ∀ {H' : List AObj}, (fitM x.1 = false ∨ leB x.1 last = true ∨ 6 < x.2.length ∨ spanOk x.2 = false) → PB c (.bool false) H' := by
      intro H' hh
      rw [if_pos hh] at h
      exact pb h
    refine ASpec.call (fit_spec (l := x.1) (by unfold big; unfold lim at hx; omega) _) (Les.refl _) ⟨_, rfl, rfl, condBn (fun h1 => bad (.inl h1)) fun h1 => ?_⟩
    rw [B_toList, B_toList]
    refine condB (fun h2 => bad (.inr (.inl h2))) fun h2 => condD (fun h3 => bad (.inr (.inr (.inl (by omega))))) fun h3 => ?_
    refine ASpec.call (spanCheck_spec x.2 hx.2 _) (Les.refl _) ⟨_, rfl, rfl, condBn (fun h4 => bad (.inr (.inr (.inr h4)))) fun h4 => ?_⟩
    have h2' : leB x.1 last = false := h2
    rw [if_neg (by rw [h1, h2', h4]; simp; omega)] at h
    rw [succ64 (by unfold lim at hl1; omega)]
    exact AWP.shape [] [(0, .sl 2 (.map encN ([], []) l) .none), (3, .str (B x.1)), (6, .sl 2 (.map encN ([], []) l) .none), (7, .int .i64 l.length), (8, .int .i64 (i + 1 : Nat))] [] Sel.none
      ⟨rfl, Le.refl _, rfl, Le.refl _, rfl, Le.refl _, rfl, Le.refl _, rfl, Le.refl _, trivial⟩ (ih (i + 1) x.1 (by omega) h)

theorem needCheck_spec (l : List Need) (hl : okN l) (H : List AObj) : ASpec Try.prog 125 [.sl 2 (.map encN ([], []) l) .none] H (fun r H' => r = .bool (needOk l) ∧ H' = H) :=
  ASpec.pureH H (ASpec.sel (s125 _ _ (need3 hl l.length 0 [] (by omega) rfl))) _ _ rfl rfl

theorem rneed2 {l : List Need} {c : Bool} (hl : okN l) : ∀ (m i : Nat) (last : List UInt8), m + i = l.length → (i = 0 → last = []) → (0 < i → last = (l.getD (i - 1) ([], [])).1) → (needsF last (l.drop i) && decide (l.length ≤ 6)) = c →
    AWP Try.prog 56 0 c10_2 [(0, .sl 2 (.map encN ([], []) l) .none), (3, .int .i64 i)] [] (q10_2 0 (PB c)) := by
  obtain ⟨hl1, hl2⟩ := hl
  intro m
  induction m with
  | zero =>
    intro i last hm _ _ h
    refine v10_2 _ _ _ _ (condD (fun hc => by omega) fun _ => pb ?_)
    rw [List.drop_eq_nil_of_le (by omega)] at h
    simp only [needsF, Bool.true_and] at h
    rw [show decide ((l.length : Int) ≤ 6) = decide (l.length ≤ 6) from decide_eq_decide.2 (by omega)]
    exact h
  | succ m ih =>
    intro i last hm h0 he h
    have hin : (0 : Int) ≤ (i : Int) ∧ (i : Int) < (l.length : Int) := ⟨by omega, by omega⟩
    have hx := hl2 _ (memD l ([], []) i (by omega))
    rw [dropD l ([], []) i (by omega)] at h
    simp only [needsF] at h
    have hnext : ¬ (fitM (l.getD i ([], [])).1 = false ∨ leB (l.getD i ([], [])).1 last = true ∨ 6 < (l.getD i ([], [])).2.length ∨ spanOk (l.getD i ([], [])).2 = false) →
        AWP Try.prog 56 0 c10_2 [(0, .sl 2 (.map encN ([], []) l) .none), (3, .int .i64 (IntKind.wrap .i64 ((i : Int) + 1)))] [] (q10_2 0 (PB c)) := by
      intro hn
      rw [if_neg hn] at h
      rw [succ64 (by unfold lim at hl1; omega)]
      exact ih (i + 1) _ (by omega) (fun hh => by omega) (fun _ => rfl) h
    have bad : (fitM (l.getD i ([], [])).1 = false ∨ leB (l.getD i ([], [])).1 last = true ∨ 6 < (l.getD i ([], [])).2.length ∨ spanOk (l.getD i ([], [])).2 = false) → PB c (.bool false) [] := by
      intro hh
      rw [if_pos hh] at h
      exact pb h
    refine v10_2 _ _ _ _ (condD (fun hc => needJ hin ?_) fun hc => by omega)
    rw [Int.toNat_natCast]
    clear h ih
    generalize l.getD i ([], []) = x at hx hnext bad ⊢
    refine ASpec.call (rfit_spec (l := x.1) (by unfold big; unfold lim at hx; omega) _) (Les.refl _) ⟨_, rfl, rfl, condBn (fun h1 => bad (.inl h1)) fun h1 => needJ hin ?_⟩
    refine ASpec.call (rspanCheck_spec x.2 hx.2 _) (Les.refl _) ⟨_, rfl, rfl, condBn (fun h2 => bad (.inr (.inr (.inr h2)))) fun h2 => needJ hin (condD (fun h3 => bad (.inr (.inr (.inl (by omega))))) fun h3 => condD (fun h4 => needJ hin ?_) fun h4 => hnext ?_)⟩
    · rw [pred64 (by unfold lim at hl1; omega) (by omega), Int.toNat_natCast]
      refine needJ ⟨by omega, by omega⟩ ?_
      rw [← he (by omega), B_toList, B_toList]
      refine condB (fun h5 => bad (.inr (.inl h5))) fun h5 => hnext ?_
      have h5' : leB x.1 last = false := h5
      rw [h1, h2, h5']; simp; omega
    · rw [h0 (by omega), h1, h2, leB_nil h1]; simp; omega

theorem rneedCheck_spec (l : List Need) (hl : okN l) (H : List AObj) : ASpec Try.prog 10 [.sl 2 (.map encN ([], []) l) .none] H (fun r H' => r = .bool (needOk l) ∧ H' = H) :=
  ASpec.pureH H (ASpec.sel (s10 _ _ (rneed2 hl l.length 0 [] (by omega) (fun _ => rfl) (fun h => by omega) rfl))) _ _ rfl rfl

/-! ### manifests -/

def relF (e : Int) : List Rel → Bool
  | [] => true
  | x :: r => if x.1 ≤ e ∨ 1000000000 ≤ x.1 ∨ needOk x.2 = false then false else relF x.1 r
def manOk (m : Mani) : Bool := relF (-1) m.2 && (fitM m.1 && decide (m.2.length ≤ 8))

def okM (m : Mani) : Prop := m.1.length ≤ lim ∧ m.2.length ≤ lim ∧ ∀ r ∈ m.2, okN r.2

theorem mani3 {m : Mani} {c : Bool} (hl : okM m) : ∀ (k i : Nat) (e : Int), k + i = m.2.length → (relF e (m.2.drop i) && (fitM m.1 && decide (m.2.length ≤ 8))) = c →
    AWP Try.prog 40 0 c99_3 [(1, .ptr 0 0), (3, .int .i64 e), (7, .sl 2 (.map T.encR (0, []) m.2) .none), (8, .int .i64 m.2.length), (9, .int .i64 i)] [.cells (encM m)] (q99_2 0 (PB c)) := by
  obtain ⟨hl1, hl2, hl3⟩ := hl
  intro k
  induction k with
  | zero =>
    intro i e hm h
    refine v99_3 _ _ _ _ _ _ (condD (fun hc => by omega) fun _ => ?_)
    rw [List.drop_eq_nil_of_le (by omega)] at h
    simp only [relF, Bool.true_and] at h
    refine ASpec.call (fit_spec (l := m.1) (by unfold big; unfold lim at hl1; omega) _) (Les.refl _) ⟨_, rfl, rfl, condB (fun h1 => pb ?_) fun h1 => pb ?_⟩
    · rw [h1, Bool.true_and] at h
      rw [show decide ((m.2.length : Int) ≤ 8) = decide (m.2.length ≤ 8) from decide_eq_decide.2 (by omega)]
      exact h
    · rw [h1, Bool.false_and] at h
      exact h
  | succ k ih =>
    intro i e hm h
    have hx := hl3 _ (memD m.2 (0, []) i (by omega))
    rw [dropD m.2 (0, []) i (by omega)] at h
    simp only [relF] at h
    refine v99_3 _ _ _ _ _ _ (condD (fun hc => needJ ⟨by omega, by omega⟩ ?_) fun hc => by omega)
    rw [Int.toNat_natCast]
    generalize m.2.getD i (0, []) = x at h hx ⊢
    have bad : ∀ {H' : List AObj}, (x.1 ≤ e ∨ 1000000000 ≤ x.1 ∨ needOk x.2 = false) → PB c (.bool false) H' := by
      intro H' hh
      rw [if_pos hh] at h
      exact pb h
    refine condD (fun h1 => bad (.inl h1)) fun h1 => condD (fun h2 => bad (.inr (.inl h2))) fun h2 => ?_
    refine ASpec.call (needCheck_spec x.2 hx _) (Les.refl _) ⟨_, rfl, rfl, condBn (fun h3 => bad (.inr (.inr h3))) fun h3 => ?_⟩
    rw [if_neg (by rw [h3]; simp; omega)] at h
    rw [succ64 (by unfold lim at hl2; omega)]
    exact AWP.shape [0] [(1, .ptr 0 0), (3, .int .i64 x.1), (7, .sl 2 (.map T.encR (0, []) m.2) .none), (8, .int .i64 m.2.length), (9, .int .i64 (i + 1 : Nat))] [.cells (encM m)] (Sel.one 0 rfl rfl)
      ⟨rfl, Le.refl _, rfl, Le.refl _, rfl, Le.refl _, rfl, Le.refl _, rfl, Le.refl _, trivial⟩ (ih (i + 1) x.1 (by omega) h)

theorem maniCheck_spec (m : Mani) (hl : okM m) (H : List AObj) : ASpec Try.prog 99 [.agg (encM m)] H (fun r H' => r = .bool (manOk m) ∧ H' = H) :=
  ASpec.pureH H (ASpec.sel (s99 _ _ (mani3 hl m.2.length 0 (-1) (by omega) rfl))) _ _ rfl rfl

theorem verFit_spec (x : Int) (H : List AObj) : ASpec Try.prog 133 [.int .i64 x] H (fun r H' => r = .bool (decide (0 ≤ x ∧ x < 1000000000)) ∧ H' = H) := by
  have k : ASpec Try.prog 133 [.int .i64 x] [] (fun r H' => r = .bool (decide (0 ≤ x ∧ x < 1000000000)) ∧ H' = []) := by
    refine s133 _ _ (condD (fun h => ⟨?_, rfl⟩) fun h => ⟨?_, rfl⟩)
    · congr 1; exact decide_eq_decide.2 (by omega)
    · rw [decide_eq_false (by omega)]
  exact ASpec.pureH H k _ _ rfl rfl

theorem rmani2 {m : Mani} {c : Bool} (hl : okM m) : ∀ (k i : Nat) (e : Int), k + i = m.2.length → (i = 0 → e = -1) → (0 < i → e = (m.2.getD (i - 1) (0, [])).1 ∧ 0 ≤ e) → (relF e (m.2.drop i) && (fitM m.1 && decide (m.2.length ≤ 8))) = c →
    AWP Try.prog 52 0 c114_2 [(1, .ptr 0 0), (3, .int .i64 i)] [.cells (encM m)] (q114_2 0 (PB c)) := by
  obtain ⟨hl1, hl2, hl3⟩ := hl
  intro k
  induction k with
  | zero =>
    intro i e hm _ _ h
    refine v114_2 _ _ _ _ (condD (fun hc => by omega) fun _ => ?_)
    rw [List.drop_eq_nil_of_le (by omega)] at h
    simp only [relF, Bool.true_and] at h
    refine ASpec.call (rfit_spec (l := m.1) (by unfold big; unfold lim at hl1; omega) _) (Les.refl _) ⟨_, rfl, rfl, condB (fun h1 => pb ?_) fun h1 => pb ?_⟩
    · rw [h1, Bool.true_and] at h
      rw [show decide ((m.2.length : Int) ≤ 8) = decide (m.2.length ≤ 8) from decide_eq_decide.2 (by omega)]
      exact h
    · rw [h1, Bool.false_and] at h
      exact h
  | succ k ih =>
    intro i e hm h0 he h
    have hin : (0 : Int) ≤ (i : Int) ∧ (i : Int) < (m.2.length : Int) := ⟨by omega, by omega⟩
    have hx := hl3 _ (memD m.2 (0, []) i (by omega))
    rw [dropD m.2 (0, []) i (by omega)] at h
    simp only [relF] at h
    have hge : -1 ≤ e := by
      rcases Nat.eq_zero_or_pos i with z | z
      · have := h0 z; omega
      · have := he z; omega
    have hnext : ∀ (q : List AObj), ¬ ((m.2.getD i (0, [])).1 ≤ e ∨ 1000000000 ≤ (m.2.getD i (0, [])).1 ∨ needOk (m.2.getD i (0, [])).2 = false) →
        AWP Try.prog 52 0 c114_2 [(1, .ptr 0 0), (3, .int .i64 (IntKind.wrap .i64 ((i : Int) + 1)))] (.cells (encM m) :: q) (q114_2 0 (PB c)) := by
      intro q hn
      rw [if_neg hn] at h
      rw [succ64 (by unfold lim at hl2; omega)]
      exact AWP.shape [0] [(1, .ptr 0 0), (3, .int .i64 (i + 1 : Nat))] [.cells (encM m)] (Sel.one 0 rfl rfl)
        ⟨rfl, Le.refl _, rfl, Le.refl _, trivial⟩ (ih (i + 1) (m.2.getD i (0, [])).1 (by omega) (fun hh => by omega) (fun _ => ⟨rfl, by omega⟩) h)
    have bad : ∀ {H' : List AObj}, ((m.2.getD i (0, [])).1 ≤ e ∨ 1000000000 ≤ (m.2.getD i (0, [])).1 ∨ needOk (m.2.getD i (0, [])).2 = false) → PB c (.bool false) H' := by
      intro H' hh
      rw [if_pos hh] at h
      exact pb h
    refine v114_2 _ _ _ _ (condD (fun hc => needJ hin ?_) fun hc => by omega)
    rw [Int.toNat_natCast]
    clear h ih
    generalize m.2.getD i (0, []) = x at hx hnext bad ⊢
    refine ASpec.call (verFit_spec x.1 _) (Les.refl _) ⟨_, rfl, rfl, condBn (fun h1 => bad ?_) fun h1 => ?_⟩
    · have := of_decide_eq_false h1; omega
    have h1 := of_decide_eq_true h1
    refine ASpec.call (rneedCheck_spec x.2 hx _) (Les.refl _) ⟨_, rfl, rfl, condBn (fun h2 => bad (.inr (.inr h2))) fun h2 => condD (fun h4 => ?_) fun h4 => hnext _ ?_⟩
    · rw [pred64 (by unfold lim at hl2; omega) (by omega), Int.toNat_natCast]
      have hh := he (by omega)
      refine needJ ⟨by omega, by omega⟩ (condD (fun h5 => bad (.inl (by omega))) fun h5 => hnext _ ?_)
      rw [h2]; simp; omega
    · have := h0 (by omega)
      rw [h2]; simp; omega

theorem rmaniCheck_spec (m : Mani) (hl : okM m) (H : List AObj) : ASpec Try.prog 114 [.agg (encM m)] H (fun r H' => r = .bool (manOk m) ∧ H' = H) :=
  ASpec.pureH H (ASpec.sel (s114 _ _ (rmani2 hl m.2.length 0 (-1) (by omega) (fun _ => rfl) (fun h => by omega) rfl))) _ _ rfl rfl

/-! ### are they large? -/

def largeNF : List Need → Bool
  | [] => false
  | x :: r => if 40 < x.2.length ∨ 100 < x.1.length then true else largeNF r
def largeN (l : List Need) : Bool := if 40 < l.length then true else largeNF l

theorem large4 {l : List Need} {c : Bool} (hl : l.length ≤ 40) : ∀ (m i : Nat), m + i = l.length → largeNF (l.drop i) = c →
    AWP Try.prog 29 0 c9_4 [(0, .sl 2 (.map encN ([], []) l) .none), (3, .int .i64 i)] [] (q9_2 0 (PB c)) := by
  intro m
  induction m with
  | zero =>
    intro i hm h
    refine v9_4 _ _ _ _ (condD (fun hc => by omega) fun _ => pb ?_)
    rw [List.drop_eq_nil_of_le (by omega)] at h
    exact h
  | succ m ih =>
    intro i hm h
    have hin : (0 : Int) ≤ (i : Int) ∧ (i : Int) < (l.length : Int) := ⟨by omega, by omega⟩
    rw [dropD l ([], []) i (by omega)] at h
    simp only [largeNF] at h
    refine v9_4 _ _ _ _ (condD (fun hc => needJ hin ?_) fun hc => by omega)
    rw [Int.toNat_natCast]
    generalize l.getD i ([], []) = x at h ⊢
    rw [B_size]
    refine condD (fun h1 => pb ?_) fun h1 => needJ hin (condD (fun h2 => pb ?_) fun h2 => ?_)
    · rw [if_pos (by omega)] at h; exact h
    · rw [if_pos (by omega)] at h; exact h
    · rw [if_neg (by omega)] at h
      rw [succ64 (by omega)]
      exact ih (i + 1) (by omega) h

theorem largeN_spec (l : List Need) (H : List AObj) : ASpec Try.prog 9 [.sl 2 (.map encN ([], []) l) .none] H (fun r H' => r = .bool (largeN l) ∧ H' = H) := by
  have k : ASpec Try.prog 9 [.sl 2 (.map encN ([], []) l) .none] [] (fun r H' => r = .bool (largeN l) ∧ H' = []) := by
    refine ASpec.sel (s9 _ _ (condD (fun h => pb ?_) fun h => ?_))
    · rw [largeN, if_pos (by omega)]
    · refine large4 (by omega) l.length 0 (by omega) ?_
      rw [largeN, if_neg (by omega)]; rfl
  exact ASpec.pureH H k _ _ rfl rfl

theorem largeNF_ok : ∀ (l : List Need), largeNF l = false → ∀ n ∈ l, n.1.length ≤ 100 ∧ n.2.length ≤ 40
  | [], _, n, hn => by simp at hn
  | x :: r, h, n, hn => by
    simp only [largeNF] at h
    split at h
    · cases h
    · rcases List.mem_cons.1 hn with rfl | hn
      · omega
      · exact largeNF_ok r h n hn

theorem largeN_ok {l : List Need} (h : largeN l = false) : okN l := by
  unfold largeN at h
  split at h
  · cases h
  · refine ⟨by unfold lim; omega, fun n hn => ?_⟩
    have := largeNF_ok l h n hn
    unfold lim; omega

end C
end

section
/- The order of names, and looking for one by halves: plain laws. -/

set_option linter.unusedVariables false
set_option linter.unusedSimpArgs false
open Go Go.Ab Go.Proofs V S T C
namespace Dp

theorem less_iff {a b : List UInt8} : Op.bytesLess a b = true ↔ a < b := by rw [bytesLess_eq]; simp
theorem less_trans {a b c : List UInt8} (h : Op.bytesLess a b = true) (k : Op.bytesLess b c = true) : Op.bytesLess a c = true := by
  rw [less_iff] at *; exact List.lt_trans h k
theorem less_tri : ∀ {a b : List UInt8}, Op.bytesLess a b = false → a ≠ b → Op.bytesLess b a = true
  | [], [], _, h => absurd rfl h
  | [], _ :: _, h, _ => by simp [Op.bytesLess] at h
  | _ :: _, [], _, _ => by simp [Op.bytesLess]
  | x :: a, y :: b, h, hne => by
    simp only [Op.bytesLess, Bool.or_eq_false_iff, decide_eq_false_iff_not, Bool.and_eq_false_iff, beq_eq_false_iff_ne] at h
    simp only [Op.bytesLess, Bool.or_eq_true, decide_eq_true_eq, Bool.and_eq_true, beq_iff_eq]
    by_cases e : x = y
    · subst e
      rcases h.2 with h2 | h2
      · exact absurd rfl h2
      · exact .inr ⟨rfl, less_tri h2 (fun h3 => hne (by rw [h3]))⟩
    · left
      have h1 := h.1
      rw [UInt8.not_lt] at h1
      exact UInt8.lt_of_le_of_ne h1 (fun h => e h.symm)
/-! ### entries that may be -/

end Dp
end

section
/- Manifests as bytes: what the code puts, and the document. -/

set_option linter.unusedVariables false
set_option linter.unusedSimpArgs false
set_option maxRecDepth 100000
open Go Go.Ab Go.Proofs V S T C
namespace W

section
variable {Post : AV → List AObj → Prop}

abbrev sl1 (b : List UInt8) : AV := .sl 1 (.map encB 0 b) .none
noncomputable abbrev slR (l : List Rel) : AV := .sl 2 (.map T.encR (0, []) l) .none
noncomputable abbrev slN (l : List Need) : AV := .sl 2 (.map encN ([], []) l) .none
noncomputable abbrev slS (l : List Span) : AV := .sl 2 (.map encS (0, 0) l) .none

/-! ### the document's -/

end
end W
end

section
/- Manifests out of bytes: what the code reads. -/

set_option linter.unusedVariables false
set_option linter.unusedSimpArgs false
set_option maxRecDepth 100000
open Go Go.Ab Go.Proofs V S T C
namespace W

/-! ### the model -/

def spanR (bs : List UInt8) (p : Nat) (e : Int) : Span × Nat × Int :=
  (((numM bs p e 1000000000).1, IntKind.wrap .i64 ((numM bs p e 1000000000).1 + (numM bs (numM bs p e 1000000000).2.1 (numM bs p e 1000000000).2.2 1000000000).1)),
    (numM bs (numM bs p e 1000000000).2.1 (numM bs p e 1000000000).2.2 1000000000).2)

def listR {α : Type} (one : Nat → Int → α × Nat × Int) : Nat → Nat → Int → List α × Nat × Int
  | 0, p, e => ([], p, e)
  | k + 1, p, e => if e = 0 then ((one p e).1 :: (listR one k (one p e).2.1 (one p e).2.2).1, (listR one k (one p e).2.1 (one p e).2.2).2) else ([], p, e)

def listM {α : Type} (one : Nat → Int → α × Nat × Int) (bs : List UInt8) (p : Nat) (e most : Int) : List α × Nat × Int :=
  listR one (numM bs p e most).1.toNat (numM bs p e most).2.1 (numM bs p e most).2.2

def needR (bs : List UInt8) (p : Nat) (e : Int) : Need × Nat × Int :=
  (((strM bs p e 24).1, (listM (spanR bs) bs (strM bs p e 24).2.1 (strM bs p e 24).2.2 6).1), (listM (spanR bs) bs (strM bs p e 24).2.1 (strM bs p e 24).2.2 6).2)

def relR (bs : List UInt8) (p : Nat) (e : Int) : Rel × Nat × Int :=
  (((numM bs p e 1000000000).1, (listM (needR bs) bs (numM bs p e 1000000000).2.1 (numM bs p e 1000000000).2.2 6).1), (listM (needR bs) bs (numM bs p e 1000000000).2.1 (numM bs p e 1000000000).2.2 6).2)

def maniR (bs : List UInt8) : Mani × Nat × Int :=
  (((strM bs 0 0 24).1, (listM (relR bs) bs (strM bs 0 0 24).2.1 (strM bs 0 0 24).2.2 8).1), (listM (relR bs) bs (strM bs 0 0 24).2.1 (strM bs 0 0 24).2.2 8).2)

def endM (m : Mani) (c : Int) : Mani × Int := if c ≠ 0 then (([], []), c) else if manOk m = true then (m, 0) else (([], []), 3)

def readM (bs : List UInt8) : Mani × Int :=
  if 8192 < bs.length then (([], []), 4) else endM (maniR bs).1 (closeM (maniR bs).2.2 (bs.length - (maniR bs).2.1))

theorem lookM_most (s : List UInt8) (most : Int) (h : 0 ≤ most) : (lookM s most).1 ≤ most := by
  cases s with
  | nil => simpa [lookM] using h
  | cons c s =>
    simp only [lookM]
    split
    · exact h
    · split
      · exact h
      · split
        · exact h
        · simp only; omega

theorem numM_most (bs : List UInt8) (p : Nat) (e most : Int) (h : 0 ≤ most) : 0 ≤ (numM bs p e most).1 ∧ (numM bs p e most).1 ≤ most := by
  unfold numM
  split
  · exact ⟨Int.le_refl _, h⟩
  · exact ⟨(lookM_le _ _).2.1, lookM_most _ _ h⟩

theorem numM_p {bs : List UInt8} {p : Nat} {e most : Int} (hp : p ≤ bs.length) : (numM bs p e most).2.1 ≤ bs.length := (num_doc bs p e most hp).2
theorem strM_p {bs : List UInt8} {p : Nat} {e most : Int} (hp : p ≤ bs.length) : (strM bs p e most).2.1 ≤ bs.length := (str_doc bs p e most hp).2

theorem strM_len (bs : List UInt8) (p : Nat) (e most : Int) (h : 0 ≤ most) : ((strM bs p e most).1.length : Int) ≤ most := by
  unfold strM
  have := lookM_most (bs.drop p) most h
  have h2 := (lookM_le (bs.drop p) most).2.1
  repeat' split
  all_goals (simp only [List.length_nil, List.length_take]; omega)

/-- one keeps its place in the bytes -/
def Inside {α : Type} (bs : List UInt8) (one : Nat → Int → α × Nat × Int) : Prop := ∀ p e, p ≤ bs.length → (one p e).2.1 ≤ bs.length

theorem listR_p {α : Type} {bs : List UInt8} {one : Nat → Int → α × Nat × Int} (h : Inside bs one) : ∀ (k p : Nat) (e : Int), p ≤ bs.length → (listR one k p e).2.1 ≤ bs.length
  | 0, p, e, hp => hp
  | k + 1, p, e, hp => by
    simp only [listR]
    split
    · exact listR_p h k _ _ (h p e hp)
    · exact hp

theorem listM_p {α : Type} {bs : List UInt8} {one : Nat → Int → α × Nat × Int} (h : Inside bs one) {p : Nat} {e most : Int} (hp : p ≤ bs.length) : (listM one bs p e most).2.1 ≤ bs.length :=
  listR_p h _ _ _ (numM_p hp)

theorem listR_len {α : Type} (one : Nat → Int → α × Nat × Int) : ∀ (k p : Nat) (e : Int), (listR one k p e).1.length ≤ k
  | 0, p, e => by simp [listR]
  | k + 1, p, e => by
    simp only [listR]
    split
    · have := listR_len one k (one p e).2.1 (one p e).2.2
      simp only [List.length_cons]; omega
    · simp

theorem listM_len {α : Type} (one : Nat → Int → α × Nat × Int) (bs : List UInt8) (p : Nat) (e most : Int) (h : 0 ≤ most) : ((listM one bs p e most).1.length : Int) ≤ most := by
  have h1 := numM_most bs p e most h
  have h2 := listR_len one (numM bs p e most).1.toNat (numM bs p e most).2.1 (numM bs p e most).2.2
  unfold listM
  omega

theorem listR_all {α : Type} {one : Nat → Int → α × Nat × Int} {Q : α → Prop} (h : ∀ p e, Q (one p e).1) : ∀ (k p : Nat) (e : Int), ∀ x ∈ (listR one k p e).1, Q x
  | 0, p, e, x, hx => by simp [listR] at hx
  | k + 1, p, e, x, hx => by
    simp only [listR] at hx
    split at hx
    · rcases List.mem_cons.1 hx with rfl | hx
      · exact h p e
      · exact listR_all h k _ _ x hx
    · simp at hx

theorem spanR_p (bs : List UInt8) : Inside bs (spanR bs) := fun p e hp => numM_p (numM_p hp)
theorem needR_p (bs : List UInt8) : Inside bs (needR bs) := fun p e hp => listM_p (spanR_p bs) (strM_p hp)
theorem relR_p (bs : List UInt8) : Inside bs (relR bs) := fun p e hp => listM_p (needR_p bs) (numM_p hp)
theorem maniR_p (bs : List UInt8) : (maniR bs).2.1 ≤ bs.length := listM_p (relR_p bs) (strM_p (Nat.zero_le _))

theorem needR_ok (bs : List UInt8) (p : Nat) (e : Int) : (needR bs p e).1.1.length ≤ 24 ∧ (needR bs p e).1.2.length ≤ 6 := by
  have h1 := strM_len bs p e 24 (by omega)
  have h2 := listM_len (spanR bs) bs (strM bs p e 24).2.1 (strM bs p e 24).2.2 6 (by omega)
  simp only [needR]; omega

theorem relR_ok (bs : List UInt8) (p : Nat) (e : Int) : (relR bs p e).1.2.length ≤ 6 ∧ okN (relR bs p e).1.2 := by
  have h2 := listM_len (needR bs) bs (numM bs p e 1000000000).2.1 (numM bs p e 1000000000).2.2 6 (by omega)
  refine ⟨by simp only [relR]; omega, by simp only [relR]; unfold lim; omega, fun n hn => ?_⟩
  have := listR_all (Q := fun n : Need => n.1.length ≤ 24 ∧ n.2.length ≤ 6) (needR_ok bs) _ _ _ n hn
  unfold lim; omega

theorem maniR_ok (bs : List UInt8) : okM (maniR bs).1 := by
  have h1 := strM_len bs 0 0 24 (by omega)
  have h2 := listM_len (relR bs) bs (strM bs 0 0 24).2.1 (strM bs 0 0 24).2.2 8 (by omega)
  refine ⟨by simp only [maniR]; unfold lim; omega, by simp only [maniR]; unfold lim; omega, fun r hr => ?_⟩
  exact (listR_all (Q := fun r : Rel => r.2.length ≤ 6 ∧ okN r.2) (relR_ok bs) _ _ _ r hr).2

theorem readM_ok (bs : List UInt8) : okM (readM bs).1 := by
  have h0 : okM (([], []) : Mani) := ⟨by simp, by simp, fun r hr => by simp at hr⟩
  unfold readM
  split
  · exact h0
  · unfold endM
    split
    · exact h0
    · split
      · exact maniR_ok bs
      · exact h0

/-! ### the walk -/

section
variable {bs : List UInt8} {p : Nat} {e : Int}

theorem selHR (q : List AObj) : Sel 5 [0, 1, 2, 3, 4] (HR bs p e ++ q) (HR bs p e) := by
  refine ⟨by decide, rfl, by decide, fun i hi => ?_, fun i hi => .inl ?_⟩
  · match i, hi with
    | 0, _ | 1, _ | 2, _ | 3, _ | 4, _ => rfl
  · match i, hi with
    | 0, _ | 1, _ | 2, _ | 3, _ | 4, _ => rfl

theorem selTokR : Sel 5 [0, 1, 2, 3, 4, 6] (HR bs p e ++ [.gone, .tok]) (HR bs p e ++ [.tok]) := by
  refine ⟨by decide, rfl, by decide, fun i hi => ?_, fun i hi => .inl ?_⟩
  · match i, hi with
    | 0, _ | 1, _ | 2, _ | 3, _ | 4, _ => rfl
  · match i, hi with
    | 0, _ | 1, _ | 2, _ | 3, _ | 4, _ | 5, _ => rfl

theorem subHR {f : FuncId} {args : List AV} {r0 : AV} {p' : Nat} {e' : Int} (q : List AObj) (k : ASpec Try.prog f args (HR bs p e) (fun r H' => r = r0 ∧ H' = HR bs p' e'))
    (ha : args.map (AV.ren (callR [0, 1, 2, 3, 4] (HR bs p e ++ q).length)) = args) (hr : AV.ren (callR [0, 1, 2, 3, 4] (HR bs p e ++ q).length) r0 = r0) :
    ASpec Try.prog f args (HR bs p e ++ q) (fun r H' => r = r0 ∧ H' = HR bs p' e' ++ q) := by
  refine ASpec.subH [0, 1, 2, 3, 4] _ _ k args r0 (by decide) rfl ha hr (fun i hi => ?_) ?_
  · match i, hi with
    | 0, _ | 1, _ | 2, _ | 3, _ | 4, _ => rfl
  · show HR bs p' e' ++ q ++ [] = _
    rw [List.append_nil]

theorem leAppT {α : Type} {en : α → List AV} {d : α} (hr : ∀ ρ x, renL ρ (en x) = en x) {acc : List α} {x : α} {sz k j : Nat} {ρ : Nat → Nat} {ex : List AV} (hx : ex = en x) (hk : ρ j = k) :
    Le (.sl sz (.app (.map en d acc) (.raw [ex])) (.tok k)) (AV.ren ρ (.sl sz (.map en d (acc ++ [x])) (.tok j))) := by
  subst hk; subst hx
  refine Le.sl (s' := Seq.ren ρ (.map en d (acc ++ [x]))) ?_ (.inl rfl) (.inl rfl)
  simp [Ab.Seq.toList, Seq.ren, hr]

theorem leNone {α : Type} {en : α → List AV} {d : α} (hr : ∀ ρ x, renL ρ (en x) = en x) {acc : List α} {sz : Nat} {tip : Tip} {ρ : Nat → Nat} :
    Le (.sl sz (.map en d acc) tip) (AV.ren ρ (.sl sz (.map en d acc) .none)) :=
  Le.sl (s' := Seq.ren ρ (.map en d acc)) (by simp [Ab.Seq.toList, Seq.ren, hr]) (.inl rfl) (.inr rfl)

theorem renS (ρ : Nat → Nat) (x : Span) : renL ρ (encS x) = encS x := rfl
theorem renN (ρ : Nat → Nat) (x : Need) : renL ρ (encN x) = encN x := rfl
theorem renR (ρ : Nat → Nat) (x : Rel) : renL ρ (T.encR x) = T.encR x := rfl

theorem name98 (hb : bs.length ≤ big) (hp : p ≤ bs.length) : ASpec Try.prog 89 [.ptr 1 0] (HR bs p e) (fun r H' => r = .str (B (strM bs p e 24).1) ∧ H' = HR bs (strM bs p e 24).2.1 (strM bs p e 24).2.2) :=
  s89 _ _ _ _ (ASpec.call (str_spec (H := HR bs p e) (id := 0) (bs := bs) (p := p) (e := e) 24 hb hp rfl) (Les.refl _) ⟨(B (strM bs p e 24).1, ((strM bs p e 24).2.1 : Nat), (strM bs p e 24).2.2), rfl, rfl, rfl, rfl⟩)

theorem span99 (hb : bs.length ≤ big) (hp : p ≤ bs.length) : ASpec Try.prog 91 [.ptr 1 0] (HR bs p e) (fun r H' => r = .agg (encS (spanR bs p e).1) ∧ H' = HR bs (spanR bs p e).2.1 (spanR bs p e).2.2) := by
  have h1 := numM_p (e := e) (most := 1000000000) hp
  refine ASpec.sel (s91 _ _ _ _ (ASpec.call (num_spec (H := HR bs p e ++ [.cells [.int .i64 0, .int .i64 0]]) (id := 0) (bs := bs) (p := p) (e := e) 1000000000 hb hp rfl) (Les.refl _) ⟨((numM bs p e 1000000000).1, ((numM bs p e 1000000000).2.1 : Nat), (numM bs p e 1000000000).2.2), rfl, rfl, ?_⟩))
  refine ASpec.call (num_spec (H := HR bs (numM bs p e 1000000000).2.1 (numM bs p e 1000000000).2.2 ++ [.cells [.int .i64 0, .int .i64 0]]) (id := 0) (bs := bs) (p := (numM bs p e 1000000000).2.1) (e := (numM bs p e 1000000000).2.2) 1000000000 hb h1 rfl) (Les.refl _)
    ⟨((numM bs (numM bs p e 1000000000).2.1 (numM bs p e 1000000000).2.2 1000000000).1, ((numM bs (numM bs p e 1000000000).2.1 (numM bs p e 1000000000).2.2 1000000000).2.1 : Nat), (numM bs (numM bs p e 1000000000).2.1 (numM bs p e 1000000000).2.2 1000000000).2.2), rfl, rfl, ?_⟩
  exact ⟨[0, 1, 2, 3, 4], HR bs (spanR bs p e).2.1 (spanR bs p e).2.2, .agg (encS (spanR bs p e).1), selHR _, Le.refl _, rfl, rfl⟩

theorem loop101 {Post : AV → List AObj → Prop} (hb : bs.length ≤ big) : ∀ (k p : Nat) (e : Int) (acc : List Span), p ≤ bs.length → acc.length + k ≤ 100 →
    Post (.sl 2 (.map encS (0, 0) (acc ++ (listR (spanR bs) k p e).1)) (.tok 5)) (HR bs (listR (spanR bs) k p e).2.1 (listR (spanR bs) k p e).2.2 ++ [.tok]) →
    AWP Try.prog 27 5 c94_3 [(0, .ptr 0 0), (2, .fn 91 [.ptr 1 0]), (7, .sl 2 (.map encS (0, 0) acc) (.tok 5)), (8, .int .i64 k)] (HR bs p e ++ [.tok]) (q94_2 5 Post) := by
  intro k
  induction k with
  | zero =>
    intro p e acc hp ha h
    refine v94_3 _ _ _ _ _ _ _ (condD (fun hc => by omega) fun _ => ?_)
    simp only [listR, List.append_nil] at h
    exact h
  | succ k ih =>
    intro p e acc hp ha h
    simp only [listR] at h
    refine v94_3 _ _ _ _ _ _ _ (condD (fun _ => ?_) fun hc => by omega)
    refine ASpec.call (err_spec (H := HR bs p e ++ [.tok]) (id := 0) (bs := bs) (p := p) (e := e) rfl) (Les.refl _) ⟨e, rfl, rfl, condE (fun he => ?_) fun he => ?_⟩
    · rw [if_pos he] at h
      refine ASpec.call (subHR [.tok] (span99 (e := e) hb hp) rfl rfl) (Les.refl _) ⟨((spanR bs p e).1, ((spanR bs p e).2.1 : Nat), (spanR bs p e).2.2), rfl, rfl, needJ (by omega) ?_⟩
      rw [show IntKind.wrap .i64 (((k + 1 : Nat) : Int) - 1) = (k : Int) by rw [wrap64 (by omega) (by omega)]; omega]
      refine AWP.shape [0, 1, 2, 3, 4, 6] [(0, .ptr 0 0), (2, .fn 91 [.ptr 1 0]), (7, .sl 2 (.map encS (0, 0) (acc ++ [(spanR bs p e).1])) (.tok 5)), (8, .int .i64 k)] _ selTokR
        ⟨rfl, Le.refl _, rfl, Le.refl _, rfl, leAppT renS rfl rfl, rfl, Le.refl _, trivial⟩ (ih _ _ _ (spanR_p bs p e hp) (by simp; omega) ?_)
      simpa using h
    · rw [if_neg he] at h
      simp only [List.append_nil] at h
      exact h

theorem list101 {most : Int} (hm : 0 ≤ most ∧ most ≤ 100) (hb : bs.length ≤ big) (hp : p ≤ bs.length) : ASpec Try.prog 94 [.ptr 0 0, .int .i64 most, .fn 91 [.ptr 1 0]] (HR bs p e)
    (fun r H' => r = slS (listM (spanR bs) bs p e most).1 ∧ H' = HR bs (listM (spanR bs) bs p e most).2.1 (listM (spanR bs) bs p e most).2.2) := by
  have hn := numM_most bs p e most hm.1
  refine ASpec.sel (s94 _ _ _ _ _ (ASpec.call (num_spec (H := HR bs p e) (id := 0) (bs := bs) (p := p) (e := e) most hb hp rfl) (Les.refl _) ⟨((numM bs p e most).1, ((numM bs p e most).2.1 : Nat), (numM bs p e most).2.2), rfl, rfl, ?_⟩))
  refine AWP.re (ReSt.tok (H := HR bs (numM bs p e most).2.1 (numM bs p e most).2.2) (k := 7) (q' := .map encS (0, 0) []) (sz' := 2) (s2 := [(0, .ptr 0 0), (2, .fn 91 [.ptr 1 0]), (7, .sl 2 (.map encS (0, 0) []) (.tok 5)), (8, .int .i64 (numM bs p e most).1)]) rfl (.inl rfl) rfl (.inr rfl) (fun d hd => ?_) rfl) ?_
  · simp only [Ab.get]
    have e : Nat.beq 7 d = false := by
      cases hx : Nat.beq 7 d with
      | false => rfl
      | true => exact absurd (Nat.eq_of_beq_eq_true hx).symm hd
    rw [e]; rfl
  · obtain ⟨k, hk⟩ := Int.eq_ofNat_of_zero_le hn.1
    rw [hk]
    refine loop101 hb k _ _ [] (numM_p hp) (by simp; omega) ?_
    have hL : listR (spanR bs) k (numM bs p e most).2.1 (numM bs p e most).2.2 = listM (spanR bs) bs p e most := by rw [listM, hk]; rfl
    rw [hL, List.nil_append]
    exact ⟨[0, 1, 2, 3, 4], _, slS (listM (spanR bs) bs p e most).1, selHR _, leNone renS, rfl, rfl⟩

theorem need100 (hb : bs.length ≤ big) (hp : p ≤ bs.length) : ASpec Try.prog 93 [.ptr 2 0, .ptr 1 0, .ptr 3 0] (HR bs p e) (fun r H' => r = .agg (encN (needR bs p e).1) ∧ H' = HR bs (needR bs p e).2.1 (needR bs p e).2.2) := by
  have h1 := strM_p (e := e) (most := 24) hp
  refine ASpec.sel (s93 _ _ _ _ (ASpec.call (subHR [.cells [.str ⟨#[]⟩, .sl 0 (.raw []) .nil]] (name98 (e := e) hb hp) rfl rfl) (Les.refl _) ⟨(B (strM bs p e 24).1, ((strM bs p e 24).2.1 : Nat), (strM bs p e 24).2.2), rfl, rfl, ?_⟩))
  refine ASpec.call (subHR [.cells [.str ⟨#[]⟩, .sl 0 (.raw []) .nil], .cells [.str (B (strM bs p e 24).1), .sl 0 (.raw []) .nil]] (list101 (e := (strM bs p e 24).2.2) (most := 6) (by omega) hb h1) rfl rfl) (Les.refl _)
    ⟨((listM (spanR bs) bs (strM bs p e 24).2.1 (strM bs p e 24).2.2 6).1, ((listM (spanR bs) bs (strM bs p e 24).2.1 (strM bs p e 24).2.2 6).2.1 : Nat), (listM (spanR bs) bs (strM bs p e 24).2.1 (strM bs p e 24).2.2 6).2.2), rfl, rfl, ?_⟩
  exact ⟨[0, 1, 2, 3, 4], HR bs (needR bs p e).2.1 (needR bs p e).2.2, .agg (encN (needR bs p e).1), selHR _, Le.refl _, rfl, rfl⟩

theorem loop104 {Post : AV → List AObj → Prop} (hb : bs.length ≤ big) : ∀ (k p : Nat) (e : Int) (acc : List Need), p ≤ bs.length → acc.length + k ≤ 100 →
    Post (.sl 2 (.map encN ([], []) (acc ++ (listR (needR bs) k p e).1)) (.tok 5)) (HR bs (listR (needR bs) k p e).2.1 (listR (needR bs) k p e).2.2 ++ [.tok]) →
    AWP Try.prog 27 5 c97_3 [(0, .ptr 0 0), (2, .fn 93 [.ptr 2 0, .ptr 1 0, .ptr 3 0]), (7, .sl 2 (.map encN ([], []) acc) (.tok 5)), (8, .int .i64 k)] (HR bs p e ++ [.tok]) (q97_2 5 Post) := by
  intro k
  induction k with
  | zero =>
    intro p e acc hp ha h
    refine v97_3 _ _ _ _ _ _ _ (condD (fun hc => by omega) fun _ => ?_)
    simp only [listR, List.append_nil] at h
    exact h
  | succ k ih =>
    intro p e acc hp ha h
    simp only [listR] at h
    refine v97_3 _ _ _ _ _ _ _ (condD (fun _ => ?_) fun hc => by omega)
    refine ASpec.call (err_spec (H := HR bs p e ++ [.tok]) (id := 0) (bs := bs) (p := p) (e := e) rfl) (Les.refl _) ⟨e, rfl, rfl, condE (fun he => ?_) fun he => ?_⟩
    · rw [if_pos he] at h
      refine ASpec.call (subHR [.tok] (need100 (e := e) hb hp) rfl rfl) (Les.refl _) ⟨((needR bs p e).1, ((needR bs p e).2.1 : Nat), (needR bs p e).2.2), rfl, rfl, needJ (by omega) ?_⟩
      rw [show IntKind.wrap .i64 (((k + 1 : Nat) : Int) - 1) = (k : Int) by rw [wrap64 (by omega) (by omega)]; omega]
      refine AWP.shape [0, 1, 2, 3, 4, 6] [(0, .ptr 0 0), (2, .fn 93 [.ptr 2 0, .ptr 1 0, .ptr 3 0]), (7, .sl 2 (.map encN ([], []) (acc ++ [(needR bs p e).1])) (.tok 5)), (8, .int .i64 k)] _ selTokR
        ⟨rfl, Le.refl _, rfl, Le.refl _, rfl, leAppT renN rfl rfl, rfl, Le.refl _, trivial⟩ (ih _ _ _ (needR_p bs p e hp) (by simp; omega) ?_)
      simpa using h
    · rw [if_neg he] at h
      simp only [List.append_nil] at h
      exact h

theorem list104 {most : Int} (hm : 0 ≤ most ∧ most ≤ 100) (hb : bs.length ≤ big) (hp : p ≤ bs.length) : ASpec Try.prog 97 [.ptr 0 0, .int .i64 most, .fn 93 [.ptr 2 0, .ptr 1 0, .ptr 3 0]] (HR bs p e)
    (fun r H' => r = slN (listM (needR bs) bs p e most).1 ∧ H' = HR bs (listM (needR bs) bs p e most).2.1 (listM (needR bs) bs p e most).2.2) := by
  have hn := numM_most bs p e most hm.1
  refine ASpec.sel (s97 _ _ _ _ _ (ASpec.call (num_spec (H := HR bs p e) (id := 0) (bs := bs) (p := p) (e := e) most hb hp rfl) (Les.refl _) ⟨((numM bs p e most).1, ((numM bs p e most).2.1 : Nat), (numM bs p e most).2.2), rfl, rfl, ?_⟩))
  refine AWP.re (ReSt.tok (H := HR bs (numM bs p e most).2.1 (numM bs p e most).2.2) (k := 7) (q' := .map encN ([], []) []) (sz' := 2) (s2 := [(0, .ptr 0 0), (2, .fn 93 [.ptr 2 0, .ptr 1 0, .ptr 3 0]), (7, .sl 2 (.map encN ([], []) []) (.tok 5)), (8, .int .i64 (numM bs p e most).1)]) rfl (.inl rfl) rfl (.inr rfl) (fun d hd => ?_) rfl) ?_
  · simp only [Ab.get]
    have e : Nat.beq 7 d = false := by
      cases hx : Nat.beq 7 d with
      | false => rfl
      | true => exact absurd (Nat.eq_of_beq_eq_true hx).symm hd
    rw [e]; rfl
  · obtain ⟨k, hk⟩ := Int.eq_ofNat_of_zero_le hn.1
    rw [hk]
    refine loop104 hb k _ _ [] (numM_p hp) (by simp; omega) ?_
    have hL : listR (needR bs) k (numM bs p e most).2.1 (numM bs p e most).2.2 = listM (needR bs) bs p e most := by rw [listM, hk]; rfl
    rw [hL, List.nil_append]
    exact ⟨[0, 1, 2, 3, 4], _, slN (listM (needR bs) bs p e most).1, selHR _, leNone renN, rfl, rfl⟩

theorem rel103 (hb : bs.length ≤ big) (hp : p ≤ bs.length) : ASpec Try.prog 96 [.ptr 1 0, .ptr 4 0] (HR bs p e) (fun r H' => r = .agg (T.encR (relR bs p e).1) ∧ H' = HR bs (relR bs p e).2.1 (relR bs p e).2.2) := by
  have h1 := numM_p (e := e) (most := 1000000000) hp
  refine ASpec.sel (s96 _ _ _ _ (ASpec.call (num_spec (H := HR bs p e ++ [.cells [.int .i64 0, .sl 0 (.raw []) .nil]]) (id := 0) (bs := bs) (p := p) (e := e) 1000000000 hb hp rfl) (Les.refl _) ⟨((numM bs p e 1000000000).1, ((numM bs p e 1000000000).2.1 : Nat), (numM bs p e 1000000000).2.2), rfl, rfl, ?_⟩))
  refine ASpec.call (subHR [.cells [.int .i64 0, .sl 0 (.raw []) .nil], .cells [.int .i64 (numM bs p e 1000000000).1, .sl 0 (.raw []) .nil]] (list104 (e := (numM bs p e 1000000000).2.2) (most := 6) (by omega) hb h1) rfl rfl) (Les.refl _)
    ⟨((listM (needR bs) bs (numM bs p e 1000000000).2.1 (numM bs p e 1000000000).2.2 6).1, ((listM (needR bs) bs (numM bs p e 1000000000).2.1 (numM bs p e 1000000000).2.2 6).2.1 : Nat), (listM (needR bs) bs (numM bs p e 1000000000).2.1 (numM bs p e 1000000000).2.2 6).2.2), rfl, rfl, ?_⟩
  exact ⟨[0, 1, 2, 3, 4], HR bs (relR bs p e).2.1 (relR bs p e).2.2, .agg (T.encR (relR bs p e).1), selHR _, Le.refl _, rfl, rfl⟩

theorem loop102 {Post : AV → List AObj → Prop} (hb : bs.length ≤ big) : ∀ (k p : Nat) (e : Int) (acc : List Rel), p ≤ bs.length → acc.length + k ≤ 100 →
    Post (.sl 2 (.map T.encR (0, []) (acc ++ (listR (relR bs) k p e).1)) (.tok 5)) (HR bs (listR (relR bs) k p e).2.1 (listR (relR bs) k p e).2.2 ++ [.tok]) →
    AWP Try.prog 27 5 c95_3 [(0, .ptr 0 0), (2, .fn 96 [.ptr 1 0, .ptr 4 0]), (7, .sl 2 (.map T.encR (0, []) acc) (.tok 5)), (8, .int .i64 k)] (HR bs p e ++ [.tok]) (q95_2 5 Post) := by
  intro k
  induction k with
  | zero =>
    intro p e acc hp ha h
    refine v95_3 _ _ _ _ _ _ _ (condD (fun hc => by omega) fun _ => ?_)
    simp only [listR, List.append_nil] at h
    exact h
  | succ k ih =>
    intro p e acc hp ha h
    simp only [listR] at h
    refine v95_3 _ _ _ _ _ _ _ (condD (fun _ => ?_) fun hc => by omega)
    refine ASpec.call (err_spec (H := HR bs p e ++ [.tok]) (id := 0) (bs := bs) (p := p) (e := e) rfl) (Les.refl _) ⟨e, rfl, rfl, condE (fun he => ?_) fun he => ?_⟩
    · rw [if_pos he] at h
      refine ASpec.call (subHR [.tok] (rel103 (e := e) hb hp) rfl rfl) (Les.refl _) ⟨((relR bs p e).1, ((relR bs p e).2.1 : Nat), (relR bs p e).2.2), rfl, rfl, needJ (by omega) ?_⟩
      rw [show IntKind.wrap .i64 (((k + 1 : Nat) : Int) - 1) = (k : Int) by rw [wrap64 (by omega) (by omega)]; omega]
      refine AWP.shape [0, 1, 2, 3, 4, 6] [(0, .ptr 0 0), (2, .fn 96 [.ptr 1 0, .ptr 4 0]), (7, .sl 2 (.map T.encR (0, []) (acc ++ [(relR bs p e).1])) (.tok 5)), (8, .int .i64 k)] _ selTokR
        ⟨rfl, Le.refl _, rfl, Le.refl _, rfl, leAppT renR rfl rfl, rfl, Le.refl _, trivial⟩ (ih _ _ _ (relR_p bs p e hp) (by simp; omega) ?_)
      simpa using h
    · rw [if_neg he] at h
      simp only [List.append_nil] at h
      exact h

theorem list102 {most : Int} (hm : 0 ≤ most ∧ most ≤ 100) (hb : bs.length ≤ big) (hp : p ≤ bs.length) : ASpec Try.prog 95 [.ptr 0 0, .int .i64 most, .fn 96 [.ptr 1 0, .ptr 4 0]] (HR bs p e)
    (fun r H' => r = slR (listM (relR bs) bs p e most).1 ∧ H' = HR bs (listM (relR bs) bs p e most).2.1 (listM (relR bs) bs p e most).2.2) := by
  have hn := numM_most bs p e most hm.1
  refine ASpec.sel (s95 _ _ _ _ _ (ASpec.call (num_spec (H := HR bs p e) (id := 0) (bs := bs) (p := p) (e := e) most hb hp rfl) (Les.refl _) ⟨((numM bs p e most).1, ((numM bs p e most).2.1 : Nat), (numM bs p e most).2.2), rfl, rfl, ?_⟩))
  refine AWP.re (ReSt.tok (H := HR bs (numM bs p e most).2.1 (numM bs p e most).2.2) (k := 7) (q' := .map T.encR (0, []) []) (sz' := 2) (s2 := [(0, .ptr 0 0), (2, .fn 96 [.ptr 1 0, .ptr 4 0]), (7, .sl 2 (.map T.encR (0, []) []) (.tok 5)), (8, .int .i64 (numM bs p e most).1)]) rfl (.inl rfl) rfl (.inr rfl) (fun d hd => ?_) rfl) ?_
  · simp only [Ab.get]
    have e : Nat.beq 7 d = false := by
      cases hx : Nat.beq 7 d with
      | false => rfl
      | true => exact absurd (Nat.eq_of_beq_eq_true hx).symm hd
    rw [e]; rfl
  · obtain ⟨k, hk⟩ := Int.eq_ofNat_of_zero_le hn.1
    rw [hk]
    refine loop102 hb k _ _ [] (numM_p hp) (by simp; omega) ?_
    have hL : listR (relR bs) k (numM bs p e most).2.1 (numM bs p e most).2.2 = listM (relR bs) bs p e most := by rw [listM, hk]; rfl
    rw [hL, List.nil_append]
    exact ⟨[0, 1, 2, 3, 4], _, slR (listM (relR bs) bs p e most).1, selHR _, leNone renR, rfl, rfl⟩

end

abbrev zM : AObj := .cells [.str ⟨#[]⟩, .sl 0 (.raw []) .nil]

theorem read_spec (bs : List UInt8) (hb : bs.length ≤ 1000000) (H : List AObj) : ASpec Try.prog 64 [sl1 bs] H (fun r H' => r = .tup [.agg (encM (readM bs).1), .int .i64 (readM bs).2] ∧ H' = H) := by
  have k : ASpec Try.prog 64 [sl1 bs] [] (fun r H' => r = .tup [.agg (encM (readM bs).1), .int .i64 (readM bs).2] ∧ H' = []) := by
    have hb' : bs.length ≤ big := by unfold big; omega
    have none_ : ∀ (c : Int) (H' : List AObj), readM bs = (([], []), c) → ∃ l H2 r2, Sel 0 l H' H2 ∧ Le (.tup [.agg [.str ⟨#[]⟩, .sl 0 (.raw []) .nil], .int .i64 c]) (AV.ren (selR l H'.length) r2) ∧
        r2 = .tup [.agg (encM (readM bs).1), .int .i64 (readM bs).2] ∧ H2 = [] := by
      intro c H' e
      rw [e]
      exact ⟨[], [], .tup [.agg (encM ([], [])), .int .i64 c], Sel.none,
        Le.tup ⟨Le.agg ⟨Le.refl _, Le.sl (s' := Seq.ren _ (.map T.encR (0, []) [])) rfl (.inr ⟨rfl, fun _ h => by cases h⟩) (.inr rfl), trivial⟩, Le.refl _, trivial⟩, rfl, rfl⟩
    refine ASpec.sel (s64 _ _ (condD (fun h => none_ 4 _ ?_) fun h => ?_))
    · rw [readM, if_pos (by omega)]
    have hR : readM bs = endM (maniR bs).1 (closeM (maniR bs).2.2 (bs.length - (maniR bs).2.1)) := by rw [readM, if_neg (by omega)]
    refine ASpec.call (V.open_spec bs hb' [zM]) (Les.refl _) ⟨bs, rfl, rfl, ?_⟩
    have c1 : ASpec Try.prog 89 [.ptr 2 0] [zM, rd bs 0 0, .cells [.ptr 1 0], .cells [.fn 89 [.ptr 2 0]], .cells [.fn 91 [.ptr 2 0]], .cells [.fn 93 [.ptr 3 0, .ptr 2 0, .ptr 4 0]]]
        (fun r H' => r = .str (B (strM bs 0 0 24).1) ∧ H' = [zM, rd bs (strM bs 0 0 24).2.1 (strM bs 0 0 24).2.2, .cells [.ptr 1 0], .cells [.fn 89 [.ptr 2 0]], .cells [.fn 91 [.ptr 2 0]], .cells [.fn 93 [.ptr 3 0, .ptr 2 0, .ptr 4 0]]]) := by
      refine ASpec.subH [1, 2, 3, 4, 5] _ _ (name98 (bs := bs) (p := 0) (e := 0) hb' (by omega)) _ _ (by decide) rfl rfl rfl (fun i hi => ?_) rfl
      match i, hi with
      | 0, _ | 1, _ | 2, _ | 3, _ | 4, _ => rfl
    refine ASpec.call c1 (Les.refl _) ⟨(B (strM bs 0 0 24).1, ((strM bs 0 0 24).2.1 : Nat), (strM bs 0 0 24).2.2), rfl, rfl, ?_⟩
    have hp1 : (strM bs 0 0 24).2.1 ≤ bs.length := strM_p (by omega)
    have c2 : ASpec Try.prog 95 [.ptr 1 0, .int .i64 8, .fn 96 [.ptr 2 0, .ptr 5 0]] [zM, rd bs (strM bs 0 0 24).2.1 (strM bs 0 0 24).2.2, .cells [.ptr 1 0], .cells [.fn 89 [.ptr 2 0]], .cells [.fn 91 [.ptr 2 0]], .cells [.fn 93 [.ptr 3 0, .ptr 2 0, .ptr 4 0]], .cells [.str (B (strM bs 0 0 24).1), .sl 0 (.raw []) .nil]]
        (fun r H' => r = slR (maniR bs).1.2 ∧ H' = [zM, rd bs (maniR bs).2.1 (maniR bs).2.2, .cells [.ptr 1 0], .cells [.fn 89 [.ptr 2 0]], .cells [.fn 91 [.ptr 2 0]], .cells [.fn 93 [.ptr 3 0, .ptr 2 0, .ptr 4 0]], .cells [.str (B (strM bs 0 0 24).1), .sl 0 (.raw []) .nil]]) := by
      refine ASpec.subH [1, 2, 3, 4, 5] _ _ (list102 (bs := bs) (p := (strM bs 0 0 24).2.1) (e := (strM bs 0 0 24).2.2) (most := 8) (by omega) hb' hp1) _ _ (by decide) rfl rfl rfl (fun i hi => ?_) rfl
      match i, hi with
      | 0, _ | 1, _ | 2, _ | 3, _ | 4, _ => rfl
    refine ASpec.call c2 (Les.refl _) ⟨((maniR bs).1.2, ((maniR bs).2.1 : Nat), (maniR bs).2.2), rfl, rfl, ?_⟩
    refine ASpec.call (close_spec (id := 1) (bs := bs) (p := (maniR bs).2.1) (e := (maniR bs).2.2) hb' (maniR_p bs) rfl) (Les.refl _) ⟨_, rfl, rfl, ?_⟩
    generalize hc : closeM (maniR bs).2.2 (bs.length - (maniR bs).2.1) = c at hR
    refine condE (fun h0 => ?_) fun h0 => condNe (fun _ => none_ _ _ (by rw [hR, endM, if_pos h0])) fun h1 => (h0 h1).elim
    refine ASpec.call (maniCheck_spec (maniR bs).1 (maniR_ok bs) _) (Les.refl _) ⟨_, rfl, rfl, condBn (fun hm => none_ _ _ ?_) fun hm => condNe (fun h1 => (h1 h0).elim) fun _ => ?_⟩
    · rw [hR, endM, if_neg (by simpa using h0), if_neg (by rw [hm]; simp)]
    · rw [hR, endM, if_neg (by simpa using h0), if_pos hm]
      exact ⟨[], [], .tup [.agg (encM (maniR bs).1), .int .i64 0], Sel.none, Le.refl _, rfl, rfl⟩
  exact ASpec.pureH H k _ _ rfl rfl

end W
end

section
/- WirePuts: the bytes of any manifest, and the manifest of any bytes, or what is wrong first, are the document's: the law's function returns true. -/

set_option linter.unusedVariables false
set_option linter.unusedSimpArgs false
set_option maxRecDepth 100000
open Go Go.Ab Go.Proofs V S T C
namespace W

/-! ### the document's model -/

def dSpan (l : List UInt8) (e : Int) : Span × List UInt8 × Int :=
  (((dnumM l e 1000000000).1, IntKind.wrap .i64 ((dnumM l e 1000000000).1 + (dnumM (dnumM l e 1000000000).2.1 (dnumM l e 1000000000).2.2 1000000000).1)),
    (dnumM (dnumM l e 1000000000).2.1 (dnumM l e 1000000000).2.2 1000000000).2)

def dF {α : Type} (one : List UInt8 → Int → α × List UInt8 × Int) : Nat → List UInt8 → Int → List α × List UInt8 × Int
  | 0, l, e => ([], l, e)
  | k + 1, l, e => ((one l e).1 :: (dF one k (one l e).2.1 (one l e).2.2).1, (dF one k (one l e).2.1 (one l e).2.2).2)

def dL {α : Type} (one : List UInt8 → Int → α × List UInt8 × Int) (l : List UInt8) (e most : Int) : List α × List UInt8 × Int :=
  dF one (dnumM l e most).1.toNat (dnumM l e most).2.1 (dnumM l e most).2.2

def dNeed (l : List UInt8) (e : Int) : Need × List UInt8 × Int :=
  (((dstrM l e 24).1, (dL dSpan (dstrM l e 24).2.1 (dstrM l e 24).2.2 6).1), (dL dSpan (dstrM l e 24).2.1 (dstrM l e 24).2.2 6).2)
def dRel (l : List UInt8) (e : Int) : Rel × List UInt8 × Int :=
  (((dnumM l e 1000000000).1, (dL dNeed (dnumM l e 1000000000).2.1 (dnumM l e 1000000000).2.2 6).1), (dL dNeed (dnumM l e 1000000000).2.1 (dnumM l e 1000000000).2.2 6).2)
def dMani (l : List UInt8) : Mani × List UInt8 × Int :=
  (((dstrM l 0 24).1, (dL dRel (dstrM l 0 24).2.1 (dstrM l 0 24).2.2 8).1), (dL dRel (dstrM l 0 24).2.1 (dstrM l 0 24).2.2 8).2)
def dRead (l : List UInt8) : Mani × Int := if 8192 < l.length then (([], []), 4) else endM (dMani l).1 (closeM (dMani l).2.2 (dMani l).2.1.length)

/-! ### it is the code's -/

def Alike {α : Type} (bs : List UInt8) (R : α × Nat × Int) (D : α × List UInt8 × Int) : Prop := D.2.1 = bs.drop R.2.1 ∧ D.2.2 = R.2.2 ∧ (R.2.2 = 0 → D.1 = R.1)

/-- behind an error nothing is taken -/
def Sticks {α : Type} (one : List UInt8 → Int → α × List UInt8 × Int) : Prop := ∀ l e, e ≠ 0 → (one l e).2 = (l, e)

theorem dnumM_err {l : List UInt8} {e most : Int} (h : e ≠ 0) : dnumM l e most = (0, l, e) := by simp only [dnumM, if_pos h]
theorem dstrM_err {l : List UInt8} {e most : Int} (h : e ≠ 0) : dstrM l e most = ([], l, e) := by simp only [dstrM, if_pos h]

theorem dF_err {α : Type} {one : List UInt8 → Int → α × List UInt8 × Int} (hs : Sticks one) {e : Int} (h : e ≠ 0) : ∀ (k : Nat) (l : List UInt8), (dF one k l e).2 = (l, e)
  | 0, l => rfl
  | k + 1, l => by
    have := hs l e h
    simp only [dF, this]
    exact dF_err hs h k l

theorem dL_err {α : Type} {one : List UInt8 → Int → α × List UInt8 × Int} (hs : Sticks one) {l : List UInt8} {e most : Int} (h : e ≠ 0) : (dL one l e most).2 = (l, e) := by
  unfold dL
  rw [dnumM_err h]
  exact dF_err hs h _ _

theorem dSpan_sticks : Sticks dSpan := fun l e h => by simp only [dSpan, dnumM_err h]
theorem dNeed_sticks : Sticks dNeed := fun l e h => by simp only [dNeed, dstrM_err h, dL_err dSpan_sticks h]
theorem dRel_sticks : Sticks dRel := fun l e h => by simp only [dRel, dnumM_err h, dL_err dNeed_sticks h]

theorem listR_err {α : Type} {one : Nat → Int → α × Nat × Int} {e : Int} (h : e ≠ 0) (k p : Nat) : listR one k p e = ([], p, e) := by
  cases k with
  | zero => rfl
  | succ k => simp only [listR, if_neg h]

theorem alikeF {α : Type} {bs : List UInt8} {one : Nat → Int → α × Nat × Int} {done : List UInt8 → Int → α × List UInt8 × Int} (h1 : ∀ p e, p ≤ bs.length → Alike bs (one p e) (done (bs.drop p) e)) (hin : Inside bs one) (hs : Sticks done) :
    ∀ (k p : Nat) (e : Int), p ≤ bs.length → Alike bs (listR one k p e) (dF done k (bs.drop p) e)
  | 0, p, e, hp => ⟨rfl, rfl, fun _ => rfl⟩
  | k + 1, p, e, hp => by
    by_cases he : e = 0
    · obtain ⟨a1, a2, a3⟩ := h1 p e hp
      obtain ⟨b1, b2, b3⟩ := alikeF h1 hin hs k (one p e).2.1 (one p e).2.2 (hin p e hp)
      simp only [listR, if_pos he, dF, a1, a2]
      refine ⟨b1, b2, fun h0 => ?_⟩
      have hz : (one p e).2.2 = 0 := by
        by_cases hz : (one p e).2.2 = 0
        · exact hz
        · simp only [listR_err hz] at h0
          exact h0
      show _ :: _ = _ :: _
      rw [a3 hz, b3 h0]
    · rw [listR_err he]
      have := dF_err hs he (k + 1) (bs.drop p)
      exact ⟨by rw [this], by rw [this], fun h => (he h).elim⟩

theorem alikeL {α : Type} {bs : List UInt8} {one : Nat → Int → α × Nat × Int} {done : List UInt8 → Int → α × List UInt8 × Int} (h1 : ∀ p e, p ≤ bs.length → Alike bs (one p e) (done (bs.drop p) e)) (hin : Inside bs one) (hs : Sticks done)
    {p : Nat} {e most : Int} (hp : p ≤ bs.length) : Alike bs (listM one bs p e most) (dL done (bs.drop p) e most) := by
  obtain ⟨hd, hq⟩ := num_doc bs p e most hp
  unfold listM dL
  rw [hd]
  exact alikeF h1 hin hs _ _ _ hq

theorem alikeSpan (bs : List UInt8) (p : Nat) (e : Int) (hp : p ≤ bs.length) : Alike bs (spanR bs p e) (dSpan (bs.drop p) e) := by
  obtain ⟨hd, hq⟩ := num_doc bs p e 1000000000 hp
  obtain ⟨hd2, hq2⟩ := num_doc bs (numM bs p e 1000000000).2.1 (numM bs p e 1000000000).2.2 1000000000 hq
  unfold dSpan spanR Alike
  rw [hd]
  simp only [hd2]
  exact ⟨trivial, trivial, fun _ => trivial⟩

theorem alikeNeed (bs : List UInt8) (p : Nat) (e : Int) (hp : p ≤ bs.length) : Alike bs (needR bs p e) (dNeed (bs.drop p) e) := by
  obtain ⟨hd, hq⟩ := str_doc bs p e 24 hp
  obtain ⟨a1, a2, a3⟩ := alikeL (alikeSpan bs) (spanR_p bs) dSpan_sticks (e := (strM bs p e 24).2.2) (most := 6) hq
  unfold dNeed needR Alike
  rw [hd]
  simp only [a1, a2]
  exact ⟨trivial, trivial, fun h => by rw [a3 h]⟩

theorem alikeRel (bs : List UInt8) (p : Nat) (e : Int) (hp : p ≤ bs.length) : Alike bs (relR bs p e) (dRel (bs.drop p) e) := by
  obtain ⟨hd, hq⟩ := num_doc bs p e 1000000000 hp
  obtain ⟨a1, a2, a3⟩ := alikeL (alikeNeed bs) (needR_p bs) dNeed_sticks (e := (numM bs p e 1000000000).2.2) (most := 6) hq
  unfold dRel relR Alike
  rw [hd]
  simp only [a1, a2]
  exact ⟨trivial, trivial, fun h => by rw [a3 h]⟩

theorem alikeMani (bs : List UInt8) : Alike bs (maniR bs) (dMani bs) := by
  obtain ⟨hd, hq⟩ := str_doc bs 0 0 24 (Nat.zero_le _)
  rw [List.drop_zero] at hd
  obtain ⟨a1, a2, a3⟩ := alikeL (alikeRel bs) (relR_p bs) dRel_sticks (e := (strM bs 0 0 24).2.2) (most := 8) hq
  unfold dMani maniR Alike
  rw [hd]
  simp only [a1, a2]
  exact ⟨trivial, trivial, fun h => by rw [a3 h]⟩

theorem dRead_eq (bs : List UInt8) : dRead bs = readM bs := by
  obtain ⟨a1, a2, a3⟩ := alikeMani bs
  unfold dRead readM
  rw [a1, a2, List.length_drop]
  by_cases h : (maniR bs).2.2 = 0
  · rw [a3 h]
  · have hc : ∀ n, closeM (maniR bs).2.2 n = (maniR bs).2.2 := fun n => by simp only [closeM, if_pos h]
    rw [hc]
    unfold endM
    rw [if_pos h, if_pos h]

/-! ### the document's walk -/

theorem dnumM_len (l : List UInt8) (e most : Int) : (dnumM l e most).2.1.length ≤ l.length := by
  unfold dnumM; split <;> simp
theorem dstrM_len (l : List UInt8) (e most : Int) : (dstrM l e most).2.1.length ≤ l.length := by
  unfold dstrM; repeat' split
  all_goals simp
theorem dnumM_most (l : List UInt8) (e most : Int) (h : 0 ≤ most) : 0 ≤ (dnumM l e most).1 ∧ (dnumM l e most).1 ≤ most := by
  unfold dnumM
  split
  · exact ⟨Int.le_refl _, h⟩
  · exact ⟨(lookM_le _ _).2.1, lookM_most _ _ h⟩
theorem dSpan_len (l : List UInt8) (e : Int) : (dSpan l e).2.1.length ≤ l.length := Nat.le_trans (dnumM_len _ _ _) (dnumM_len _ _ _)
theorem dF_len {α : Type} {one : List UInt8 → Int → α × List UInt8 × Int} (h : ∀ l e, (one l e).2.1.length ≤ l.length) : ∀ (k : Nat) (l : List UInt8) (e : Int), (dF one k l e).2.1.length ≤ l.length
  | 0, l, e => Nat.le_refl _
  | k + 1, l, e => Nat.le_trans (dF_len h k _ _) (h l e)
theorem dL_len {α : Type} {one : List UInt8 → Int → α × List UInt8 × Int} (h : ∀ l e, (one l e).2.1.length ≤ l.length) (l : List UInt8) (e most : Int) : (dL one l e most).2.1.length ≤ l.length :=
  Nat.le_trans (dF_len h _ _ _) (dnumM_len _ _ _)
theorem dNeed_len (l : List UInt8) (e : Int) : (dNeed l e).2.1.length ≤ l.length := Nat.le_trans (dL_len dSpan_len _ _ _) (dstrM_len _ _ _)
theorem dRel_len (l : List UInt8) (e : Int) : (dRel l e).2.1.length ≤ l.length := Nat.le_trans (dL_len dNeed_len _ _ _) (dnumM_len _ _ _)

section
variable {Post : AV → List AObj → Prop}

theorem q9 {acc : List Need} {n i : Int} {nm : List UInt8} (ha : acc.length ≤ 100) {k : Nat} (hk : k ≤ 100) {R : Need × List UInt8 × Int}
    (K : AWP Try.prog 47 1 c112_4 [(0, .ptr 0 0), (3, .sl 2 (.map encN ([], []) (acc ++ [R.1])) (.tok 1)), (4, .int .i64 n), (5, .int .i64 (IntKind.wrap .i64 (i + 1)))] [dr R.2.1 R.2.2, .tok] (q112_2 1 Post)) :
    ∀ (m j : Nat) (l : List UInt8) (e : Int) (sp : List Span), m + j = k → l.length ≤ 10 * big → sp.length + m ≤ 100 → R = ((nm, sp ++ (dF dSpan m l e).1), (dF dSpan m l e).2) →
    AWP Try.prog 47 1 c112_9 [(0, .ptr 0 0), (3, .sl 2 (.map encN ([], []) acc) (.tok 1)), (4, .int .i64 n), (5, .int .i64 i), (6, .ptr 2 0), (7, .int .i64 k), (8, .int .i64 j)]
      [dr l e, .tok, .cells [.str (B nm), .sl 2 (.map encS (0, 0) sp) (.tok 3)], .tok] (q112_7 1 Post) := by
  intro m
  induction m with
  | zero =>
    intro j l e sp hm hl hs hR
    refine v112_9 _ _ _ _ _ _ _ _ _ _ _ (condD (fun hc => by omega) fun _ => needJ (by omega) ?_)
    simp only [dF, List.append_nil] at hR
    subst hR
    refine AWP.shape [0, 4] [(0, .ptr 0 0), (3, .sl 2 (.map encN ([], []) (acc ++ [(nm, sp)])) (.tok 1)), (4, .int .i64 n), (5, .int .i64 (IntKind.wrap .i64 (i + 1)))] [dr l e, .tok] ?_ ⟨rfl, Le.refl _, rfl, ?_, rfl, Le.refl _, rfl, Le.refl _, trivial⟩ K
    · refine ⟨by decide, rfl, by decide, fun i hi => ?_, fun i hi => .inl ?_⟩
      · match i, hi with
        | 0, _ => rfl
      · match i, hi with
        | 0, _ | 1, _ => rfl
    · exact Le.trans (leAppE (x := (nm, sp)) ⟨Le.refl _, Le.sl rfl (.inl rfl) (.inr rfl), trivial⟩) (Le.refl _)
  | succ m ih =>
    intro j l e sp hm hl hs hR
    refine v112_9 _ _ _ _ _ _ _ _ _ _ _ (condD (fun _ => ?_) fun hc => by omega)
    have h1 := dnumM_len l e 1000000000
    refine ASpec.call (dnum_spec (H := [dr l e, .tok, .cells [.str (B nm), .sl 2 (.map encS (0, 0) sp) (.tok 3)], .tok]) (id := 0) (l := l) (e := e) 1000000000 hl rfl) (Les.refl _)
      ⟨((dnumM l e 1000000000).1, B (dnumM l e 1000000000).2.1, (dnumM l e 1000000000).2.2), rfl, rfl, ?_⟩
    refine ASpec.call (dnum_spec (H := [dr (dnumM l e 1000000000).2.1 (dnumM l e 1000000000).2.2, .tok, .cells [.str (B nm), .sl 2 (.map encS (0, 0) sp) (.tok 3)], .tok]) (id := 0) (l := (dnumM l e 1000000000).2.1) (e := (dnumM l e 1000000000).2.2) 1000000000 (by omega) rfl) (Les.refl _)
      ⟨((dnumM (dnumM l e 1000000000).2.1 (dnumM l e 1000000000).2.2 1000000000).1, B (dnumM (dnumM l e 1000000000).2.1 (dnumM l e 1000000000).2.2 1000000000).2.1, (dnumM (dnumM l e 1000000000).2.1 (dnumM l e 1000000000).2.2 1000000000).2.2), rfl, rfl, needJ (by omega) ?_⟩
    refine AWP.re (ReSt.leCell (id := 2) (cs' := [.str (B nm), .sl 2 (.map encS (0, 0) (sp ++ [(dSpan l e).1])) (.tok 4)]) rfl ⟨Le.refl _, leAppE (Les.refl _), trivial⟩) ?_
    rw [succ64 (by omega)]
    refine AWP.shape [0, 1, 2, 4] [(0, .ptr 0 0), (3, .sl 2 (.map encN ([], []) acc) (.tok 1)), (4, .int .i64 n), (5, .int .i64 i), (6, .ptr 2 0), (7, .int .i64 k), (8, .int .i64 (j + 1 : Nat))]
      [dr (dSpan l e).2.1 (dSpan l e).2.2, .tok, .cells [.str (B nm), .sl 2 (.map encS (0, 0) (sp ++ [(dSpan l e).1])) (.tok 3)], .tok] ?_
      ⟨rfl, Le.refl _, rfl, Le.refl _, rfl, Le.refl _, rfl, Le.refl _, rfl, Le.refl _, rfl, Le.refl _, rfl, Le.refl _, trivial⟩ (ih (j + 1) _ _ _ (by omega) (Nat.le_trans (dSpan_len l e) hl) (by simp; omega) ?_)
    · refine ⟨by decide, rfl, by decide, fun i hi => ?_, fun i hi => .inl ?_⟩
      · match i, hi with
        | 0, _ => rfl
      · match i, hi with
        | 0, _ | 1, _ | 2, _ | 3, _ => rfl
    · rw [hR]; simp [dF]

theorem q4 {n : Nat} (hn : n ≤ 50) : ∀ (m i : Nat) (l : List UInt8) (e : Int) (acc : List Need), m + i = n → l.length ≤ 10 * big → acc.length + m ≤ 100 →
    Post (.sl 2 (.map encN ([], []) (acc ++ (dF dNeed m l e).1)) (.tok 1)) [dr (dF dNeed m l e).2.1 (dF dNeed m l e).2.2, .tok] →
    AWP Try.prog 47 1 c112_4 [(0, .ptr 0 0), (3, .sl 2 (.map encN ([], []) acc) (.tok 1)), (4, .int .i64 n), (5, .int .i64 i)] [dr l e, .tok] (q112_2 1 Post) := by
  intro m
  induction m with
  | zero =>
    intro i l e acc hm hl ha h
    refine v112_4 _ _ _ _ _ _ _ (condD (fun hc => by omega) fun _ => ?_)
    simp only [dF, List.append_nil] at h
    exact h
  | succ m ih =>
    intro i l e acc hm hl ha h
    refine v112_4 _ _ _ _ _ _ _ (condD (fun _ => ?_) fun hc => by omega)
    have h1 := dstrM_len l e 24
    have h2 := dnumM_most (dstrM l e 24).2.1 (dstrM l e 24).2.2 6 (by omega)
    have h3 := dnumM_len (dstrM l e 24).2.1 (dstrM l e 24).2.2 6
    refine ASpec.call (dstr_spec (H := [dr l e, .tok]) (id := 0) (l := l) (e := e) 24 hl rfl) (Les.refl _) ⟨(B (dstrM l e 24).1, B (dstrM l e 24).2.1, (dstrM l e 24).2.2), rfl, rfl, ?_⟩
    refine ASpec.call (dnum_spec (H := [dr (dstrM l e 24).2.1 (dstrM l e 24).2.2, .tok, .cells [.str (B (dstrM l e 24).1), .sl 0 (.raw []) .nil]]) (id := 0) (l := (dstrM l e 24).2.1) (e := (dstrM l e 24).2.2) 6 (by omega) rfl) (Les.refl _)
      ⟨((dnumM (dstrM l e 24).2.1 (dstrM l e 24).2.2 6).1, B (dnumM (dstrM l e 24).2.1 (dstrM l e 24).2.2 6).2.1, (dnumM (dstrM l e 24).2.1 (dstrM l e 24).2.2 6).2.2), rfl, rfl, ?_⟩
    refine AWP.re (ReSt.tokCell (id := 2) (j := 1) (q' := .map encS (0, 0) []) (sz' := 2) rfl rfl (.inl rfl) rfl (.inr rfl)) ?_
    obtain ⟨k, hk⟩ := Int.eq_ofNat_of_zero_le h2.1
    rw [hk]
    refine q9 (nm := (dstrM l e 24).1) (by omega) (k := k) (by omega) (R := dNeed l e) ?_ k 0 _ _ [] (by omega) (by omega) (by simp; omega) ?_
    · rw [succ64 (by omega)]
      refine ih (i + 1) _ _ _ (by omega) (Nat.le_trans (dNeed_len l e) hl) (by simp; omega) ?_
      simp only [dF] at h
      simpa using h
    · rw [dNeed, dL, hk]; rfl

theorem dneeds_read {H : List AObj} {id : Nat} {l : List UInt8} {e : Int} (hl : l.length ≤ 10 * big) (h : AtD H id l e) :
    ASpec Try.prog 112 [.ptr id 0] H (fun r H' => r = slN (dL dNeed l e 6).1 ∧ H' = H.set id (dr (dL dNeed l e 6).2.1 (dL dNeed l e 6).2.2)) := by
  have k : ASpec Try.prog 112 [.ptr 0 0] [dr l e] (fun r H' => r = slN (dL dNeed l e 6).1 ∧ H' = [dr (dL dNeed l e 6).2.1 (dL dNeed l e 6).2.2]) := by
    have h2 := dnumM_most l e 6 (by omega)
    have h3 := dnumM_len l e 6
    refine ASpec.sel (s112 _ _ _ (ASpec.call (dnum_spec (H := [dr l e]) (id := 0) (l := l) (e := e) 6 hl rfl) (Les.refl _) ⟨((dnumM l e 6).1, B (dnumM l e 6).2.1, (dnumM l e 6).2.2), rfl, rfl, ?_⟩))
    refine AWP.re (ReSt.tok (H := [dr (dnumM l e 6).2.1 (dnumM l e 6).2.2]) (k := 3) (q' := .map encN ([], []) []) (sz' := 2) (s2 := [(0, .ptr 0 0), (3, .sl 2 (.map encN ([], []) []) (.tok 1)), (4, .int .i64 (dnumM l e 6).1), (5, .int .i64 0)]) rfl (.inl rfl) rfl (.inr rfl) (fun d hd => ?_) rfl) ?_
    · simp only [Ab.get]
      have e : Nat.beq 3 d = false := by
        cases hx : Nat.beq 3 d with
        | false => rfl
        | true => exact absurd (Nat.eq_of_beq_eq_true hx).symm hd
      rw [e]; rfl
    · obtain ⟨k, hk⟩ := Int.eq_ofNat_of_zero_le h2.1
      rw [hk]
      refine q4 (n := k) (by omega) k 0 _ _ [] (by omega) (by omega) (by simp; omega) ?_
      have hL : dF dNeed k (dnumM l e 6).2.1 (dnumM l e 6).2.2 = dL dNeed l e 6 := by rw [dL, hk]; rfl
      rw [hL, List.nil_append]
      refine ⟨[0], [dr (dL dNeed l e 6).2.1 (dL dNeed l e 6).2.2], slN (dL dNeed l e 6).1, ?_, leNone renN, rfl, rfl⟩
      refine ⟨by decide, rfl, Nat.le_refl _, fun i hi => ?_, fun i hi => .inl ?_⟩
      · match i, hi with
        | 0, _ => rfl
      · match i, hi with
        | 0, _ => rfl
  exact ASpec.oneH H id k _ _ _ rfl rfl h rfl

/-- a manifest and an error are told, whatever lies in the heap -/
abbrev PM (v : Mani × Int) : AV → List AObj → Prop := fun r H' => ∃ l H2 r2, Sel 0 l H' H2 ∧ Le r (AV.ren (selR l H'.length) r2) ∧ (r2 = .tup [.agg (encM v.1), .int .i64 v.2] ∧ H2 = [])

theorem pmNil {v : Mani × Int} {c : Int} {H' : List AObj} (h : v = (([], []), c)) : PM v (.tup [.agg [.str ⟨#[]⟩, .sl 0 (.raw []) .nil], .int .i64 c]) H' := by
  subst h
  exact ⟨[], [], .tup [.agg (encM ([], [])), .int .i64 c], Sel.none,
    Le.tup ⟨Le.agg ⟨Le.refl _, Le.sl (s' := Seq.ren _ (.map T.encR (0, []) [])) rfl (.inr ⟨rfl, fun _ h => by cases h⟩) (.inr rfl), trivial⟩, Le.refl _, trivial⟩, rfl, rfl⟩

theorem pmVal {v : Mani × Int} {nm : List UInt8} {rs : List Rel} {tip : Tip} {H' : List AObj} (h : v = ((nm, rs), 0)) : PM v (.tup [.agg [.str (B nm), .sl 2 (.map T.encR (0, []) rs) tip], .int .i64 0]) H' := by
  subst h
  exact ⟨[], [], .tup [.agg (encM (nm, rs)), .int .i64 0], Sel.none, Le.tup ⟨Le.agg ⟨Le.refl _, leNone renR, trivial⟩, Le.refl _, trivial⟩, rfl, rfl⟩

theorem q7 {nm : List UInt8} {n : Nat} (hn : n ≤ 50) {v : Mani × Int} {R : List Rel × List UInt8 × Int} (hR : v = endM (nm, R.1) (closeM R.2.2 R.2.1.length)) (hok : closeM R.2.2 R.2.1.length = 0 → okM (nm, R.1)) :
    ∀ (m i : Nat) (l : List UInt8) (e : Int) (acc : List Rel), m + i = n → l.length ≤ 10 * big → acc.length + m ≤ 100 → R = (acc ++ (dF dRel m l e).1, (dF dRel m l e).2) →
    AWP Try.prog 53 0 c75_7 [(2, .ptr 0 0), (4, .ptr 1 0), (5, .ptr 2 0), (6, .int .i64 n), (7, .int .i64 i)] [zM, dr l e, .cells [.str (B nm), .sl 2 (.map T.encR (0, []) acc) (.tok 3)], .tok] (q75_2 0 (PM v)) := by
  intro m
  induction m with
  | zero =>
    intro i l e acc hm hl ha h
    simp only [dF, List.append_nil] at h
    subst h
    refine v75_7 _ _ _ _ _ _ _ _ (condD (fun hc => by omega) fun _ => ?_)
    refine ASpec.call (dclose_spec (H := [zM, dr l e, .cells [.str (B nm), .sl 2 (.map T.encR (0, []) acc) (.tok 3)], .tok]) (id := 1) (l := l) (e := e) rfl) (Les.refl _) ⟨_, rfl, rfl, ?_⟩
    generalize closeM e l.length = c at hR hok
    refine condE (fun h0 => ?_) fun h0 => condNe (fun _ => pmNil (by rw [hR, endM, if_pos h0])) fun h1 => (h0 h1).elim
    refine ASpec.call (rmaniCheck_spec (nm, acc) (hok h0) _) ⟨Le.agg ⟨Le.refl _, Le.sl rfl (.inl rfl) (.inr rfl), trivial⟩, trivial⟩ ⟨_, rfl, rfl, condBn (fun hm => pmNil ?_) fun hm => condNe (fun h1 => (h1 h0).elim) fun _ => pmVal ?_⟩
    · rw [hR, endM, if_neg (by simpa using h0), if_neg (by rw [hm]; simp)]
    · rw [hR, endM, if_neg (by simpa using h0), if_pos hm]
  | succ m ih =>
    intro i l e acc hm hl ha h
    have h1 := dnumM_len l e 1000000000
    refine v75_7 _ _ _ _ _ _ _ _ (condD (fun _ => ?_) fun hc => by omega)
    refine ASpec.call (dnum_spec (H := [zM, dr l e, .cells [.str (B nm), .sl 2 (.map T.encR (0, []) acc) (.tok 3)], .tok]) (id := 1) (l := l) (e := e) 1000000000 hl rfl) (Les.refl _)
      ⟨((dnumM l e 1000000000).1, B (dnumM l e 1000000000).2.1, (dnumM l e 1000000000).2.2), rfl, rfl, ?_⟩
    refine ASpec.call (dneeds_read (H := [zM, dr (dnumM l e 1000000000).2.1 (dnumM l e 1000000000).2.2, .cells [.str (B nm), .sl 2 (.map T.encR (0, []) acc) (.tok 3)], .tok, .cells [.int .i64 (dnumM l e 1000000000).1, .sl 0 (.raw []) .nil]]) (id := 1) (l := (dnumM l e 1000000000).2.1) (e := (dnumM l e 1000000000).2.2) (by omega) rfl) (Les.refl _)
      ⟨((dRel l e).1.2, B (dRel l e).2.1, (dRel l e).2.2), rfl, rfl, needJ (by omega) ?_⟩
    refine AWP.re (ReSt.leCell (id := 2) (cs' := [.str (B nm), .sl 2 (.map T.encR (0, []) (acc ++ [(dRel l e).1])) (.tok 5)]) rfl ⟨Le.refl _, leAppE (Les.refl _), trivial⟩) ?_
    rw [succ64 (by omega)]
    refine AWP.shape [0, 1, 2, 5] [(2, .ptr 0 0), (4, .ptr 1 0), (5, .ptr 2 0), (6, .int .i64 n), (7, .int .i64 (i + 1 : Nat))]
      [zM, dr (dRel l e).2.1 (dRel l e).2.2, .cells [.str (B nm), .sl 2 (.map T.encR (0, []) (acc ++ [(dRel l e).1])) (.tok 3)], .tok] ?_
      ⟨rfl, Le.refl _, rfl, Le.refl _, rfl, Le.refl _, rfl, Le.refl _, rfl, Le.refl _, trivial⟩ (ih (i + 1) _ _ _ (by omega) (Nat.le_trans (dRel_len l e) hl) (by simp; omega) ?_)
    · refine ⟨by decide, rfl, by decide, fun i hi => by omega, fun i hi => .inl ?_⟩
      match i, hi with
      | 0, _ | 1, _ | 2, _ | 3, _ => rfl
    · rw [h]; simp [dF]

theorem rread_spec (bs : List UInt8) (hb : bs.length ≤ 1000000) (H : List AObj) : ASpec Try.prog 75 [.str (B bs)] H (fun r H' => r = .tup [.agg (encM (readM bs).1), .int .i64 (readM bs).2] ∧ H' = H) := by
  have k : ASpec Try.prog 75 [.str (B bs)] [] (fun r H' => r = .tup [.agg (encM (readM bs).1), .int .i64 (readM bs).2] ∧ H' = []) := by
    have hl : bs.length ≤ 10 * big := by unfold big; omega
    refine ASpec.sel (s75 _ _ ?_)
    rw [B_size]
    refine condD (fun h => pmNil ?_) fun h => ?_
    · rw [readM, if_pos (by omega)]
    have h1 := dstrM_len bs 0 24
    have h2 := dnumM_most (dstrM bs 0 24).2.1 (dstrM bs 0 24).2.2 8 (by omega)
    have h3 := dnumM_len (dstrM bs 0 24).2.1 (dstrM bs 0 24).2.2 8
    refine ASpec.call (dstr_spec (H := [zM, dr bs 0]) (id := 1) (l := bs) (e := 0) 24 hl rfl) (Les.refl _) ⟨(B (dstrM bs 0 24).1, B (dstrM bs 0 24).2.1, (dstrM bs 0 24).2.2), rfl, rfl, ?_⟩
    refine ASpec.call (dnum_spec (H := [zM, dr (dstrM bs 0 24).2.1 (dstrM bs 0 24).2.2, .cells [.str (B (dstrM bs 0 24).1), .sl 0 (.raw []) .nil]]) (id := 1) (l := (dstrM bs 0 24).2.1) (e := (dstrM bs 0 24).2.2) 8 (by omega) rfl) (Les.refl _)
      ⟨((dnumM (dstrM bs 0 24).2.1 (dstrM bs 0 24).2.2 8).1, B (dnumM (dstrM bs 0 24).2.1 (dstrM bs 0 24).2.2 8).2.1, (dnumM (dstrM bs 0 24).2.1 (dstrM bs 0 24).2.2 8).2.2), rfl, rfl, ?_⟩
    refine AWP.re (ReSt.tokCell (id := 2) (j := 1) (q' := .map T.encR (0, []) []) (sz' := 2) rfl rfl (.inl rfl) rfl (.inr rfl)) ?_
    obtain ⟨k, hk⟩ := Int.eq_ofNat_of_zero_le h2.1
    rw [hk]
    obtain ⟨a1, a2, a3⟩ := alikeMani bs
    refine q7 (n := k) (by omega) (R := ((dMani bs).1.2, (dMani bs).2)) ?_ ?_ k 0 _ _ [] (by omega) (by omega) (by simp; omega) ?_
    · rw [← dRead_eq, dRead, if_neg (by omega)]; rfl
    · intro h0
      have he : (maniR bs).2.2 = 0 := by
        by_cases he : (maniR bs).2.2 = 0
        · exact he
        · simp only [a2] at h0
          have hc : ∀ n, closeM (maniR bs).2.2 n = (maniR bs).2.2 := fun n => by simp only [closeM, if_pos he]
          rw [hc] at h0
          exact h0
      have := maniR_ok bs
      rw [← a3 he] at this
      exact this
    · simp only [dMani, dL, hk]; rfl
  exact ASpec.pureH H k _ _ rfl rfl

/-! ### are they alike? -/

theorem cons_dec {α : Type} [DecidableEq α] (x y : α) (a b : List α) : decide (x :: a = y :: b) = (decide (x = y) && decide (a = b)) := by
  rw [Bool.eq_iff_iff]; simp

/-! ### the law -/

end
end W
end

section
/- The index of manifests: what is put first stays. -/

set_option linter.unusedVariables false
set_option linter.unusedSimpArgs false
set_option maxRecDepth 100000
open Go Go.Ab Go.Proofs V S T C
open W (sl1 slS slN slR leNone renN renR readM)
namespace X

abbrev PA (r0 : AV) : AV → List AObj → Prop := fun r H' => ∃ l H2 r2, Sel 0 l H' H2 ∧ Le r (AV.ren (selR l H'.length) r2) ∧ (r2 = r0 ∧ H2 = [])
theorem pa {r r0 : AV} {H' : List AObj} (h : Le r (AV.ren (selR [] H'.length) r0)) : PA r0 r H' := ⟨[], [], r0, Sel.none, h, rfl, rfl⟩
/-! ### copies -/

theorem leS0 {ρ : Nat → Nat} : Le (.sl 0 (.raw []) .nil) (AV.ren ρ (slS [])) := Le.sl (s' := Seq.ren ρ (.map encS (0, 0) [])) rfl (.inr ⟨rfl, fun _ h => by cases h⟩) (.inr rfl)

theorem cloneS_spec (l : List Span) (hl : l.length ≤ lim) (H : List AObj) : ASpec Try.prog 115 [slS l] H (fun r H' => r = slS l ∧ H' = H) := by
  unfold lim at hl
  have k : ASpec Try.prog 115 [slS l] [] (fun r H' => r = slS l ∧ H' = []) := by
    refine ASpec.sel (s115 _ _ fun b hb => condB (fun h => pa ?_) fun h => needJ (fun x => rfl) (needJ (by omega) (pa ?_)))
    · have := hb h
      simp only [Ab.Seq.toList, List.map_eq_nil_iff] at this
      subst this
      exact leS0
    · exact Le.sl (s' := Seq.ren _ (.map encS (0, 0) l)) (by simp [Ab.Seq.toList, Seq.ren, W.renS]) (.inl rfl) (.inr rfl)
  exact ASpec.pureH H k _ _ rfl rfl

theorem cloneR3 {v : Int} {l : List Need} {R : List Need} (hl : okN l) : ∀ (m i : Nat) (acc : List Need), m + i = l.length → acc.length + m ≤ lim → acc ++ l.drop i = R →
    AWP Try.prog 29 0 c76_3 [(2, .ptr 0 0), (3, .ptr 1 0), (10, slN l), (11, .int .i64 l.length), (12, .int .i64 i)]
      [.cells [.int .i64 0, .sl 0 (.raw []) .nil], .cells [.int .i64 v, .sl 2 (.map encN ([], []) acc) (.tok 2)], .tok] (q76_2 0 (PA (.agg (T.encR (v, R))))) := by
  obtain ⟨hl1, hl2⟩ := hl
  unfold lim at hl1
  intro m
  induction m with
  | zero =>
    intro i acc hm ha h
    refine v76_3 _ _ _ _ _ _ _ (condD (fun hc => by omega) fun _ => pa ?_)
    rw [List.drop_eq_nil_of_le (by omega), List.append_nil] at h
    subst h
    exact Le.agg ⟨Le.refl _, leNone renN, trivial⟩
  | succ m ih =>
    intro i acc hm ha h
    unfold lim at ha
    have hx := hl2 _ (memD l ([], []) i (by omega))
    rw [dropD l ([], []) i (by omega)] at h
    refine v76_3 _ _ _ _ _ _ _ (condD (fun hc => needJ ⟨by omega, by omega⟩ ?_) fun hc => by omega)
    rw [Int.toNat_natCast]
    generalize l.getD i ([], []) = x at h hx ⊢
    refine ASpec.call (cloneS_spec x.2 hx.2 _) (Les.refl _) ⟨x.2, rfl, rfl, ⟨rfl, rfl⟩, ⟨rfl, rfl⟩, needJ (by omega) ?_⟩
    refine AWP.re (ReSt.leCell (id := 1) (cs' := [.int .i64 v, .sl 2 (.map encN ([], []) (acc ++ [x])) (.tok 4)]) rfl ⟨Le.refl _, leAppE (Les.refl _), trivial⟩) ?_
    rw [succ64 (by omega)]
    refine AWP.shape [0, 1, 4] [(2, .ptr 0 0), (3, .ptr 1 0), (10, slN l), (11, .int .i64 l.length), (12, .int .i64 (i + 1 : Nat))]
      [.cells [.int .i64 0, .sl 0 (.raw []) .nil], .cells [.int .i64 v, .sl 2 (.map encN ([], []) (acc ++ [x])) (.tok 2)], .tok] ?_
      ⟨rfl, Le.refl _, rfl, Le.refl _, rfl, Le.refl _, rfl, Le.refl _, rfl, Le.refl _, trivial⟩ (ih (i + 1) _ (by omega) (by simp; unfold lim; omega) ?_)
    · refine ⟨by decide, rfl, by decide, fun i hi => by omega, fun i hi => .inl ?_⟩
      match i, hi with
      | 0, _ | 1, _ | 2, _ => rfl
    · rw [← h]; simp

theorem cloneR_spec (x : Rel) (hl : okN x.2) (H : List AObj) : ASpec Try.prog 76 [.agg (T.encR x)] H (fun r H' => r = .agg (T.encR x) ∧ H' = H) := by
  have k : ASpec Try.prog 76 [.agg (T.encR x)] [] (fun r H' => r = .agg (T.encR x) ∧ H' = []) := by
    refine ASpec.sel (s76 _ _ ?_)
    refine AWP.re (ReSt.tokCell (id := 2) (j := 1) (q' := .map encN ([], []) []) (sz' := 2) rfl rfl (.inl rfl) rfl (.inr rfl)) ?_
    refine AWP.shape [1, 2, 3] [(2, .ptr 0 0), (3, .ptr 1 0), (10, slN x.2), (11, .int .i64 x.2.length), (12, .int .i64 (0 : Nat))]
      [.cells [.int .i64 0, .sl 0 (.raw []) .nil], .cells [.int .i64 x.1, .sl 2 (.map encN ([], []) []) (.tok 2)], .tok] ?_
      ⟨rfl, Le.refl _, rfl, Le.refl _, rfl, Le.refl _, rfl, Le.refl _, rfl, Le.refl _, trivial⟩ (cloneR3 hl x.2.length 0 [] (by omega) (by have := hl.1; simp; omega) rfl)
    refine ⟨by decide, rfl, by decide, fun i hi => by omega, fun i hi => .inl ?_⟩
    match i, hi with
    | 0, _ | 1, _ | 2, _ => rfl
  exact ASpec.pureH H k _ _ rfl rfl

theorem cloneM3 {s : List UInt8} {l : List Rel} {R : List Rel} (hl1 : l.length ≤ lim) (hl2 : ∀ r ∈ l, okN r.2) : ∀ (m i : Nat) (acc : List Rel), m + i = l.length → acc.length + m ≤ lim → acc ++ l.drop i = R →
    AWP Try.prog 25 0 c59_3 [(2, .ptr 0 0), (3, .ptr 1 0), (10, slR l), (11, .int .i64 l.length), (12, .int .i64 i)]
      [.cells [.str ⟨#[]⟩, .sl 0 (.raw []) .nil], .cells [.str (B s), .sl 2 (.map T.encR (0, []) acc) (.tok 2)], .tok] (q59_2 0 (PA (.agg (encM (s, R))))) := by
  unfold lim at hl1
  intro m
  induction m with
  | zero =>
    intro i acc hm ha h
    refine v59_3 _ _ _ _ _ _ _ (condD (fun hc => by omega) fun _ => pa ?_)
    rw [List.drop_eq_nil_of_le (by omega), List.append_nil] at h
    subst h
    exact Le.agg ⟨Le.refl _, leNone renR, trivial⟩
  | succ m ih =>
    intro i acc hm ha h
    unfold lim at ha
    have hx := hl2 _ (memD l (0, []) i (by omega))
    rw [dropD l (0, []) i (by omega)] at h
    refine v59_3 _ _ _ _ _ _ _ (condD (fun hc => needJ ⟨by omega, by omega⟩ ?_) fun hc => by omega)
    rw [Int.toNat_natCast]
    generalize l.getD i (0, []) = x at h hx ⊢
    refine ASpec.call (cloneR_spec x hx _) (Les.refl _) ⟨x, rfl, rfl, ⟨rfl, rfl⟩, needJ (by omega) ?_⟩
    refine AWP.re (ReSt.leCell (id := 1) (cs' := [.str (B s), .sl 2 (.map T.encR (0, []) (acc ++ [x])) (.tok 4)]) rfl ⟨Le.refl _, leAppE (Les.refl _), trivial⟩) ?_
    rw [succ64 (by omega)]
    refine AWP.shape [0, 1, 4] [(2, .ptr 0 0), (3, .ptr 1 0), (10, slR l), (11, .int .i64 l.length), (12, .int .i64 (i + 1 : Nat))]
      [.cells [.str ⟨#[]⟩, .sl 0 (.raw []) .nil], .cells [.str (B s), .sl 2 (.map T.encR (0, []) (acc ++ [x])) (.tok 2)], .tok] ?_
      ⟨rfl, Le.refl _, rfl, Le.refl _, rfl, Le.refl _, rfl, Le.refl _, rfl, Le.refl _, trivial⟩ (ih (i + 1) _ (by omega) (by simp; unfold lim; omega) ?_)
    · refine ⟨by decide, rfl, by decide, fun i hi => by omega, fun i hi => .inl ?_⟩
      match i, hi with
      | 0, _ | 1, _ | 2, _ => rfl
    · rw [← h]; simp

theorem cloneM_spec (x : Mani) (hl : okM x) (H : List AObj) : ASpec Try.prog 59 [.agg (encM x)] H (fun r H' => r = .agg (encM x) ∧ H' = H) := by
  have k : ASpec Try.prog 59 [.agg (encM x)] [] (fun r H' => r = .agg (encM x) ∧ H' = []) := by
    refine ASpec.sel (s59 _ _ ?_)
    refine AWP.re (ReSt.tokCell (id := 2) (j := 1) (q' := .map T.encR (0, []) []) (sz' := 2) rfl rfl (.inl rfl) rfl (.inr rfl)) ?_
    refine AWP.shape [1, 2, 3] [(2, .ptr 0 0), (3, .ptr 1 0), (10, slR x.2), (11, .int .i64 x.2.length), (12, .int .i64 (0 : Nat))]
      [.cells [.str ⟨#[]⟩, .sl 0 (.raw []) .nil], .cells [.str (B x.1), .sl 2 (.map T.encR (0, []) []) (.tok 2)], .tok] ?_
      ⟨rfl, Le.refl _, rfl, Le.refl _, rfl, Le.refl _, rfl, Le.refl _, rfl, Le.refl _, trivial⟩ (cloneM3 hl.2.1 hl.2.2 x.2.length 0 [] (by omega) (by have := hl.2.1; simp; omega) rfl)
    refine ⟨by decide, rfl, by decide, fun i hi => by omega, fun i hi => .inl ?_⟩
    match i, hi with
    | 0, _ | 1, _ | 2, _ => rfl
  exact ASpec.pureH H k _ _ rfl rfl

/-! ### the index in its heap -/

theorem EK_ren (ρ : Nat → Nat) : Enc.ren ρ EK = EK := by
  have e1 : (fun a => AV.ren ρ (EK.enc a)) = EK.enc := by funext a; cases a <;> rfl
  have e2 : (fun (a : Known) (K : AV → Prop) => EK.spl a (fun v => K (AV.ren ρ v))) = EK.spl := by funext a K; cases a <;> rfl
  unfold Enc.ren
  cases hE : EK with
  | mk enc spl ok =>
    rw [hE] at e1 e2
    simp only at e1 e2 ⊢
    simp only [e1, e2]

theorem mp_ren (ρ : Nat → Nat) (es : Kn) : AObj.ren ρ (.mp (.typed EK es)) = .mp (.typed EK es) := by
  simp only [AObj.ren, MM.ren, EK_ren]

theorem liftX {f : FuncId} {args args' : List AV} {r0 r' : AV} {es es' : Kn} (H : List AObj) (q p : Nat) (hqp : q ≠ p) (hq : H[q]? = some (.mp (.typed EK es))) (hp : H[p]? = some (.cells [.map q]))
    (k : ASpec Try.prog f args (HX es) (fun r H' => r = r0 ∧ H' = HX es')) (ha : args.map (AV.ren (callR [q, p] H.length)) = args') (hr : AV.ren (callR [q, p] H.length) r0 = r') :
    ASpec Try.prog f args' H (fun r H' => r = r' ∧ H' = H.set q (.mp (.typed EK es'))) := by
  refine ASpec.subH [q, p] H _ k args' r' (by simpa using hqp) rfl ha hr (fun i hi => ?_) ?_
  · match i, hi with
    | 0, _ => show H[q]? = some (AObj.ren _ (.mp (.typed EK es))); rw [mp_ren]; try exact hq
    | 1, _ => exact hp
  · have e : (H.set q (.mp (.typed EK es')))[p]? = some (.cells [.map q]) := by rw [List.getElem?_set_ne hqp]; exact hp
    have h2 : graftH (callR [q, p] H.length) [q, p] H (HX es') = (H.set q (AObj.ren (callR [q, p] H.length) (.mp (.typed EK es')))).set p (AObj.ren (callR [q, p] H.length) (.cells [.map 0])) := by
      simp [graftH, grafted, HX]
    rw [h2, mp_ren]
    exact set_same e

/-- the heap of an index, and a result -/
abbrev PX (es : Kn) (r0 : AV) : AV → List AObj → Prop := fun r H' => ∃ l H2 r2, Sel 2 l H' H2 ∧ Le r (AV.ren (selR l H'.length) r2) ∧ (r2 = r0 ∧ H2 = HX es)
theorem selX (es : Kn) (q : List AObj) : Sel 2 [0, 1] (HX es ++ q) (HX es) := by
  refine ⟨by decide, rfl, by decide, fun i hi => ?_, fun i hi => .inl ?_⟩
  · match i, hi with
    | 0, _ | 1, _ => rfl
  · match i, hi with
    | 0, _ => show some _ = some (AObj.ren _ (.mp (.typed EK es))); rw [mp_ren]
    | 1, _ => rfl
theorem px {es : Kn} {r r0 : AV} (q : List AObj) (h : Le r (AV.ren (selR [0, 1] (HX es ++ q).length) r0)) : PX es r0 r (HX es ++ q) := ⟨_, _, _, selX es q, h, rfl, rfl⟩

theorem new_spec (H : List AObj) : ASpec Try.prog 37 [] H (fun r H' => r = .ptr (H.length + 1) 0 ∧ H' = H ++ [.mp (.typed EK []), .cells [.map H.length]]) := by
  have k : ASpec Try.prog 37 [] [] (fun r H' => r = .ptr 1 0 ∧ H' = HX []) :=
    ASpec.outMap (s37 _ ⟨0, .nil, .typed EK [], rfl, mle_nil, rfl, rfl⟩)
  refine (ASpec.subH [] H (H ++ [.mp (.typed EK []), .cells [.map H.length]]) k [] (.ptr (H.length + 1) 0) (by simp) rfl rfl (by simp [AV.ren, callR]) (fun i hi => by cases hi) ?_)
  simp [graftH, grafted, HX, mp_ren]
  simp [AObj.ren, renL, AV.ren, callR]

def hasI (es : Kn) (k : List UInt8) : Bool := (findM es (B k)).isSome
def getM (es : Kn) (k : List UInt8) : Mani × Bool := match findM es (B k) with
  | some (some m) => (m, true)
  | _ => ((k, []), false)
def readK (k bs : List UInt8) : Known := if (readM bs).2 ≠ 0 ∨ (readM bs).1.1 ≠ k then none else some (readM bs).1
def putI (es : Kn) (k bs : List UInt8) : Int × Kn :=
  if fitM k = false ∨ 8192 < bs.length then (1, es) else if hasI es k = true then (6, es) else (0, setM es (B k) (readK k bs))
def OkX (es : Kn) : Prop := ∀ k m, findM es k = some (some m) → okM m

theorem optI {α : Type} {o : Option α} {A : α → Prop} {Z : Prop} (h1 : ∀ a, o = some a → A a) (h2 : o = none → Z) : optionP o A Z := by
  cases o with
  | none => exact h2 rfl
  | some a => exact h1 a rfl

theorem has0 (es : Kn) (k : List UInt8) : ASpec Try.prog 29 [.ptr 1 0, .str (B k)] (HX es) (fun r H' => r = .bool (hasI es k) ∧ H' = HX es) := by
  refine s29 _ _ _ (optI (fun a h => optI (fun m h2 => ⟨?_, rfl⟩) fun h2 => ⟨?_, rfl⟩) fun h => ⟨?_, rfl⟩) <;> (unfold hasI; rw [h]; rfl)
theorem has_spec (es : Kn) (k : List UInt8) (H : List AObj) (q p : Nat) (hqp : q ≠ p) (hq : H[q]? = some (.mp (.typed EK es))) (hp : H[p]? = some (.cells [.map q])) :
    ASpec Try.prog 29 [.ptr p 0, .str (B k)] H (fun r H' => r = .bool (hasI es k) ∧ H' = H) := by
  have := liftX H q p hqp hq hp (has0 es k) (args' := [.ptr p 0, .str (B k)]) rfl rfl
  rwa [set_same hq] at this

theorem good_spec (m : Mani) (H : List AObj) : ASpec Try.prog 155 [.agg (encM m)] H (fun r H' => r = .bool true ∧ H' = H) :=
  ASpec.pureH H (ASpec.sel (s155 _ _ (pb rfl))) _ _ rfl rfl
theorem bad_spec (H : List AObj) : ASpec Try.prog 156 [.agg []] H (fun r H' => r = .bool false ∧ H' = H) :=
  ASpec.pureH H (ASpec.sel (s156 _ (pb rfl))) _ _ rfl rfl

theorem get0 (es : Kn) (k : List UInt8) (hes : OkX es) : ASpec Try.prog 41 [.ptr 1 0, .str (B k)] (HX es) (fun r H' => r = .tup [.agg (encM (getM es k).1), .bool (getM es k).2] ∧ H' = HX es) := by
  have none : ∀ q : List AObj, getM es k = ((k, []), false) → PX es (.tup [.agg (encM (getM es k).1), .bool (getM es k).2]) (.tup [.agg [.str (B k), .sl 0 (.raw []) .nil], .bool false]) (HX es ++ q) := by
    intro q h
    rw [h]
    exact px q (Le.tup ⟨Le.agg ⟨Le.refl _, Le.sl (s' := Seq.ren _ (.map T.encR (0, []) [])) rfl (.inr ⟨rfl, fun _ h => by cases h⟩) (.inr rfl), trivial⟩, Le.refl _, trivial⟩)
  refine ASpec.sel (s41 _ _ _ (ASpec.call (has_spec es k _ 0 1 (by omega) rfl rfl) (Les.refl _) ⟨_, rfl, rfl, condBn (fun h => ?_) fun h => ?_⟩))
  · refine none [_, _] ?_
    unfold hasI at h
    unfold getM
    cases hf : findM es (B k) with
    | none => rfl
    | some a => rw [hf] at h; cases h
  · refine optI (fun a ha => optI (fun m hm => ?_) fun hm => ?_) fun hn => ?_
    · subst hm
      refine ASpec.call (good_spec m _) (Les.refl _) ⟨(), rfl, rfl, optI (fun a' ha' => optI (fun m' hm' => ?_) fun hm' => ?_) fun hn => ?_⟩
      · rw [ha] at ha'; cases ha'; cases hm'
        refine ASpec.call (cloneM_spec m (hes _ _ ha) _) (Les.refl _) ⟨m, rfl, rfl, ?_⟩
        have e : getM es k = (m, true) := by unfold getM; rw [ha]
        rw [e]
        exact px [_, _, _] (Le.refl _)
      · rw [ha] at ha'; cases ha'; cases hm'
      · rw [ha] at hn; cases hn
    · subst hm
      refine ASpec.call (bad_spec _) (Les.refl _) ⟨(), rfl, rfl, none [_, _] ?_⟩
      unfold getM; rw [ha]
    · unfold hasI at h; rw [hn] at h; cases h
theorem get_spec (es : Kn) (k : List UInt8) (hes : OkX es) (H : List AObj) (q p : Nat) (hqp : q ≠ p) (hq : H[q]? = some (.mp (.typed EK es))) (hp : H[p]? = some (.cells [.map q])) :
    ASpec Try.prog 41 [.ptr p 0, .str (B k)] H (fun r H' => r = .tup [.agg (encM (getM es k).1), .bool (getM es k).2] ∧ H' = H) := by
  have := liftX H q p hqp hq hp (get0 es k hes) (args' := [.ptr p 0, .str (B k)]) (r' := .tup [.agg (encM (getM es k).1), .bool (getM es k).2]) rfl rfl
  rwa [set_same hq] at this

theorem read_found {k bs : List UInt8} {m : Mani} (hb : bs.length ≤ 1000000) (h : readK k bs = some m) (H : List AObj) : ASpec Try.prog 48 [.str (B k), sl1 bs] H (fun r H' => r = .iface 116 (.agg (encM m)) ∧ H' = H) := by
  have hk : ASpec Try.prog 48 [.str (B k), sl1 bs] [] (fun r H' => r = .iface 116 (.agg (encM m)) ∧ H' = []) := by
    unfold readK at h
    split at h
    · cases h
    · rename_i hh
      cases h
      refine ASpec.sel (s48 _ _ _ (ASpec.call (W.read_spec bs hb _) (Les.refl _) ⟨readM bs, rfl, rfl, condNe (fun h => (hh (.inl h)).elim) fun _ => condSn (fun h => (hh (.inr h)).elim) fun _ => pa (Le.refl _)⟩))
  exact ASpec.pureH H hk _ _ rfl rfl
theorem read_broken {k bs : List UInt8} (hb : bs.length ≤ 1000000) (h : readK k bs = none) (H : List AObj) : ASpec Try.prog 48 [.str (B k), sl1 bs] H (fun r H' => r = .iface 126 (.agg []) ∧ H' = H) := by
  have hk : ASpec Try.prog 48 [.str (B k), sl1 bs] [] (fun r H' => r = .iface 126 (.agg []) ∧ H' = []) := by
    unfold readK at h
    split at h
    · rename_i hh
      refine ASpec.sel (s48 _ _ _ (ASpec.call (W.read_spec bs hb _) (Les.refl _) ⟨readM bs, rfl, rfl, condNe (fun h => pa (Le.refl _)) fun h1 => condSn (fun h => pa (Le.refl _)) fun h2 => ?_⟩))
      rcases hh with h | h
      · exact (h h1).elim
      · exact (h h2).elim
    · cases h
  exact ASpec.pureH H hk _ _ rfl rfl

theorem put0 (es : Kn) (k bs : List UInt8) (hk : k.length ≤ lim) : ASpec Try.prog 20 [.ptr 1 0, .str (B k), sl1 bs] (HX es) (fun r H' => r = .int .i64 (putI es k bs).1 ∧ H' = HX (putI es k bs).2) := by
  have same : ∀ e : Int, putI es k bs = (e, es) → (∃ (id : Nat) (m m' : MM), (HX es)[id]? = some (.mp m) ∧ MLe m.toList m'.toList ∧ (AV.int .i64 e = .int .i64 (putI es k bs).1 ∧ (HX es).set id (.mp m') = HX (putI es k bs).2)) := by
    intro e h
    rw [h]
    exact ⟨0, .typed EK es, .typed EK es, rfl, MLe.of_eq rfl, rfl, rfl⟩
  refine ASpec.outMap (s20 _ _ _ _ ?_)
  refine ASpec.call (fit_spec (l := k) (by unfold big; unfold lim at hk; omega) _) (Les.refl _) ⟨_, rfl, rfl, condBn (fun h1 => same 1 ?_) fun h1 => condD (fun h2 => same 1 ?_) fun h2 => ?_⟩
  · rw [putI, if_pos (.inl h1)]
  · rw [putI, if_pos (.inr (by omega))]
  refine ASpec.call (has_spec es k _ 0 1 (by omega) rfl rfl) (Les.refl _) ⟨_, rfl, rfl, condB (fun h3 => same 6 ?_) fun h3 => ?_⟩
  · rw [putI, if_neg (by rw [h1]; simp; omega), if_pos h3]
  have hp : putI es k bs = (0, setM es (B k) (readK k bs)) := by rw [putI, if_neg (by rw [h1]; simp; omega), if_neg (by rw [h3]; simp)]
  rw [hp]
  cases hr : readK k bs with
  | some m =>
    refine ASpec.call (read_found (by omega) hr _) (Les.refl _) (.inl ⟨m, rfl, rfl, ⟨rfl, rfl⟩, ?_⟩)
    exact ⟨0, _, .typed EK (setM es (B k) (some m)), rfl, mle_put rfl, rfl, rfl⟩
  | none =>
    refine ASpec.call (read_broken (by omega) hr _) (Les.refl _) (.inr ⟨(), rfl, rfl, ⟨rfl, rfl⟩, ?_⟩)
    exact ⟨0, _, .typed EK (setM es (B k) none), rfl, mle_put rfl, rfl, rfl⟩
theorem put_spec (es : Kn) (k bs : List UInt8) (hk : k.length ≤ lim) (H : List AObj) (q p : Nat) (hqp : q ≠ p) (hq : H[q]? = some (.mp (.typed EK es))) (hp : H[p]? = some (.cells [.map q])) :
    ASpec Try.prog 20 [.ptr p 0, .str (B k), sl1 bs] H (fun r H' => r = .int .i64 (putI es k bs).1 ∧ H' = H.set q (.mp (.typed EK (putI es k bs).2))) :=
  liftX H q p hqp hq hp (put0 es k bs hk) rfl rfl

/-! ### the plain law -/

theorem okX_nil : OkX [] := fun k m h => by cases h
theorem okX_put {es : Kn} {k bs : List UInt8} (h : OkX es) : OkX (putI es k bs).2 := by
  unfold putI
  split
  · exact h
  · split
    · exact h
    · intro k' m hm
      simp only [findM_set] at hm
      split at hm
      · have hm := Option.some.inj hm
        unfold readK at hm
        split at hm
        · cases hm
        · cases hm
          exact W.readM_ok bs
      · exact h k' m hm

theorem find_none {es : Kn} {k : List UInt8} (h : hasI es k = false) : findM es (B k) = none := by
  unfold hasI at h
  cases hf : findM es (B k) with
  | none => rfl
  | some a => rw [hf] at h; cases h

/-! ### the law -/

noncomputable abbrev slEn (l : List Ent) : AV := .sl 2 (.map encEn ([], []) l) .none

def largeF : List Ent → Bool
  | [] => false
  | x :: r => if 200 < x.1.length ∨ 9000 < x.2.length then true else largeF r
def largeD (l : List Ent) : Bool := if 30 < l.length then true else largeF l

theorem large4 {l : List Ent} {c : Bool} (hl : l.length ≤ 30) : ∀ (m i : Nat), m + i = l.length → largeF (l.drop i) = c →
    AWP Try.prog 29 0 c8_4 [(0, slEn l), (3, .int .i64 i)] [] (q8_2 0 (PB c)) := by
  intro m
  induction m with
  | zero =>
    intro i hm h
    refine v8_4 _ _ _ _ (condD (fun hc => by omega) fun _ => pb ?_)
    rw [List.drop_eq_nil_of_le (by omega)] at h
    exact h
  | succ m ih =>
    intro i hm h
    have hin : (0 : Int) ≤ (i : Int) ∧ (i : Int) < (l.length : Int) := ⟨by omega, by omega⟩
    rw [dropD l ([], []) i (by omega)] at h
    simp only [largeF] at h
    refine v8_4 _ _ _ _ (condD (fun hc => needJ hin ?_) fun hc => by omega)
    rw [Int.toNat_natCast]
    generalize l.getD i ([], []) = x at h ⊢
    rw [B_size]
    refine condD (fun h1 => pb ?_) fun h1 => needJ hin (condD (fun h2 => pb ?_) fun h2 => ?_)
    · rw [if_pos (by omega)] at h; exact h
    · rw [if_pos (by omega)] at h; exact h
    · rw [if_neg (by omega)] at h
      rw [succ64 (by omega)]
      exact ih (i + 1) (by omega) h

theorem largeD_spec (l : List Ent) (H : List AObj) : ASpec Try.prog 8 [slEn l] H (fun r H' => r = .bool (largeD l) ∧ H' = H) := by
  have k : ASpec Try.prog 8 [slEn l] [] (fun r H' => r = .bool (largeD l) ∧ H' = []) := by
    refine ASpec.sel (s8 _ _ (condD (fun h => pb ?_) fun h => large4 (by omega) l.length 0 (by omega) ?_))
    · rw [largeD, if_pos (by omega)]
    · rw [largeD, if_neg (by omega)]; rfl
  exact ASpec.pureH H k _ _ rfl rfl

theorem largeF_ok : ∀ (l : List Ent), largeF l = false → ∀ x ∈ l, x.1.length ≤ 200 ∧ x.2.length ≤ 9000
  | [], _, n, hn => by simp at hn
  | x :: r, h, n, hn => by
    simp only [largeF] at h
    split at h
    · cases h
    · rcases List.mem_cons.1 hn with rfl | hn
      · omega
      · exact largeF_ok r h n hn

theorem largeD_ok {l : List Ent} (h : largeD l = false) : l.length ≤ 30 ∧ ∀ x ∈ l, x.1.length ≤ 200 ∧ x.2.length ≤ 9000 := by
  unfold largeD at h
  split at h
  · cases h
  · exact ⟨by omega, largeF_ok l h⟩

section
variable {l : List Ent}

end
end X
end

section
/- What was put of a manifest is read; what is read is put so. -/

set_option linter.unusedVariables false
set_option linter.unusedSimpArgs false
set_option maxRecDepth 100000
open Go Go.Ab Go.Proofs V S T C
namespace W

/-! ### what was put is read -/

/-! ### what is read is put so -/

/-! ### the law -/

section
variable {Post : AV → List AObj → Prop}

end
end W
end

section
/- The codecs of this seat's plain arguments. -/

open Go Go.Ab Go.Proofs
namespace Go.Ab

noncomputable def cInt : Codec Try.prog 3 Int := Codec.int .i64 Try.underlying3
noncomputable def cStr : Codec Try.prog 9 ByteArray := Codec.str Try.underlying9
noncomputable def cInts : Codec Try.prog 107 (List Int) := Codec.slice (sz := 1) cInt Try.underlying107 (by kernel_rfl) (by omega) (fun _ => rfl)
/-- a byte -/
noncomputable def cByte : Codec Try.prog 5 UInt8 where
  enc b := encB b
  ok _ := True
  dflt := 0
  opens := by
    intro H e w fuel cs x h
    obtain ⟨n, h1, h2⟩ := (Codec.int .u8 Try.underlying5).opens e w fuel cs x h
    have hn : 0 ≤ n ∧ n ≤ 255 := by simpa [Codec.int, Lit.wf, IntKind.min, IntKind.max, IntKind.signed, IntKind.bits] using h1
    refine ⟨UInt8.ofNat n.toNat, trivial, ?_⟩
    rw [← encB_ofNat hn.1 (by omega)]
    exact h2
noncomputable def cBytes : Codec Try.prog 41 (List UInt8) := Codec.slice (sz := 1) cByte Try.underlying41 (by kernel_rfl) (by omega) (fun _ => rfl)

end Go.Ab
end

section
/- The codecs of manifests. -/

open Go Go.Ab Go.Proofs
namespace Go.Ab

noncomputable def cName : Codec Try.prog 9 (List UInt8) := cStr.iso (fun s => s.data.toList) (fun l => [.str ⟨l.toArray⟩]) (fun _ => True) (fun _ => rfl) (fun _ _ => trivial)
noncomputable def cSpan : Codec Try.prog 72 T.Span :=
  (Codec.struct (n := 2) Try.underlying72 (FC.cons (k := 1) (n := 1) cInt rfl (by kernel_rfl) (FC.cons (k := 1) (n := 0) cInt rfl (by kernel_rfl) FC.nil)) (by kernel_rfl)).iso (fun x => (x.1, x.2.1)) T.encS (fun _ => True) (fun _ => rfl) (fun _ _ => trivial)
noncomputable def cSpans : Codec Try.prog 66 (List T.Span) := Codec.slice (sz := 2) cSpan Try.underlying66 (by kernel_rfl) (by omega) (fun _ => rfl)
noncomputable def cNeed : Codec Try.prog 68 T.Need :=
  (Codec.struct (n := 2) Try.underlying68 (FC.cons (k := 1) (n := 1) cName rfl (by kernel_rfl) (FC.cons (k := 1) (n := 0) cSpans rfl (by kernel_rfl) FC.nil)) (by kernel_rfl)).iso (fun x => (x.1, x.2.1)) T.encN (fun _ => True) (fun _ => rfl) (fun _ _ => trivial)
noncomputable def cNeeds : Codec Try.prog 23 (List T.Need) := Codec.slice (sz := 2) cNeed Try.underlying23 (by kernel_rfl) (by omega) (fun _ => rfl)
end Go.Ab
end

section
/- The codecs of lists of entries and of manifests. -/

open Go Go.Ab Go.Proofs
namespace Go.Ab
noncomputable def cEnt : Codec Try.prog 43 T.Ent :=
  (Codec.struct (n := 2) Try.underlying43 (FC.cons (k := 1) (n := 1) cName rfl (by kernel_rfl) (FC.cons (k := 1) (n := 0) cBytes rfl (by kernel_rfl) FC.nil)) (by kernel_rfl)).iso (fun x => (x.1, x.2.1)) T.encEn (fun _ => True) (fun _ => rfl) (fun _ _ => trivial)
noncomputable def cEnts : Codec Try.prog 22 (List T.Ent) := Codec.slice (sz := 2) cEnt Try.underlying22 (by kernel_rfl) (by omega) (fun _ => rfl)
end Go.Ab
end

section
/- The codec of what is asked of want. -/

open Go Go.Ab Go.Proofs
namespace Go.Ab
noncomputable def cNmL : Codec Try.prog 9 (List UInt8) := cStr.iso (fun s => s.data.toList) T.encL (fun _ => True) (fun _ => rfl) (fun _ _ => trivial)
noncomputable def cNmsL : Codec Try.prog 33 (List (List UInt8)) := (Codec.slice (sz := 1) cNmL Try.underlying33 (by kernel_rfl) (by omega) (fun _ => rfl))
noncomputable def cLsE : Codec Try.prog 33 (List (List UInt8)) := cNmsL.iso (fun x => x) T.encLs (fun _ => True) (fun _ => rfl) (fun _ _ => trivial)
noncomputable def cLists : Codec Try.prog 47 (List (List (List UInt8))) := Codec.slice (sz := 1) cLsE Try.underlying47 (by kernel_rfl) (by omega) (fun _ => rfl)
noncomputable def cBool : Codec Try.prog 4 Bool := Codec.bool Try.underlying4
noncomputable def cAsk : Codec Try.prog 49 T.Ask :=
  (Codec.struct (n := 3) Try.underlying49 (FC.cons (k := 1) (n := 2) cName rfl (by kernel_rfl) (FC.cons (k := 1) (n := 1) cBool rfl (by kernel_rfl) (FC.cons (k := 1) (n := 0) cLists rfl (by kernel_rfl) FC.nil))) (by kernel_rfl)).iso (fun x => (x.1, x.2.1, x.2.2.1)) T.encA (fun _ => True) (fun _ => rfl) (fun _ _ => trivial)
end Go.Ab
end
