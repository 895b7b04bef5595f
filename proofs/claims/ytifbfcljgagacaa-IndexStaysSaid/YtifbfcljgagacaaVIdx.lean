/- Printed: what the code of functions 71, 73, 74, 75, 76, 77, 208, 212, 133, 156, 162, 132, 72, 14 asks for, by the framework's own reading of it; each line is checked against the code. -/
import Derived.Test.YtifbfcljgagacaaProg
import Derived.Test.YtifbfcljgagacaaVWire
import Derived.Test.YtifbfcljgagacaaVTypesX
set_option linter.unusedVariables false
set_option maxRecDepth 100000
set_option maxHeartbeats 4000000
open Go Go.Ab Go.Proofs
namespace X
noncomputable section

noncomputable def updI (args : List AV) (H : List AObj) (es : T.Kn) : List AObj := match args with
  | .ptr p _ :: _ => match H[p]? with
    | some (.cells [.map q]) => H.set q (.mp (.typed T.EK es))
    | _ => H
  | _ => H
noncomputable def retX : List (Nat × Ret) := [
  (71, ⟨Bool, fun _ _ x => .bool x, fun _ H _ => H⟩), (74, ⟨Bool, fun _ _ x => .bool x, fun _ H _ => H⟩),
  (72, ⟨Unit, fun _ _ _ => .bool true, fun _ H _ => H⟩),
  (208, ⟨Unit, fun _ _ _ => .bool true, fun _ H _ => H⟩),
  (212, ⟨Unit, fun _ _ _ => .bool false, fun _ H _ => H⟩),
  (73, ⟨Unit, fun _ H _ => .ptr (H.length + 1) 0, fun _ H _ => H ++ [.mp (.typed T.EK []), .cells [.map H.length]]⟩),
  (75, ⟨T.Mani × Bool, fun _ _ x => .tup [.agg (T.encM x.1), .bool x.2], fun _ H _ => H⟩),
  (76, ⟨Int, fun _ _ x => .int .i64 x, fun _ H _ => H⟩),
  (77, ⟨Int × T.Kn, fun _ _ x => .int .i64 x.1, fun a H x => updI a H x.2⟩),
  (132, ⟨T.Mani, fun _ _ x => .agg (T.encM x), fun _ H _ => H⟩),
  (162, ⟨T.Rel, fun _ _ x => .agg (T.encR x), fun _ H _ => H⟩),
  (156, ⟨List T.Span, fun _ _ x => .sl 2 (.map T.encS (0, 0) x) .none, fun _ H _ => H⟩),
  (133, ⟨T.Mani, fun _ _ x => .iface 186 (.agg (T.encM x)), fun _ H _ => H⟩),
  (133, ⟨Unit, fun _ _ _ => .iface 225 (.agg []), fun _ H _ => H⟩)]
noncomputable def rets : FuncId → List Ret := lookupR (retX ++ W.retW ++ C.retC ++ V.retL)

-- 71
noncomputable def l71 : Nat → List Nat
  | 4 => [0, 3]
  | _ => []
noncomputable def u71 : Nat → Bool
  | _ => false
noncomputable def m71 : Nat → Bool
  | _ => false
noncomputable def g71 : Cfg := { N := 29, live := l71, cut := u71, mu := m71, ret := rets }
noncomputable def c71 : Go.Code := Go.Ab.bodyOf Go.Proofs.Try.f71
noncomputable def q71_0 : Nat → (AV → List AObj → Prop) → AQ := fun (n : Nat) (Post : AV → List AObj → Prop) => endQ Try.prog (resultsOf Try.f71) Post
noncomputable def q71_1 : Nat → (AV → List AObj → Prop) → AQ := fun (n : Nat) (Post : AV → List AObj → Prop) => seqQ (fun (s' : Slots) (H' : List AObj) => awp Try.prog g71 n (codeSnd (codeSnd (codeSnd c71))) s' H' (q71_0 n Post)) (q71_0 n Post)
noncomputable def q71_2 : Nat → (AV → List AObj → Prop) → AQ := fun (n : Nat) (Post : AV → List AObj → Prop) => blockQ 0 (q71_1 n Post)
noncomputable def c71_4 : Go.Code := codeFst (codeSnd (codeFst (codeSnd (codeSnd c71))))
theorem s71 : ∀ (l : List T.Ent) (Post : AV → List AObj → Prop),
  condP (decide ((↑(List.length l) : Int) > (30 : Int))) (Post (AV.bool true) [])
      (AWP Try.prog 29 0 c71_4 [(0, AV.sl 2 (Seq.map T.encEn ([], []) l) Tip.none), (3, AV.int IntKind.i64 (0 : Int))] [] (q71_2 0 Post)) →
    ASpec Try.prog 71 [AV.sl 2 (Seq.map T.encEn ([], []) l) Tip.none] [] Post := fun l Post h => Go.Ab.ASpec.of_vc g71 Go.Proofs.Try.func71 (by kernel_rfl) (by kernel_rfl) (by kernel_rfl) (Go.Ab.kc (by kernel_rfl) h)
theorem v71_4 : ∀ (l : List T.Ent) (i : Int) (n : Nat) (Post : AV → List AObj → Prop),
  condP (decide (i < (↑(List.length l) : Int)))
      (needP ((0 : Int) ≤ i ∧ i < (↑(List.length l) : Int))
        (condP (decide ((↑(ByteArray.size { data := List.toArray (Prod.fst (List.getD l (Int.toNat i) ([], []))) }) : Int) > (200 : Int))) (Post (AV.bool true) [])
          (needP ((0 : Int) ≤ i ∧ i < (↑(List.length l) : Int))
            (condP (decide ((↑(List.length (Prod.snd (List.getD l (Int.toNat i) ([], [])))) : Int) > (9000 : Int))) (Post (AV.bool true) [])
              (AWP Try.prog 29 n c71_4 [(0, AV.sl 2 (Seq.map T.encEn ([], []) l) Tip.none), (3, AV.int IntKind.i64 (IntKind.wrap IntKind.i64 (i + (1 : Int))))] []
                (q71_2 n Post))))))
      (Post (AV.bool false) []) →
    AWP Try.prog 29 n c71_4 [(0, AV.sl 2 (Seq.map T.encEn ([], []) l) Tip.none), (3, AV.int IntKind.i64 i)] [] (q71_2 n Post) := fun l i n Post h => Go.Ab.AWP.loop' g71 (Cfg.live g71) c71_4 (by kernel_rfl) (by kernel_rfl) (Go.Ab.kc (by kernel_rfl) h)

-- 73
noncomputable def l73 : Nat → List Nat
  | _ => []
noncomputable def u73 : Nat → Bool
  | _ => false
noncomputable def m73 : Nat → Bool
  | _ => false
noncomputable def g73 : Cfg := { N := 4, live := l73, cut := u73, mu := m73, ret := rets }
noncomputable def c73 : Go.Code := Go.Ab.bodyOf Go.Proofs.Try.f73
theorem s73 : ∀ (Post : AV → List AObj → Prop), Post (AV.ptr 1 0) [AObj.mp MM.nil, AObj.cells [AV.map 0]] → ASpec Try.prog 73 [] [] Post := fun Post h => Go.Ab.ASpec.of_vc g73 Go.Proofs.Try.func73 (by kernel_rfl) (by kernel_rfl) (by kernel_rfl) (Go.Ab.kc (by kernel_rfl) h)

-- 74
noncomputable def l74 : Nat → List Nat
  | _ => []
noncomputable def u74 : Nat → Bool
  | _ => false
noncomputable def m74 : Nat → Bool
  | _ => false
noncomputable def g74 : Cfg := { N := 19, live := l74, cut := u74, mu := m74, ret := rets }
noncomputable def c74 : Go.Code := Go.Ab.bodyOf Go.Proofs.Try.f74
theorem s74 : ∀ (es : T.Kn) (s : ByteArray) (Post : AV → List AObj → Prop),
  optionP (findM es s)
      (fun (x : T.Known) =>
        optionP x (fun (x : T.Mani) => Post (AV.bool true) [AObj.mp (MM.typed T.EK es), AObj.cells [AV.map 0]])
          (Post (AV.bool true) [AObj.mp (MM.typed T.EK es), AObj.cells [AV.map 0]]))
      (Post (AV.bool false) [AObj.mp (MM.typed T.EK es), AObj.cells [AV.map 0]]) →
    ASpec Try.prog 74 [AV.ptr 1 0, AV.str s] (T.HX es) Post := fun es s Post h => Go.Ab.ASpec.of_vc g74 Go.Proofs.Try.func74 (by kernel_rfl) (by kernel_rfl) (by kernel_rfl) (Go.Ab.kc (by kernel_rfl) h)

-- 75
noncomputable def l75 : Nat → List Nat
  | _ => []
noncomputable def u75 : Nat → Bool
  | _ => false
noncomputable def m75 : Nat → Bool
  | _ => false
noncomputable def g75 : Cfg := { N := 35, live := l75, cut := u75, mu := m75, ret := rets }
noncomputable def c75 : Go.Code := Go.Ab.bodyOf Go.Proofs.Try.f75
theorem s75 : ∀ (es : T.Kn) (s : ByteArray) (Post : AV → List AObj → Prop),
  (ASpec Try.prog 74 [AV.ptr 1 0, AV.str s]
      [AObj.mp (MM.typed T.EK es), AObj.cells [AV.map 0], AObj.cells [AV.str { data := #[] }, AV.sl 0 (Seq.raw []) Tip.nil],
        AObj.cells [AV.str s, AV.sl 0 (Seq.raw []) Tip.nil]]
      fun (r : AV) (H' : List AObj) =>
      ∃ (x : Bool),
        r = AV.bool x ∧
          H' =
              [AObj.mp (MM.typed T.EK es), AObj.cells [AV.map 0], AObj.cells [AV.str { data := #[] }, AV.sl 0 (Seq.raw []) Tip.nil],
                AObj.cells [AV.str s, AV.sl 0 (Seq.raw []) Tip.nil]] ∧
            condP (!x)
              (Post (AV.tup [AV.agg [AV.str s, AV.sl 0 (Seq.raw []) Tip.nil], AV.bool false])
                [AObj.mp (MM.typed T.EK es), AObj.cells [AV.map 0], AObj.cells [AV.str s, AV.sl 0 (Seq.raw []) Tip.nil], AObj.cells [AV.str s, AV.sl 0 (Seq.raw []) Tip.nil]])
              (optionP (findM es s)
                (fun (x : T.Known) =>
                  optionP x
                    (fun (x : T.Mani) =>
                      ASpec Try.prog 208 [AV.agg [AV.str { data := List.toArray (Prod.fst x) }, AV.sl 2 (Seq.map T.encR ((0 : Int), []) (Prod.snd x)) Tip.none]]
                        [AObj.mp (MM.typed T.EK es), AObj.cells [AV.map 0], AObj.cells [AV.str { data := #[] }, AV.sl 0 (Seq.raw []) Tip.nil],
                          AObj.cells [AV.str s, AV.sl 0 (Seq.raw []) Tip.nil]]
                        fun (r : AV) (H' : List AObj) =>
                        ∃ (x : Unit),
                          r = AV.bool true ∧
                            H' =
                                [AObj.mp (MM.typed T.EK es), AObj.cells [AV.map 0], AObj.cells [AV.str { data := #[] }, AV.sl 0 (Seq.raw []) Tip.nil],
                                  AObj.cells [AV.str s, AV.sl 0 (Seq.raw []) Tip.nil]] ∧
                              optionP (findM es s)
                                (fun (x : T.Known) =>
                                  optionP x
                                    (fun (x : T.Mani) =>
                                      ASpec Try.prog 132 [AV.agg [AV.str { data := List.toArray (Prod.fst x) }, AV.sl 2 (Seq.map T.encR ((0 : Int), []) (Prod.snd x)) Tip.none]]
                                        [AObj.mp (MM.typed T.EK es), AObj.cells [AV.map 0], AObj.cells [AV.str { data := #[] }, AV.sl 0 (Seq.raw []) Tip.nil],
                                          AObj.cells [AV.str s, AV.sl 0 (Seq.raw []) Tip.nil],
                                          AObj.cells [AV.str { data := List.toArray (Prod.fst x) }, AV.sl 2 (Seq.map T.encR ((0 : Int), []) (Prod.snd x)) Tip.none]]
                                        fun (r : AV) (H' : List AObj) =>
                                        ∃ (x_1 : List UInt8 × List T.Rel),
                                          r = AV.agg [AV.str { data := List.toArray (Prod.fst x_1) }, AV.sl 2 (Seq.map T.encR ((0 : Int), []) (Prod.snd x_1)) Tip.none] ∧
                                            H' =
                                                [AObj.mp (MM.typed T.EK es), AObj.cells [AV.map 0], AObj.cells [AV.str { data := #[] }, AV.sl 0 (Seq.raw []) Tip.nil],
                                                  AObj.cells [AV.str s, AV.sl 0 (Seq.raw []) Tip.nil],
                                                  AObj.cells [AV.str { data := List.toArray (Prod.fst x) }, AV.sl 2 (Seq.map T.encR ((0 : Int), []) (Prod.snd x)) Tip.none]] ∧
                                              Post
                                                (AV.tup
                                                  [AV.agg [AV.str { data := List.toArray (Prod.fst x_1) }, AV.sl 2 (Seq.map T.encR ((0 : Int), []) (Prod.snd x_1)) Tip.none], AV.bool true])
                                                [AObj.mp (MM.typed T.EK es), AObj.cells [AV.map 0],
                                                  AObj.cells [AV.str { data := List.toArray (Prod.fst x_1) }, AV.sl 2 (Seq.map T.encR ((0 : Int), []) (Prod.snd x_1)) Tip.none],
                                                  AObj.cells [AV.str s, AV.sl 0 (Seq.raw []) Tip.nil],
                                                  AObj.cells [AV.str { data := List.toArray (Prod.fst x) }, AV.sl 2 (Seq.map T.encR ((0 : Int), []) (Prod.snd x)) Tip.none]])
                                    False)
                                False)
                    (ASpec Try.prog 212 [AV.agg []]
                      [AObj.mp (MM.typed T.EK es), AObj.cells [AV.map 0], AObj.cells [AV.str { data := #[] }, AV.sl 0 (Seq.raw []) Tip.nil],
                        AObj.cells [AV.str s, AV.sl 0 (Seq.raw []) Tip.nil]]
                      fun (r : AV) (H' : List AObj) =>
                      ∃ (x : Unit),
                        r = AV.bool false ∧
                          H' =
                              [AObj.mp (MM.typed T.EK es), AObj.cells [AV.map 0], AObj.cells [AV.str { data := #[] }, AV.sl 0 (Seq.raw []) Tip.nil],
                                AObj.cells [AV.str s, AV.sl 0 (Seq.raw []) Tip.nil]] ∧
                            Post (AV.tup [AV.agg [AV.str s, AV.sl 0 (Seq.raw []) Tip.nil], AV.bool false])
                              [AObj.mp (MM.typed T.EK es), AObj.cells [AV.map 0], AObj.cells [AV.str s, AV.sl 0 (Seq.raw []) Tip.nil],
                                AObj.cells [AV.str s, AV.sl 0 (Seq.raw []) Tip.nil]]))
                False)) →
    ASpec Try.prog 75 [AV.ptr 1 0, AV.str s] (T.HX es) Post := fun es s Post h => Go.Ab.ASpec.of_vc g75 Go.Proofs.Try.func75 (by kernel_rfl) (by kernel_rfl) (by kernel_rfl) (Go.Ab.kc (by kernel_rfl) h)

-- 76
noncomputable def l76 : Nat → List Nat
  | _ => []
noncomputable def u76 : Nat → Bool
  | _ => false
noncomputable def m76 : Nat → Bool
  | _ => false
noncomputable def g76 : Cfg := { N := 10, live := l76, cut := u76, mu := m76, ret := rets }
noncomputable def c76 : Go.Code := Go.Ab.bodyOf Go.Proofs.Try.f76
theorem s76 : ∀ (es : T.Kn) (Post : AV → List AObj → Prop),
  Post (AV.int IntKind.i64 (↑(MM.len (MM.typed T.EK es)) : Int)) [AObj.mp (MM.typed T.EK es), AObj.cells [AV.map 0]] → ASpec Try.prog 76 [AV.ptr 1 0] (T.HX es) Post := fun es Post h => Go.Ab.ASpec.of_vc g76 Go.Proofs.Try.func76 (by kernel_rfl) (by kernel_rfl) (by kernel_rfl) (Go.Ab.kc (by kernel_rfl) h)

-- 77
noncomputable def l77 : Nat → List Nat
  | _ => []
noncomputable def u77 : Nat → Bool
  | _ => false
noncomputable def m77 : Nat → Bool
  | _ => false
noncomputable def g77 : Cfg := { N := 32, live := l77, cut := u77, mu := m77, ret := rets }
noncomputable def c77 : Go.Code := Go.Ab.bodyOf Go.Proofs.Try.f77
theorem s77 : ∀ (es : T.Kn) (s : ByteArray) (bs : List UInt8) (Post : AV → List AObj → Prop),
  (ASpec Try.prog 91 [AV.str s] [AObj.mp (MM.typed T.EK es), AObj.cells [AV.map 0]] fun (r : AV) (H' : List AObj) =>
      ∃ (x : Bool),
        r = AV.bool x ∧
          H' = [AObj.mp (MM.typed T.EK es), AObj.cells [AV.map 0]] ∧
            condP (!x) (Post (AV.int IntKind.i64 (1 : Int)) [AObj.mp (MM.typed T.EK es), AObj.cells [AV.map 0]])
              (condP (decide ((↑(List.length bs) : Int) > (8192 : Int))) (Post (AV.int IntKind.i64 (1 : Int)) [AObj.mp (MM.typed T.EK es), AObj.cells [AV.map 0]])
                (ASpec Try.prog 74 [AV.ptr 1 0, AV.str s] [AObj.mp (MM.typed T.EK es), AObj.cells [AV.map 0]] fun (r : AV) (H' : List AObj) =>
                  ∃ (x : Bool),
                    r = AV.bool x ∧
                      H' = [AObj.mp (MM.typed T.EK es), AObj.cells [AV.map 0]] ∧
                        condP x (Post (AV.int IntKind.i64 (6 : Int)) [AObj.mp (MM.typed T.EK es), AObj.cells [AV.map 0]])
                          (ASpec Try.prog 133 [AV.str s, AV.sl 1 (Seq.map encB (0 : UInt8) bs) Tip.none] [AObj.mp (MM.typed T.EK es), AObj.cells [AV.map 0]]
                            fun (r : AV) (H' : List AObj) =>
                            (∃ (x : List UInt8 × List T.Rel),
                                r = AV.iface (186 : TypeId) (AV.agg [AV.str { data := List.toArray (Prod.fst x) }, AV.sl 2 (Seq.map T.encR ((0 : Int), []) (Prod.snd x)) Tip.none]) ∧
                                  H' = [AObj.mp (MM.typed T.EK es), AObj.cells [AV.map 0]] ∧
                                    (AV.map 0 = AV.map 0 ∧ [AObj.mp (MM.typed T.EK es), AObj.cells [AV.map 0]] = [AObj.mp (MM.typed T.EK es), AObj.cells [AV.map 0]]) ∧
                                      Post (AV.int IntKind.i64 (0 : Int))
                                        [AObj.mp
                                            (MM.put (MM.typed T.EK es) s
                                              (AV.iface (186 : TypeId)
                                                (AV.agg [AV.str { data := List.toArray (Prod.fst x) }, AV.sl 2 (Seq.map T.encR ((0 : Int), []) (Prod.snd x)) Tip.none]))),
                                          AObj.cells [AV.map 0]]) ∨
                              ∃ (x : Unit),
                                r = AV.iface (225 : TypeId) (AV.agg []) ∧
                                  H' = [AObj.mp (MM.typed T.EK es), AObj.cells [AV.map 0]] ∧
                                    (AV.map 0 = AV.map 0 ∧ [AObj.mp (MM.typed T.EK es), AObj.cells [AV.map 0]] = [AObj.mp (MM.typed T.EK es), AObj.cells [AV.map 0]]) ∧
                                      Post (AV.int IntKind.i64 (0 : Int)) [AObj.mp (MM.put (MM.typed T.EK es) s (AV.iface (225 : TypeId) (AV.agg []))), AObj.cells [AV.map 0]])))) →
    ASpec Try.prog 77 [AV.ptr 1 0, AV.str s, AV.sl 1 (Seq.map encB (0 : UInt8) bs) Tip.none] (T.HX es) Post := fun es s bs Post h => Go.Ab.ASpec.of_vc g77 Go.Proofs.Try.func77 (by kernel_rfl) (by kernel_rfl) (by kernel_rfl) (Go.Ab.kc (by kernel_rfl) h)

-- 208
noncomputable def l208 : Nat → List Nat
  | _ => []
noncomputable def u208 : Nat → Bool
  | _ => false
noncomputable def m208 : Nat → Bool
  | _ => false
noncomputable def g208 : Cfg := { N := 3, live := l208, cut := u208, mu := m208, ret := rets }
noncomputable def c208 : Go.Code := Go.Ab.bodyOf Go.Proofs.Try.f208
theorem s208 : ∀ (m : T.Mani) (Post : AV → List AObj → Prop),
  Post (AV.bool true) [AObj.cells [AV.str { data := List.toArray (Prod.fst m) }, AV.sl 2 (Seq.map T.encR ((0 : Int), []) (Prod.snd m)) Tip.none]] →
    ASpec Try.prog 208 [AV.agg (T.encM m)] [] Post := fun m Post h => Go.Ab.ASpec.of_vc g208 Go.Proofs.Try.func208 (by kernel_rfl) (by kernel_rfl) (by kernel_rfl) (Go.Ab.kc (by kernel_rfl) h)

-- 212
noncomputable def l212 : Nat → List Nat
  | _ => []
noncomputable def u212 : Nat → Bool
  | _ => false
noncomputable def m212 : Nat → Bool
  | _ => false
noncomputable def g212 : Cfg := { N := 3, live := l212, cut := u212, mu := m212, ret := rets }
noncomputable def c212 : Go.Code := Go.Ab.bodyOf Go.Proofs.Try.f212
theorem s212 : ∀ (Post : AV → List AObj → Prop), Post (AV.bool false) [AObj.cells []] → ASpec Try.prog 212 [AV.agg []] [] Post := fun Post h => Go.Ab.ASpec.of_vc g212 Go.Proofs.Try.func212 (by kernel_rfl) (by kernel_rfl) (by kernel_rfl) (Go.Ab.kc (by kernel_rfl) h)

-- 133
noncomputable def l133 : Nat → List Nat
  | _ => []
noncomputable def u133 : Nat → Bool
  | _ => false
noncomputable def m133 : Nat → Bool
  | _ => false
noncomputable def g133 : Cfg := { N := 25, live := l133, cut := u133, mu := m133, ret := rets }
noncomputable def c133 : Go.Code := Go.Ab.bodyOf Go.Proofs.Try.f133
theorem s133 : ∀ (s : ByteArray) (bs : List UInt8) (Post : AV → List AObj → Prop),
  (ASpec Try.prog 40 [AV.sl 1 (Seq.map encB (0 : UInt8) bs) Tip.none] [] fun (r : AV) (H' : List AObj) =>
      ∃ (x : T.Mani × Int),
        r =
            AV.tup
              [AV.agg [AV.str { data := List.toArray (Prod.fst (Prod.fst x)) }, AV.sl 2 (Seq.map T.encR ((0 : Int), []) (Prod.snd (Prod.fst x))) Tip.none], AV.int IntKind.i64 (Prod.snd x)] ∧
          H' = [] ∧
            condP (Prod.snd x != (0 : Int))
              (Post (AV.iface 225 (AV.agg []))
                [AObj.cells [AV.str { data := List.toArray (Prod.fst (Prod.fst x)) }, AV.sl 2 (Seq.map T.encR ((0 : Int), []) (Prod.snd (Prod.fst x))) Tip.none]])
              (condP (!ByteArray.toList { data := List.toArray (Prod.fst (Prod.fst x)) } == ByteArray.toList s)
                (Post (AV.iface 225 (AV.agg []))
                  [AObj.cells [AV.str { data := List.toArray (Prod.fst (Prod.fst x)) }, AV.sl 2 (Seq.map T.encR ((0 : Int), []) (Prod.snd (Prod.fst x))) Tip.none]])
                (Post (AV.iface 186 (AV.agg [AV.str { data := List.toArray (Prod.fst (Prod.fst x)) }, AV.sl 2 (Seq.map T.encR ((0 : Int), []) (Prod.snd (Prod.fst x))) Tip.none]))
                  [AObj.cells [AV.str { data := List.toArray (Prod.fst (Prod.fst x)) }, AV.sl 2 (Seq.map T.encR ((0 : Int), []) (Prod.snd (Prod.fst x))) Tip.none]]))) →
    ASpec Try.prog 133 [AV.str s, AV.sl 1 (Seq.map encB (0 : UInt8) bs) Tip.none] [] Post := fun s bs Post h => Go.Ab.ASpec.of_vc g133 Go.Proofs.Try.func133 (by kernel_rfl) (by kernel_rfl) (by kernel_rfl) (Go.Ab.kc (by kernel_rfl) h)

-- 156
noncomputable def l156 : Nat → List Nat
  | _ => []
noncomputable def u156 : Nat → Bool
  | _ => false
noncomputable def m156 : Nat → Bool
  | _ => false
noncomputable def g156 : Cfg := { N := 8, live := l156, cut := u156, mu := m156, ret := rets }
noncomputable def c156 : Go.Code := Go.Ab.bodyOf Go.Proofs.Try.f156
theorem s156 : ∀ (l : List T.Span) (Post : AV → List AObj → Prop),
  (∀ (b : Bool),
      (b = true → Seq.toList (Seq.map T.encS ((0 : Int), (0 : Int)) l) = []) →
        condP b (Post (AV.sl 0 (Seq.raw []) Tip.nil) [])
          (needP (∀ (x : T.Span), List.all (T.encS x) oneAV = true)
            (needP ((0 + List.length l) * 16 ≤ 140737488351232)
              (Post (AV.sl 2 (Seq.app (Seq.raw []) (Seq.map T.encS ((0 : Int), (0 : Int)) l)) (Tip.tok 0)) [AObj.tok])))) →
    ASpec Try.prog 156 [AV.sl 2 (Seq.map T.encS ((0 : Int), (0 : Int)) l) Tip.none] [] Post := fun l Post h => Go.Ab.ASpec.of_vc g156 Go.Proofs.Try.func156 (by kernel_rfl) (by kernel_rfl) (by kernel_rfl) (Go.Ab.kc (by kernel_rfl) h)

-- 162
noncomputable def l162 : Nat → List Nat
  | 3 => [2, 3, 10, 11, 12]
  | _ => []
noncomputable def u162 : Nat → Bool
  | _ => false
noncomputable def m162 : Nat → Bool
  | _ => false
noncomputable def g162 : Cfg := { N := 29, live := l162, cut := u162, mu := m162, ret := rets }
noncomputable def c162 : Go.Code := Go.Ab.bodyOf Go.Proofs.Try.f162
noncomputable def q162_0 : Nat → (AV → List AObj → Prop) → AQ := fun (n : Nat) (Post : AV → List AObj → Prop) => endQ Try.prog (resultsOf Try.f162) Post
noncomputable def q162_1 : Nat → (AV → List AObj → Prop) → AQ := fun (n : Nat) (Post : AV → List AObj → Prop) => seqQ (fun (s' : Slots) (H' : List AObj) => awp Try.prog g162 n (codeSnd (codeSnd (codeSnd c162))) s' H' (q162_0 n Post)) (q162_0 n Post)
noncomputable def q162_2 : Nat → (AV → List AObj → Prop) → AQ := fun (n : Nat) (Post : AV → List AObj → Prop) => blockQ 0 (q162_1 n Post)
noncomputable def c162_3 : Go.Code := codeFst (codeSnd (codeFst (codeSnd (codeSnd c162))))
theorem s162 : ∀ (r : T.Rel) (Post : AV → List AObj → Prop),
  AWP Try.prog 29 0 c162_3
      [(2, AV.ptr 1 0), (3, AV.ptr 2 0), (10, AV.sl 2 (Seq.map T.encN ([], []) (Prod.snd r)) Tip.none),
        (11, AV.int IntKind.i64 (↑(List.length (Prod.snd r)) : Int)), (12, AV.int IntKind.i64 (0 : Int))]
      [AObj.cells [AV.int IntKind.i64 (Prod.fst r), AV.sl 2 (Seq.map T.encN ([], []) (Prod.snd r)) Tip.none], AObj.cells [AV.int IntKind.i64 (0 : Int), AV.sl 0 (Seq.raw []) Tip.nil],
        AObj.cells [AV.int IntKind.i64 (Prod.fst r), AV.sl 0 (Seq.raw []) Tip.nil]]
      (q162_2 0 Post) →
    ASpec Try.prog 162 [AV.agg (T.encR r)] [] Post := fun r Post h => Go.Ab.ASpec.of_vc g162 Go.Proofs.Try.func162 (by kernel_rfl) (by kernel_rfl) (by kernel_rfl) (Go.Ab.kc (by kernel_rfl) h)
theorem v162_3 : ∀ (v : Int) (acc l : List T.Need) (n i : Int) (n_1 : Nat) (Post : AV → List AObj → Prop),
  condP (decide (i < n))
      (needP ((0 : Int) ≤ i ∧ i < (↑(List.length l) : Int))
        (ASpec Try.prog 156 [AV.sl 2 (Seq.map T.encS ((0 : Int), (0 : Int)) (Prod.snd (List.getD l (Int.toNat i) ([], [])))) Tip.none]
          [AObj.cells [AV.int IntKind.i64 (0 : Int), AV.sl 0 (Seq.raw []) Tip.nil], AObj.cells [AV.int IntKind.i64 v, AV.sl 2 (Seq.map T.encN ([], []) acc) (Tip.tok 2)],
            AObj.tok,
            AObj.cells
              [AV.str { data := List.toArray (Prod.fst (List.getD l (Int.toNat i) ([], []))) },
                AV.sl 2 (Seq.map T.encS ((0 : Int), (0 : Int)) (Prod.snd (List.getD l (Int.toNat i) ([], [])))) Tip.none]]
          fun (r : AV) (H' : List AObj) =>
          ∃ (x : List T.Span),
            r = AV.sl 2 (Seq.map T.encS ((0 : Int), (0 : Int)) x) Tip.none ∧
              H' =
                  [AObj.cells [AV.int IntKind.i64 (0 : Int), AV.sl 0 (Seq.raw []) Tip.nil],
                    AObj.cells [AV.int IntKind.i64 v, AV.sl 2 (Seq.map T.encN ([], []) acc) (Tip.tok 2)], AObj.tok,
                    AObj.cells
                      [AV.str { data := List.toArray (Prod.fst (List.getD l (Int.toNat i) ([], []))) },
                        AV.sl 2 (Seq.map T.encS ((0 : Int), (0 : Int)) (Prod.snd (List.getD l (Int.toNat i) ([], [])))) Tip.none]] ∧
                (AV.str { data := List.toArray (Prod.fst (List.getD l (Int.toNat i) ([], []))) } = AV.str { data := List.toArray (Prod.fst (List.getD l (Int.toNat i) ([], []))) } ∧
                    [AObj.cells [AV.int IntKind.i64 (0 : Int), AV.sl 0 (Seq.raw []) Tip.nil],
                        AObj.cells [AV.int IntKind.i64 v, AV.sl 2 (Seq.map T.encN ([], []) acc) (Tip.tok 2)], AObj.tok,
                        AObj.cells
                          [AV.str { data := List.toArray (Prod.fst (List.getD l (Int.toNat i) ([], []))) },
                            AV.sl 2 (Seq.map T.encS ((0 : Int), (0 : Int)) (Prod.snd (List.getD l (Int.toNat i) ([], [])))) Tip.none]] =
                      [AObj.cells [AV.int IntKind.i64 (0 : Int), AV.sl 0 (Seq.raw []) Tip.nil],
                        AObj.cells [AV.int IntKind.i64 v, AV.sl 2 (Seq.map T.encN ([], []) acc) (Tip.tok 2)], AObj.tok,
                        AObj.cells
                          [AV.str { data := List.toArray (Prod.fst (List.getD l (Int.toNat i) ([], []))) },
                            AV.sl 2 (Seq.map T.encS ((0 : Int), (0 : Int)) (Prod.snd (List.getD l (Int.toNat i) ([], [])))) Tip.none]]) ∧
                  (AV.sl 2 (Seq.map T.encN ([], []) acc) (Tip.tok 2) = AV.sl 2 (Seq.map T.encN ([], []) acc) (Tip.tok 2) ∧
                      [AObj.cells [AV.int IntKind.i64 (0 : Int), AV.sl 0 (Seq.raw []) Tip.nil],
                          AObj.cells [AV.int IntKind.i64 v, AV.sl 2 (Seq.map T.encN ([], []) acc) (Tip.tok 2)], AObj.tok,
                          AObj.cells
                            [AV.str { data := List.toArray (Prod.fst (List.getD l (Int.toNat i) ([], []))) },
                              AV.sl 2 (Seq.map T.encS ((0 : Int), (0 : Int)) (Prod.snd (List.getD l (Int.toNat i) ([], [])))) Tip.none]] =
                        [AObj.cells [AV.int IntKind.i64 (0 : Int), AV.sl 0 (Seq.raw []) Tip.nil],
                          AObj.cells [AV.int IntKind.i64 v, AV.sl 2 (Seq.map T.encN ([], []) acc) (Tip.tok 2)], AObj.tok,
                          AObj.cells
                            [AV.str { data := List.toArray (Prod.fst (List.getD l (Int.toNat i) ([], []))) },
                              AV.sl 2 (Seq.map T.encS ((0 : Int), (0 : Int)) (Prod.snd (List.getD l (Int.toNat i) ([], [])))) Tip.none]]) ∧
                    needP ((List.length acc + 1) * 40 ≤ 140737488351232)
                      (AWP Try.prog 29 n_1 c162_3
                        [(2, AV.ptr 0 0), (3, AV.ptr 1 0), (10, AV.sl 2 (Seq.map T.encN ([], []) l) Tip.none),
                          (11, AV.int IntKind.i64 n), (12, AV.int IntKind.i64 (IntKind.wrap IntKind.i64 (i + (1 : Int))))]
                        [AObj.cells [AV.int IntKind.i64 (0 : Int), AV.sl 0 (Seq.raw []) Tip.nil],
                          AObj.cells
                            [AV.int IntKind.i64 v,
                              AV.sl 2
                                (Seq.app (Seq.map T.encN ([], []) acc)
                                  (Seq.raw [[AV.str { data := List.toArray (Prod.fst (List.getD l (Int.toNat i) ([], []))) }, AV.sl 2 (Seq.map T.encS ((0 : Int), (0 : Int)) x) Tip.none]]))
                                (Tip.tok 4)],
                          AObj.gone,
                          AObj.cells
                            [AV.str { data := List.toArray (Prod.fst (List.getD l (Int.toNat i) ([], []))) },
                              AV.sl 2 (Seq.map T.encS ((0 : Int), (0 : Int)) (Prod.snd (List.getD l (Int.toNat i) ([], [])))) Tip.none],
                          AObj.tok]
                        (q162_2 n_1 Post))))
      (Post (AV.agg [AV.int IntKind.i64 v, AV.sl 2 (Seq.map T.encN ([], []) acc) (Tip.tok 2)])
        [AObj.cells [AV.int IntKind.i64 v, AV.sl 2 (Seq.map T.encN ([], []) acc) (Tip.tok 2)],
          AObj.cells [AV.int IntKind.i64 v, AV.sl 2 (Seq.map T.encN ([], []) acc) (Tip.tok 2)], AObj.tok]) →
    AWP Try.prog 29 n_1 c162_3
      [(2, AV.ptr 0 0), (3, AV.ptr 1 0), (10, AV.sl 2 (Seq.map T.encN ([], []) l) Tip.none), (11, AV.int IntKind.i64 n),
        (12, AV.int IntKind.i64 i)]
      [AObj.cells [AV.int IntKind.i64 (0 : Int), AV.sl 0 (Seq.raw []) Tip.nil], AObj.cells [AV.int IntKind.i64 v, AV.sl 2 (Seq.map T.encN ([], []) acc) (Tip.tok 2)], AObj.tok]
      (q162_2 n_1 Post) := fun v acc l n i n Post h => Go.Ab.AWP.loop' g162 (Cfg.live g162) c162_3 (by kernel_rfl) (by kernel_rfl) (Go.Ab.kc (by kernel_rfl) h)

-- 132
noncomputable def l132 : Nat → List Nat
  | 3 => [2, 3, 10, 11, 12]
  | _ => []
noncomputable def u132 : Nat → Bool
  | _ => false
noncomputable def m132 : Nat → Bool
  | _ => false
noncomputable def g132 : Cfg := { N := 25, live := l132, cut := u132, mu := m132, ret := rets }
noncomputable def c132 : Go.Code := Go.Ab.bodyOf Go.Proofs.Try.f132
noncomputable def q132_0 : Nat → (AV → List AObj → Prop) → AQ := fun (n : Nat) (Post : AV → List AObj → Prop) => endQ Try.prog (resultsOf Try.f132) Post
noncomputable def q132_1 : Nat → (AV → List AObj → Prop) → AQ := fun (n : Nat) (Post : AV → List AObj → Prop) => seqQ (fun (s' : Slots) (H' : List AObj) => awp Try.prog g132 n (codeSnd (codeSnd (codeSnd c132))) s' H' (q132_0 n Post)) (q132_0 n Post)
noncomputable def q132_2 : Nat → (AV → List AObj → Prop) → AQ := fun (n : Nat) (Post : AV → List AObj → Prop) => blockQ 0 (q132_1 n Post)
noncomputable def c132_3 : Go.Code := codeFst (codeSnd (codeFst (codeSnd (codeSnd c132))))
theorem s132 : ∀ (m : T.Mani) (Post : AV → List AObj → Prop),
  AWP Try.prog 25 0 c132_3
      [(2, AV.ptr 1 0), (3, AV.ptr 2 0), (10, AV.sl 2 (Seq.map T.encR ((0 : Int), []) (Prod.snd m)) Tip.none),
        (11, AV.int IntKind.i64 (↑(List.length (Prod.snd m)) : Int)), (12, AV.int IntKind.i64 (0 : Int))]
      [AObj.cells [AV.str { data := List.toArray (Prod.fst m) }, AV.sl 2 (Seq.map T.encR ((0 : Int), []) (Prod.snd m)) Tip.none],
        AObj.cells [AV.str { data := #[] }, AV.sl 0 (Seq.raw []) Tip.nil], AObj.cells [AV.str { data := List.toArray (Prod.fst m) }, AV.sl 0 (Seq.raw []) Tip.nil]]
      (q132_2 0 Post) →
    ASpec Try.prog 132 [AV.agg (T.encM m)] [] Post := fun m Post h => Go.Ab.ASpec.of_vc g132 Go.Proofs.Try.func132 (by kernel_rfl) (by kernel_rfl) (by kernel_rfl) (Go.Ab.kc (by kernel_rfl) h)
theorem v132_3 : ∀ (s : ByteArray) (acc l : List T.Rel) (n i : Int) (n_1 : Nat) (Post : AV → List AObj → Prop),
  condP (decide (i < n))
      (needP ((0 : Int) ≤ i ∧ i < (↑(List.length l) : Int))
        (ASpec Try.prog 162
          [AV.agg
              [AV.int IntKind.i64 (Prod.fst (List.getD l (Int.toNat i) ((0 : Int), []))), AV.sl 2 (Seq.map T.encN ([], []) (Prod.snd (List.getD l (Int.toNat i) ((0 : Int), [])))) Tip.none]]
          [AObj.cells [AV.str { data := #[] }, AV.sl 0 (Seq.raw []) Tip.nil], AObj.cells [AV.str s, AV.sl 2 (Seq.map T.encR ((0 : Int), []) acc) (Tip.tok 2)], AObj.tok,
            AObj.cells
              [AV.int IntKind.i64 (Prod.fst (List.getD l (Int.toNat i) ((0 : Int), []))), AV.sl 2 (Seq.map T.encN ([], []) (Prod.snd (List.getD l (Int.toNat i) ((0 : Int), [])))) Tip.none]]
          fun (r : AV) (H' : List AObj) =>
          ∃ (x : Int × List T.Need),
            r = AV.agg [AV.int IntKind.i64 (Prod.fst x), AV.sl 2 (Seq.map T.encN ([], []) (Prod.snd x)) Tip.none] ∧
              H' =
                  [AObj.cells [AV.str { data := #[] }, AV.sl 0 (Seq.raw []) Tip.nil], AObj.cells [AV.str s, AV.sl 2 (Seq.map T.encR ((0 : Int), []) acc) (Tip.tok 2)], AObj.tok,
                    AObj.cells
                      [AV.int IntKind.i64 (Prod.fst (List.getD l (Int.toNat i) ((0 : Int), []))),
                        AV.sl 2 (Seq.map T.encN ([], []) (Prod.snd (List.getD l (Int.toNat i) ((0 : Int), [])))) Tip.none]] ∧
                (AV.sl 2 (Seq.map T.encR ((0 : Int), []) acc) (Tip.tok 2) = AV.sl 2 (Seq.map T.encR ((0 : Int), []) acc) (Tip.tok 2) ∧
                    [AObj.cells [AV.str { data := #[] }, AV.sl 0 (Seq.raw []) Tip.nil], AObj.cells [AV.str s, AV.sl 2 (Seq.map T.encR ((0 : Int), []) acc) (Tip.tok 2)],
                        AObj.tok,
                        AObj.cells
                          [AV.int IntKind.i64 (Prod.fst (List.getD l (Int.toNat i) ((0 : Int), []))),
                            AV.sl 2 (Seq.map T.encN ([], []) (Prod.snd (List.getD l (Int.toNat i) ((0 : Int), [])))) Tip.none]] =
                      [AObj.cells [AV.str { data := #[] }, AV.sl 0 (Seq.raw []) Tip.nil], AObj.cells [AV.str s, AV.sl 2 (Seq.map T.encR ((0 : Int), []) acc) (Tip.tok 2)],
                        AObj.tok,
                        AObj.cells
                          [AV.int IntKind.i64 (Prod.fst (List.getD l (Int.toNat i) ((0 : Int), []))),
                            AV.sl 2 (Seq.map T.encN ([], []) (Prod.snd (List.getD l (Int.toNat i) ((0 : Int), [])))) Tip.none]]) ∧
                  needP ((List.length acc + 1) * 32 ≤ 140737488351232)
                    (AWP Try.prog 25 n_1 c132_3
                      [(2, AV.ptr 0 0), (3, AV.ptr 1 0), (10, AV.sl 2 (Seq.map T.encR ((0 : Int), []) l) Tip.none),
                        (11, AV.int IntKind.i64 n), (12, AV.int IntKind.i64 (IntKind.wrap IntKind.i64 (i + (1 : Int))))]
                      [AObj.cells [AV.str { data := #[] }, AV.sl 0 (Seq.raw []) Tip.nil],
                        AObj.cells
                          [AV.str s,
                            AV.sl 2
                              (Seq.app (Seq.map T.encR ((0 : Int), []) acc) (Seq.raw [[AV.int IntKind.i64 (Prod.fst x), AV.sl 2 (Seq.map T.encN ([], []) (Prod.snd x)) Tip.none]]))
                              (Tip.tok 4)],
                        AObj.gone,
                        AObj.cells
                          [AV.int IntKind.i64 (Prod.fst (List.getD l (Int.toNat i) ((0 : Int), []))),
                            AV.sl 2 (Seq.map T.encN ([], []) (Prod.snd (List.getD l (Int.toNat i) ((0 : Int), [])))) Tip.none],
                        AObj.tok]
                      (q132_2 n_1 Post))))
      (Post (AV.agg [AV.str s, AV.sl 2 (Seq.map T.encR ((0 : Int), []) acc) (Tip.tok 2)])
        [AObj.cells [AV.str s, AV.sl 2 (Seq.map T.encR ((0 : Int), []) acc) (Tip.tok 2)],
          AObj.cells [AV.str s, AV.sl 2 (Seq.map T.encR ((0 : Int), []) acc) (Tip.tok 2)], AObj.tok]) →
    AWP Try.prog 25 n_1 c132_3
      [(2, AV.ptr 0 0), (3, AV.ptr 1 0), (10, AV.sl 2 (Seq.map T.encR ((0 : Int), []) l) Tip.none), (11, AV.int IntKind.i64 n),
        (12, AV.int IntKind.i64 i)]
      [AObj.cells [AV.str { data := #[] }, AV.sl 0 (Seq.raw []) Tip.nil], AObj.cells [AV.str s, AV.sl 2 (Seq.map T.encR ((0 : Int), []) acc) (Tip.tok 2)], AObj.tok]
      (q132_2 n_1 Post) := fun s acc l n i n Post h => Go.Ab.AWP.loop' g132 (Cfg.live g132) c132_3 (by kernel_rfl) (by kernel_rfl) (Go.Ab.kc (by kernel_rfl) h)

-- 72
noncomputable def l72 : Nat → List Nat
  | _ => []
noncomputable def u72 : Nat → Bool
  | _ => false
noncomputable def m72 : Nat → Bool
  | _ => false
noncomputable def g72 : Cfg := { N := 28, live := l72, cut := u72, mu := m72, ret := rets }
noncomputable def c72 : Go.Code := Go.Ab.bodyOf Go.Proofs.Try.f72
theorem s72 : ∀ (Post : AV → List AObj → Prop),
  (ASpec Try.prog 73 [] [] fun (r : AV) (H' : List AObj) =>
      ∃ (x : Unit),
        r = AV.ptr 1 0 ∧
          H' = [AObj.mp (MM.typed T.EK []), AObj.cells [AV.map 0]] ∧
            ASpec Try.prog 77 [AV.ptr 1 0, AV.str { data := #[(97 : UInt8)] }, AV.sl 0 (Seq.raw []) Tip.nil] [AObj.mp (MM.typed T.EK []), AObj.cells [AV.map 0]]
              fun (r : AV) (H' : List AObj) =>
              ∃ (x : Int × T.Kn),
                r = AV.int IntKind.i64 (Prod.fst x) ∧
                  H' = [AObj.mp (MM.typed T.EK (Prod.snd x)), AObj.cells [AV.map 0]] ∧
                    ASpec Try.prog 75 [AV.ptr 1 0, AV.str { data := #[(97 : UInt8)] }] [AObj.mp (MM.typed T.EK (Prod.snd x)), AObj.cells [AV.map 0]]
                      fun (r : AV) (H' : List AObj) =>
                      ∃ (x_1 : T.Mani × Bool),
                        r =
                            AV.tup
                              [AV.agg [AV.str { data := List.toArray (Prod.fst (Prod.fst x_1)) }, AV.sl 2 (Seq.map T.encR ((0 : Int), []) (Prod.snd (Prod.fst x_1))) Tip.none],
                                AV.bool (Prod.snd x_1)] ∧
                          H' = [AObj.mp (MM.typed T.EK (Prod.snd x)), AObj.cells [AV.map 0]] ∧
                            condP (Prod.fst x == (0 : Int))
                              (condP (!Prod.snd x_1)
                                (ASpec Try.prog 74 [AV.ptr 1 0, AV.str { data := #[(97 : UInt8)] }]
                                  [AObj.mp (MM.typed T.EK (Prod.snd x)), AObj.cells [AV.map 0],
                                    AObj.cells [AV.str { data := List.toArray (Prod.fst (Prod.fst x_1)) }, AV.sl 2 (Seq.map T.encR ((0 : Int), []) (Prod.snd (Prod.fst x_1))) Tip.none]]
                                  fun (r : AV) (H' : List AObj) =>
                                  ∃ (x_2 : Bool),
                                    r = AV.bool x_2 ∧
                                      H' =
                                          [AObj.mp (MM.typed T.EK (Prod.snd x)), AObj.cells [AV.map 0],
                                            AObj.cells
                                              [AV.str { data := List.toArray (Prod.fst (Prod.fst x_1)) }, AV.sl 2 (Seq.map T.encR ((0 : Int), []) (Prod.snd (Prod.fst x_1))) Tip.none]] ∧
                                        condP x_2
                                          (ASpec Try.prog 77 [AV.ptr 1 0, AV.str { data := #[(97 : UInt8)] }, AV.sl 0 (Seq.raw []) Tip.nil]
                                            [AObj.mp (MM.typed T.EK (Prod.snd x)), AObj.cells [AV.map 0],
                                              AObj.cells
                                                [AV.str { data := List.toArray (Prod.fst (Prod.fst x_1)) }, AV.sl 2 (Seq.map T.encR ((0 : Int), []) (Prod.snd (Prod.fst x_1))) Tip.none]]
                                            fun (r : AV) (H' : List AObj) =>
                                            ∃ (x : Int × T.Kn),
                                              r = AV.int IntKind.i64 (Prod.fst x) ∧
                                                H' =
                                                    [AObj.mp (MM.typed T.EK (Prod.snd x)), AObj.cells [AV.map 0],
                                                      AObj.cells
                                                        [AV.str { data := List.toArray (Prod.fst (Prod.fst x_1)) },
                                                          AV.sl 2 (Seq.map T.encR ((0 : Int), []) (Prod.snd (Prod.fst x_1))) Tip.none]] ∧
                                                  Post (AV.bool (Prod.fst x == (6 : Int)))
                                                    [AObj.mp (MM.typed T.EK (Prod.snd x)), AObj.cells [AV.map 0],
                                                      AObj.cells
                                                        [AV.str { data := List.toArray (Prod.fst (Prod.fst x_1)) },
                                                          AV.sl 2 (Seq.map T.encR ((0 : Int), []) (Prod.snd (Prod.fst x_1))) Tip.none]])
                                          (Post (AV.bool false)
                                            [AObj.mp (MM.typed T.EK (Prod.snd x)), AObj.cells [AV.map 0],
                                              AObj.cells
                                                [AV.str { data := List.toArray (Prod.fst (Prod.fst x_1)) }, AV.sl 2 (Seq.map T.encR ((0 : Int), []) (Prod.snd (Prod.fst x_1))) Tip.none]]))
                                (Post (AV.bool false)
                                  [AObj.mp (MM.typed T.EK (Prod.snd x)), AObj.cells [AV.map 0],
                                    AObj.cells [AV.str { data := List.toArray (Prod.fst (Prod.fst x_1)) }, AV.sl 2 (Seq.map T.encR ((0 : Int), []) (Prod.snd (Prod.fst x_1))) Tip.none]]))
                              (Post (AV.bool false)
                                [AObj.mp (MM.typed T.EK (Prod.snd x)), AObj.cells [AV.map 0],
                                  AObj.cells [AV.str { data := List.toArray (Prod.fst (Prod.fst x_1)) }, AV.sl 2 (Seq.map T.encR ((0 : Int), []) (Prod.snd (Prod.fst x_1))) Tip.none]])) →
    ASpec Try.prog 72 [] [] Post := fun Post h => Go.Ab.ASpec.of_vc g72 Go.Proofs.Try.func72 (by kernel_rfl) (by kernel_rfl) (by kernel_rfl) (Go.Ab.kc (by kernel_rfl) h)

-- 14
noncomputable def l14 : Nat → List Nat
  | 5 => [0, 3, 4]
  | 14 => [0, 3, 4, 5, 9, 10, 11]
  | _ => []
noncomputable def u14 : Nat → Bool
  | 14 => true
  | _ => false
noncomputable def m14 : Nat → Bool
  | _ => false
noncomputable def g14 : Cfg := { N := 149, live := l14, cut := u14, mu := m14, ret := rets }
noncomputable def c14 : Go.Code := Go.Ab.bodyOf Go.Proofs.Try.f14
noncomputable def q14_0 : Nat → (AV → List AObj → Prop) → AQ := fun (n : Nat) (Post : AV → List AObj → Prop) => endQ Try.prog (resultsOf Try.f14) Post
noncomputable def q14_1 : Nat → (AV → List AObj → Prop) → AQ := fun (n : Nat) (Post : AV → List AObj → Prop) => seqQ (fun (s' : Slots) (H' : List AObj) => awp Try.prog g14 n (codeSnd (codeSnd (codeSnd (codeSnd c14)))) s' H' (q14_0 n Post)) (q14_0 n Post)
noncomputable def q14_2 : Nat → (AV → List AObj → Prop) → AQ := fun (n : Nat) (Post : AV → List AObj → Prop) => blockQ 0 (q14_1 n Post)
noncomputable def c14_5 : Go.Code := codeFst (codeSnd (codeFst (codeSnd (codeSnd (codeSnd c14)))))
theorem s14 : ∀ (l : List T.Ent) (Post : AV → List AObj → Prop),
  (ASpec Try.prog 71 [AV.sl 2 (Seq.map T.encEn ([], []) l) Tip.none] [] fun (r : AV) (H' : List AObj) =>
      ∃ (x : Bool),
        r = AV.bool x ∧
          H' = [] ∧
            condP x (ASpec Try.prog 72 [] [] fun (r : AV) (H' : List AObj) => ∃ (x : Unit), r = AV.bool true ∧ H' = [] ∧ Post (AV.bool true) [])
              (ASpec Try.prog 73 [] [] fun (r : AV) (H' : List AObj) =>
                ∃ (x : Unit),
                  r = AV.ptr 1 0 ∧
                    H' = [AObj.mp (MM.typed T.EK []), AObj.cells [AV.map 0]] ∧
                      AWP Try.prog 149 0 c14_5
                        [(0, AV.sl 2 (Seq.map T.encEn ([], []) l) Tip.none), (3, AV.ptr 1 0), (4, AV.int IntKind.i64 (0 : Int))]
                        [AObj.mp (MM.typed T.EK []), AObj.cells [AV.map 0]] (q14_2 0 Post))) →
    ASpec Try.prog 14 [AV.sl 2 (Seq.map T.encEn ([], []) l) Tip.none] [] Post := fun l Post h => Go.Ab.ASpec.of_vc g14 Go.Proofs.Try.func14 (by kernel_rfl) (by kernel_rfl) (by kernel_rfl) (Go.Ab.kc (by kernel_rfl) h)
noncomputable def q14_3 : Nat → (AV → List AObj → Prop) → AQ := fun (n : Nat) (Post : AV → List AObj → Prop) => loopQ Try.prog 149 n c14_5 (q14_2 n Post) (Cfg.live g14)
noncomputable def q14_4 : Nat → (AV → List AObj → Prop) → AQ := fun (n : Nat) (Post : AV → List AObj → Prop) => seqQ (fun (s' : Slots) (H' : List AObj) => awp Try.prog g14 n (codeSnd (codeSnd (codeFst c14_5))) s' H' (q14_3 n Post)) (q14_3 n Post)
noncomputable def q14_5 : Nat → (AV → List AObj → Prop) → AQ := fun (n : Nat) (Post : AV → List AObj → Prop) => blockQ 1 (q14_4 n Post)
noncomputable def c14_14 : Go.Code := codeSnd (codeSnd (codeSnd (codeSnd (codeSnd (codeSnd (codeFst (codeFst (codeSnd (codeFst c14_5)))))))))
theorem v14_5 : ∀ (es : T.Kn) (l : List T.Ent) (i : Int) (n : Nat) (Post : AV → List AObj → Prop),
  condP (decide (i < (↑(List.length l) : Int)))
      (needP ((0 : Int) ≤ i ∧ i < (↑(List.length l) : Int))
        (ASpec Try.prog 74 [AV.ptr 1 0, AV.str { data := List.toArray (Prod.fst (List.getD l (Int.toNat i) ([], []))) }]
          [AObj.mp (MM.typed T.EK es), AObj.cells [AV.map 0]] fun (r : AV) (H' : List AObj) =>
          ∃ (x : Bool),
            r = AV.bool x ∧
              H' = [AObj.mp (MM.typed T.EK es), AObj.cells [AV.map 0]] ∧
                needP ((0 : Int) ≤ i ∧ i < (↑(List.length l) : Int))
                  (ASpec Try.prog 75 [AV.ptr 1 0, AV.str { data := List.toArray (Prod.fst (List.getD l (Int.toNat i) ([], []))) }]
                    [AObj.mp (MM.typed T.EK es), AObj.cells [AV.map 0]] fun (r : AV) (H' : List AObj) =>
                    ∃ (x_1 : T.Mani × Bool),
                      r =
                          AV.tup
                            [AV.agg [AV.str { data := List.toArray (Prod.fst (Prod.fst x_1)) }, AV.sl 2 (Seq.map T.encR ((0 : Int), []) (Prod.snd (Prod.fst x_1))) Tip.none],
                              AV.bool (Prod.snd x_1)] ∧
                        H' = [AObj.mp (MM.typed T.EK es), AObj.cells [AV.map 0]] ∧
                          ASpec Try.prog 76 [AV.ptr 1 0]
                            [AObj.mp (MM.typed T.EK es), AObj.cells [AV.map 0],
                              AObj.cells [AV.str { data := List.toArray (Prod.fst (Prod.fst x_1)) }, AV.sl 2 (Seq.map T.encR ((0 : Int), []) (Prod.snd (Prod.fst x_1))) Tip.none]]
                            fun (r : AV) (H' : List AObj) =>
                            ∃ (x_2 : Int),
                              r = AV.int IntKind.i64 x_2 ∧
                                H' =
                                    [AObj.mp (MM.typed T.EK es), AObj.cells [AV.map 0],
                                      AObj.cells [AV.str { data := List.toArray (Prod.fst (Prod.fst x_1)) }, AV.sl 2 (Seq.map T.encR ((0 : Int), []) (Prod.snd (Prod.fst x_1))) Tip.none]] ∧
                                  needP ((0 : Int) ≤ i ∧ i < (↑(List.length l) : Int))
                                    (needP ((0 : Int) ≤ i ∧ i < (↑(List.length l) : Int))
                                      (ASpec Try.prog 77
                                        [AV.ptr 1 0, AV.str { data := List.toArray (Prod.fst (List.getD l (Int.toNat i) ([], []))) },
                                          AV.sl 1 (Seq.map encB (0 : UInt8) (Prod.snd (List.getD l (Int.toNat i) ([], [])))) Tip.none]
                                        [AObj.mp (MM.typed T.EK es), AObj.cells [AV.map 0],
                                          AObj.cells [AV.str { data := List.toArray (Prod.fst (Prod.fst x_1)) }, AV.sl 2 (Seq.map T.encR ((0 : Int), []) (Prod.snd (Prod.fst x_1))) Tip.none]]
                                        fun (r : AV) (H' : List AObj) =>
                                        ∃ (x_3 : Int × T.Kn),
                                          r = AV.int IntKind.i64 (Prod.fst x_3) ∧
                                            H' =
                                                [AObj.mp (MM.typed T.EK (Prod.snd x_3)), AObj.cells [AV.map 0],
                                                  AObj.cells
                                                    [AV.str { data := List.toArray (Prod.fst (Prod.fst x_1)) }, AV.sl 2 (Seq.map T.encR ((0 : Int), []) (Prod.snd (Prod.fst x_1))) Tip.none]] ∧
                                              needP ((0 : Int) ≤ i ∧ i < (↑(List.length l) : Int))
                                                (ASpec Try.prog 75 [AV.ptr 1 0, AV.str { data := List.toArray (Prod.fst (List.getD l (Int.toNat i) ([], []))) }]
                                                  [AObj.mp (MM.typed T.EK (Prod.snd x_3)), AObj.cells [AV.map 0],
                                                    AObj.cells
                                                      [AV.str { data := List.toArray (Prod.fst (Prod.fst x_1)) }, AV.sl 2 (Seq.map T.encR ((0 : Int), []) (Prod.snd (Prod.fst x_1))) Tip.none]]
                                                  fun (r : AV) (H' : List AObj) =>
                                                  ∃ (x_4 : T.Mani × Bool),
                                                    r =
                                                        AV.tup
                                                          [AV.agg
                                                              [AV.str { data := List.toArray (Prod.fst (Prod.fst x_4)) },
                                                                AV.sl 2 (Seq.map T.encR ((0 : Int), []) (Prod.snd (Prod.fst x_4))) Tip.none],
                                                            AV.bool (Prod.snd x_4)] ∧
                                                      H' =
                                                          [AObj.mp (MM.typed T.EK (Prod.snd x_3)), AObj.cells [AV.map 0],
                                                            AObj.cells
                                                              [AV.str { data := List.toArray (Prod.fst (Prod.fst x_1)) },
                                                                AV.sl 2 (Seq.map T.encR ((0 : Int), []) (Prod.snd (Prod.fst x_1))) Tip.none]] ∧
                                                        condP x
                                                          (condP (Prod.fst x_3 == (0 : Int))
                                                            (Post (AV.bool false)
                                                              [AObj.mp (MM.typed T.EK (Prod.snd x_3)), AObj.cells [AV.map 0],
                                                                AObj.cells
                                                                  [AV.str { data := List.toArray (Prod.fst (Prod.fst x_1)) },
                                                                    AV.sl 2 (Seq.map T.encR ((0 : Int), []) (Prod.snd (Prod.fst x_1))) Tip.none],
                                                                AObj.cells
                                                                  [AV.str { data := List.toArray (Prod.fst (Prod.fst x_4)) },
                                                                    AV.sl 2 (Seq.map T.encR ((0 : Int), []) (Prod.snd (Prod.fst x_4))) Tip.none]])
                                                            (ASpec Try.prog 44
                                                              [AV.agg
                                                                  [AV.str { data := List.toArray (Prod.fst (Prod.fst x_1)) },
                                                                    AV.sl 2 (Seq.map T.encR ((0 : Int), []) (Prod.snd (Prod.fst x_1))) Tip.none],
                                                                AV.agg
                                                                  [AV.str { data := List.toArray (Prod.fst (Prod.fst x_4)) },
                                                                    AV.sl 2 (Seq.map T.encR ((0 : Int), []) (Prod.snd (Prod.fst x_4))) Tip.none]]
                                                              [AObj.mp (MM.typed T.EK (Prod.snd x_3)), AObj.cells [AV.map 0],
                                                                AObj.cells
                                                                  [AV.str { data := List.toArray (Prod.fst (Prod.fst x_1)) },
                                                                    AV.sl 2 (Seq.map T.encR ((0 : Int), []) (Prod.snd (Prod.fst x_1))) Tip.none],
                                                                AObj.cells
                                                                  [AV.str { data := List.toArray (Prod.fst (Prod.fst x_4)) },
                                                                    AV.sl 2 (Seq.map T.encR ((0 : Int), []) (Prod.snd (Prod.fst x_4))) Tip.none]]
                                                              fun (r : AV) (H' : List AObj) =>
                                                              ∃ (x_5 : Bool),
                                                                r = AV.bool x_5 ∧
                                                                  H' =
                                                                      [AObj.mp (MM.typed T.EK (Prod.snd x_3)), AObj.cells [AV.map 0],
                                                                        AObj.cells
                                                                          [AV.str { data := List.toArray (Prod.fst (Prod.fst x_1)) },
                                                                            AV.sl 2 (Seq.map T.encR ((0 : Int), []) (Prod.snd (Prod.fst x_1))) Tip.none],
                                                                        AObj.cells
                                                                          [AV.str { data := List.toArray (Prod.fst (Prod.fst x_4)) },
                                                                            AV.sl 2 (Seq.map T.encR ((0 : Int), []) (Prod.snd (Prod.fst x_4))) Tip.none]] ∧
                                                                    condP (!x_5)
                                                                      (Post (AV.bool false)
                                                                        [AObj.mp (MM.typed T.EK (Prod.snd x_3)), AObj.cells [AV.map 0],
                                                                          AObj.cells
                                                                            [AV.str { data := List.toArray (Prod.fst (Prod.fst x_1)) },
                                                                              AV.sl 2 (Seq.map T.encR ((0 : Int), []) (Prod.snd (Prod.fst x_1))) Tip.none],
                                                                          AObj.cells
                                                                            [AV.str { data := List.toArray (Prod.fst (Prod.fst x_4)) },
                                                                              AV.sl 2 (Seq.map T.encR ((0 : Int), []) (Prod.snd (Prod.fst x_4))) Tip.none]])
                                                                      (condP (!Prod.snd x_1 == Prod.snd x_4)
                                                                        (Post (AV.bool false)
                                                                          [AObj.mp (MM.typed T.EK (Prod.snd x_3)), AObj.cells [AV.map 0],
                                                                            AObj.cells
                                                                              [AV.str { data := List.toArray (Prod.fst (Prod.fst x_1)) },
                                                                                AV.sl 2 (Seq.map T.encR ((0 : Int), []) (Prod.snd (Prod.fst x_1))) Tip.none],
                                                                            AObj.cells
                                                                              [AV.str { data := List.toArray (Prod.fst (Prod.fst x_4)) },
                                                                                AV.sl 2 (Seq.map T.encR ((0 : Int), []) (Prod.snd (Prod.fst x_4))) Tip.none]])
                                                                        (ASpec Try.prog 76 [AV.ptr 1 0]
                                                                          [AObj.mp (MM.typed T.EK (Prod.snd x_3)), AObj.cells [AV.map 0],
                                                                            AObj.cells
                                                                              [AV.str { data := List.toArray (Prod.fst (Prod.fst x_1)) },
                                                                                AV.sl 2 (Seq.map T.encR ((0 : Int), []) (Prod.snd (Prod.fst x_1))) Tip.none],
                                                                            AObj.cells
                                                                              [AV.str { data := List.toArray (Prod.fst (Prod.fst x_4)) },
                                                                                AV.sl 2 (Seq.map T.encR ((0 : Int), []) (Prod.snd (Prod.fst x_4))) Tip.none]]
                                                                          fun (r : AV) (H' : List AObj) =>
                                                                          ∃ (x_6 : Int),
                                                                            r = AV.int IntKind.i64 x_6 ∧
                                                                              H' =
                                                                                  [AObj.mp (MM.typed T.EK (Prod.snd x_3)), AObj.cells [AV.map 0],
                                                                                    AObj.cells
                                                                                      [AV.str { data := List.toArray (Prod.fst (Prod.fst x_1)) },
                                                                                        AV.sl 2 (Seq.map T.encR ((0 : Int), []) (Prod.snd (Prod.fst x_1))) Tip.none],
                                                                                    AObj.cells
                                                                                      [AV.str { data := List.toArray (Prod.fst (Prod.fst x_4)) },
                                                                                        AV.sl 2 (Seq.map T.encR ((0 : Int), []) (Prod.snd (Prod.fst x_4))) Tip.none]] ∧
                                                                                condP (!(Prod.fst x_3 == (0 : Int)) == (x_6 == IntKind.wrap IntKind.i64 (x_2 + (1 : Int))))
                                                                                  (Post (AV.bool false)
                                                                                    [AObj.mp (MM.typed T.EK (Prod.snd x_3)), AObj.cells [AV.map 0],
                                                                                      AObj.cells
                                                                                        [AV.str { data := List.toArray (Prod.fst (Prod.fst x_1)) },
                                                                                          AV.sl 2 (Seq.map T.encR ((0 : Int), []) (Prod.snd (Prod.fst x_1))) Tip.none],
                                                                                      AObj.cells
                                                                                        [AV.str { data := List.toArray (Prod.fst (Prod.fst x_4)) },
                                                                                          AV.sl 2 (Seq.map T.encR ((0 : Int), []) (Prod.snd (Prod.fst x_4))) Tip.none]])
                                                                                  (condP (Prod.fst x_3 == (0 : Int))
                                                                                    (needP ((0 : Int) ≤ i ∧ i < (↑(List.length l) : Int))
                                                                                      (ASpec Try.prog 74
                                                                                        [AV.ptr 1 0, AV.str { data := List.toArray (Prod.fst (List.getD l (Int.toNat i) ([], []))) }]
                                                                                        [AObj.mp (MM.typed T.EK (Prod.snd x_3)), AObj.cells [AV.map 0],
                                                                                          AObj.cells
                                                                                            [AV.str { data := List.toArray (Prod.fst (Prod.fst x_1)) },
                                                                                              AV.sl 2 (Seq.map T.encR ((0 : Int), []) (Prod.snd (Prod.fst x_1))) Tip.none],
                                                                                          AObj.cells
                                                                                            [AV.str { data := List.toArray (Prod.fst (Prod.fst x_4)) },
                                                                                              AV.sl 2 (Seq.map T.encR ((0 : Int), []) (Prod.snd (Prod.fst x_4))) Tip.none]]
                                                                                        fun (r : AV) (H' : List AObj) =>
                                                                                        ∃ (x_7 : Bool),
                                                                                          r = AV.bool x_7 ∧
                                                                                            H' =
                                                                                                [AObj.mp (MM.typed T.EK (Prod.snd x_3)), AObj.cells [AV.map 0],
                                                                                                  AObj.cells
                                                                                                    [AV.str { data := List.toArray (Prod.fst (Prod.fst x_1)) },
                                                                                                      AV.sl 2 (Seq.map T.encR ((0 : Int), []) (Prod.snd (Prod.fst x_1))) Tip.none],
                                                                                                  AObj.cells
                                                                                                    [AV.str { data := List.toArray (Prod.fst (Prod.fst x_4)) },
                                                                                                      AV.sl 2 (Seq.map T.encR ((0 : Int), []) (Prod.snd (Prod.fst x_4))) Tip.none]] ∧
                                                                                              condP (!x_7)
                                                                                                (Post (AV.bool false)
                                                                                                  [AObj.mp (MM.typed T.EK (Prod.snd x_3)), AObj.cells [AV.map 0],
                                                                                                    AObj.cells
                                                                                                      [AV.str { data := List.toArray (Prod.fst (Prod.fst x_1)) },
                                                                                                        AV.sl 2 (Seq.map T.encR ((0 : Int), []) (Prod.snd (Prod.fst x_1))) Tip.none],
                                                                                                    AObj.cells
                                                                                                      [AV.str { data := List.toArray (Prod.fst (Prod.fst x_4)) },
                                                                                                        AV.sl 2 (Seq.map T.encR ((0 : Int), []) (Prod.snd (Prod.fst x_4))) Tip.none]])
                                                                                                (AWP Try.prog 149 n c14_14
                                                                                                  [(0, AV.sl 2 (Seq.map T.encEn ([], []) l) Tip.none),
                                                                                                    (3, AV.ptr 1 0), (4, AV.int IntKind.i64 i), (5, AV.bool x),
                                                                                                    (9, AV.int IntKind.i64 (Prod.fst x_3)), (10, AV.ptr 3 0),
                                                                                                    (11, AV.bool (Prod.snd x_4))]
                                                                                                  [AObj.mp (MM.typed T.EK (Prod.snd x_3)), AObj.cells [AV.map 0],
                                                                                                    AObj.cells
                                                                                                      [AV.str { data := List.toArray (Prod.fst (Prod.fst x_1)) },
                                                                                                        AV.sl 2 (Seq.map T.encR ((0 : Int), []) (Prod.snd (Prod.fst x_1))) Tip.none],
                                                                                                    AObj.cells
                                                                                                      [AV.str { data := List.toArray (Prod.fst (Prod.fst x_4)) },
                                                                                                        AV.sl 2 (Seq.map T.encR ((0 : Int), []) (Prod.snd (Prod.fst x_4))) Tip.none]]
                                                                                                  (q14_5 n Post))))
                                                                                    (AWP Try.prog 149 n c14_14
                                                                                      [(0, AV.sl 2 (Seq.map T.encEn ([], []) l) Tip.none), (3, AV.ptr 1 0),
                                                                                        (4, AV.int IntKind.i64 i), (5, AV.bool x), (9, AV.int IntKind.i64 (Prod.fst x_3)),
                                                                                        (10, AV.ptr 3 0), (11, AV.bool (Prod.snd x_4))]
                                                                                      [AObj.mp (MM.typed T.EK (Prod.snd x_3)), AObj.cells [AV.map 0],
                                                                                        AObj.cells
                                                                                          [AV.str { data := List.toArray (Prod.fst (Prod.fst x_1)) },
                                                                                            AV.sl 2 (Seq.map T.encR ((0 : Int), []) (Prod.snd (Prod.fst x_1))) Tip.none],
                                                                                        AObj.cells
                                                                                          [AV.str { data := List.toArray (Prod.fst (Prod.fst x_4)) },
                                                                                            AV.sl 2 (Seq.map T.encR ((0 : Int), []) (Prod.snd (Prod.fst x_4))) Tip.none]]
                                                                                      (q14_5 n Post)))))))
                                                          (ASpec Try.prog 76 [AV.ptr 1 0]
                                                            [AObj.mp (MM.typed T.EK (Prod.snd x_3)), AObj.cells [AV.map 0],
                                                              AObj.cells
                                                                [AV.str { data := List.toArray (Prod.fst (Prod.fst x_1)) },
                                                                  AV.sl 2 (Seq.map T.encR ((0 : Int), []) (Prod.snd (Prod.fst x_1))) Tip.none],
                                                              AObj.cells
                                                                [AV.str { data := List.toArray (Prod.fst (Prod.fst x_4)) },
                                                                  AV.sl 2 (Seq.map T.encR ((0 : Int), []) (Prod.snd (Prod.fst x_4))) Tip.none]]
                                                            fun (r : AV) (H' : List AObj) =>
                                                            ∃ (x_5 : Int),
                                                              r = AV.int IntKind.i64 x_5 ∧
                                                                H' =
                                                                    [AObj.mp (MM.typed T.EK (Prod.snd x_3)), AObj.cells [AV.map 0],
                                                                      AObj.cells
                                                                        [AV.str { data := List.toArray (Prod.fst (Prod.fst x_1)) },
                                                                          AV.sl 2 (Seq.map T.encR ((0 : Int), []) (Prod.snd (Prod.fst x_1))) Tip.none],
                                                                      AObj.cells
                                                                        [AV.str { data := List.toArray (Prod.fst (Prod.fst x_4)) },
                                                                          AV.sl 2 (Seq.map T.encR ((0 : Int), []) (Prod.snd (Prod.fst x_4))) Tip.none]] ∧
                                                                  condP (!(Prod.fst x_3 == (0 : Int)) == (x_5 == IntKind.wrap IntKind.i64 (x_2 + (1 : Int))))
                                                                    (Post (AV.bool false)
                                                                      [AObj.mp (MM.typed T.EK (Prod.snd x_3)), AObj.cells [AV.map 0],
                                                                        AObj.cells
                                                                          [AV.str { data := List.toArray (Prod.fst (Prod.fst x_1)) },
                                                                            AV.sl 2 (Seq.map T.encR ((0 : Int), []) (Prod.snd (Prod.fst x_1))) Tip.none],
                                                                        AObj.cells
                                                                          [AV.str { data := List.toArray (Prod.fst (Prod.fst x_4)) },
                                                                            AV.sl 2 (Seq.map T.encR ((0 : Int), []) (Prod.snd (Prod.fst x_4))) Tip.none]])
                                                                    (condP (Prod.fst x_3 == (0 : Int))
                                                                      (needP ((0 : Int) ≤ i ∧ i < (↑(List.length l) : Int))
                                                                        (ASpec Try.prog 74
                                                                          [AV.ptr 1 0, AV.str { data := List.toArray (Prod.fst (List.getD l (Int.toNat i) ([], []))) }]
                                                                          [AObj.mp (MM.typed T.EK (Prod.snd x_3)), AObj.cells [AV.map 0],
                                                                            AObj.cells
                                                                              [AV.str { data := List.toArray (Prod.fst (Prod.fst x_1)) },
                                                                                AV.sl 2 (Seq.map T.encR ((0 : Int), []) (Prod.snd (Prod.fst x_1))) Tip.none],
                                                                            AObj.cells
                                                                              [AV.str { data := List.toArray (Prod.fst (Prod.fst x_4)) },
                                                                                AV.sl 2 (Seq.map T.encR ((0 : Int), []) (Prod.snd (Prod.fst x_4))) Tip.none]]
                                                                          fun (r : AV) (H' : List AObj) =>
                                                                          ∃ (x_6 : Bool),
                                                                            r = AV.bool x_6 ∧
                                                                              H' =
                                                                                  [AObj.mp (MM.typed T.EK (Prod.snd x_3)), AObj.cells [AV.map 0],
                                                                                    AObj.cells
                                                                                      [AV.str { data := List.toArray (Prod.fst (Prod.fst x_1)) },
                                                                                        AV.sl 2 (Seq.map T.encR ((0 : Int), []) (Prod.snd (Prod.fst x_1))) Tip.none],
                                                                                    AObj.cells
                                                                                      [AV.str { data := List.toArray (Prod.fst (Prod.fst x_4)) },
                                                                                        AV.sl 2 (Seq.map T.encR ((0 : Int), []) (Prod.snd (Prod.fst x_4))) Tip.none]] ∧
                                                                                condP (!x_6)
                                                                                  (Post (AV.bool false)
                                                                                    [AObj.mp (MM.typed T.EK (Prod.snd x_3)), AObj.cells [AV.map 0],
                                                                                      AObj.cells
                                                                                        [AV.str { data := List.toArray (Prod.fst (Prod.fst x_1)) },
                                                                                          AV.sl 2 (Seq.map T.encR ((0 : Int), []) (Prod.snd (Prod.fst x_1))) Tip.none],
                                                                                      AObj.cells
                                                                                        [AV.str { data := List.toArray (Prod.fst (Prod.fst x_4)) },
                                                                                          AV.sl 2 (Seq.map T.encR ((0 : Int), []) (Prod.snd (Prod.fst x_4))) Tip.none]])
                                                                                  (AWP Try.prog 149 n c14_14
                                                                                    [(0, AV.sl 2 (Seq.map T.encEn ([], []) l) Tip.none), (3, AV.ptr 1 0),
                                                                                      (4, AV.int IntKind.i64 i), (5, AV.bool x), (9, AV.int IntKind.i64 (Prod.fst x_3)),
                                                                                      (10, AV.ptr 3 0), (11, AV.bool (Prod.snd x_4))]
                                                                                    [AObj.mp (MM.typed T.EK (Prod.snd x_3)), AObj.cells [AV.map 0],
                                                                                      AObj.cells
                                                                                        [AV.str { data := List.toArray (Prod.fst (Prod.fst x_1)) },
                                                                                          AV.sl 2 (Seq.map T.encR ((0 : Int), []) (Prod.snd (Prod.fst x_1))) Tip.none],
                                                                                      AObj.cells
                                                                                        [AV.str { data := List.toArray (Prod.fst (Prod.fst x_4)) },
                                                                                          AV.sl 2 (Seq.map T.encR ((0 : Int), []) (Prod.snd (Prod.fst x_4))) Tip.none]]
                                                                                    (q14_5 n Post))))
                                                                      (AWP Try.prog 149 n c14_14
                                                                        [(0, AV.sl 2 (Seq.map T.encEn ([], []) l) Tip.none), (3, AV.ptr 1 0),
                                                                          (4, AV.int IntKind.i64 i), (5, AV.bool x), (9, AV.int IntKind.i64 (Prod.fst x_3)),
                                                                          (10, AV.ptr 3 0), (11, AV.bool (Prod.snd x_4))]
                                                                        [AObj.mp (MM.typed T.EK (Prod.snd x_3)), AObj.cells [AV.map 0],
                                                                          AObj.cells
                                                                            [AV.str { data := List.toArray (Prod.fst (Prod.fst x_1)) },
                                                                              AV.sl 2 (Seq.map T.encR ((0 : Int), []) (Prod.snd (Prod.fst x_1))) Tip.none],
                                                                          AObj.cells
                                                                            [AV.str { data := List.toArray (Prod.fst (Prod.fst x_4)) },
                                                                              AV.sl 2 (Seq.map T.encR ((0 : Int), []) (Prod.snd (Prod.fst x_4))) Tip.none]]
                                                                        (q14_5 n Post))))))))))
      (ASpec Try.prog 72 [] [AObj.mp (MM.typed T.EK es), AObj.cells [AV.map 0]] fun (r : AV) (H' : List AObj) =>
        ∃ (x : Unit), r = AV.bool true ∧ H' = [AObj.mp (MM.typed T.EK es), AObj.cells [AV.map 0]] ∧ Post (AV.bool true) [AObj.mp (MM.typed T.EK es), AObj.cells [AV.map 0]]) →
    AWP Try.prog 149 n c14_5 [(0, AV.sl 2 (Seq.map T.encEn ([], []) l) Tip.none), (3, AV.ptr 1 0), (4, AV.int IntKind.i64 i)] (T.HX es)
      (q14_2 n Post) := fun es l i n Post h => Go.Ab.AWP.loop' g14 (Cfg.live g14) c14_5 (by kernel_rfl) (by kernel_rfl) (Go.Ab.kc (by kernel_rfl) h)
theorem v14_14 : ∀ (es : T.Kn) (l : List T.Ent) (i e : Int) (was is : Bool) (m : T.Mani) (n : Nat) (Post : AV → List AObj → Prop),
  (ASpec Try.prog 73 []
      [AObj.mp (MM.typed T.EK es), AObj.cells [AV.map 0], AObj.cells [AV.str { data := List.toArray (Prod.fst m) }, AV.sl 2 (Seq.map T.encR ((0 : Int), []) (Prod.snd m)) Tip.none]]
      fun (r : AV) (H' : List AObj) =>
      ∃ (x : Unit),
        r = AV.ptr 4 0 ∧
          H' =
              [AObj.mp (MM.typed T.EK es), AObj.cells [AV.map 0],
                AObj.cells [AV.str { data := List.toArray (Prod.fst m) }, AV.sl 2 (Seq.map T.encR ((0 : Int), []) (Prod.snd m)) Tip.none], AObj.mp (MM.typed T.EK []),
                AObj.cells [AV.map 3]] ∧
            needP ((0 : Int) ≤ i ∧ i < (↑(List.length l) : Int))
              (needP ((0 : Int) ≤ i ∧ i < (↑(List.length l) : Int))
                (ASpec Try.prog 77
                  [AV.ptr 4 0, AV.str { data := List.toArray (Prod.fst (List.getD l (Int.toNat i) ([], []))) },
                    AV.sl 1 (Seq.map encB (0 : UInt8) (Prod.snd (List.getD l (Int.toNat i) ([], [])))) Tip.none]
                  [AObj.mp (MM.typed T.EK es), AObj.cells [AV.map 0],
                    AObj.cells [AV.str { data := List.toArray (Prod.fst m) }, AV.sl 2 (Seq.map T.encR ((0 : Int), []) (Prod.snd m)) Tip.none], AObj.mp (MM.typed T.EK []),
                    AObj.cells [AV.map 3]]
                  fun (r : AV) (H' : List AObj) =>
                  ∃ (x : Int × T.Kn),
                    r = AV.int IntKind.i64 (Prod.fst x) ∧
                      H' =
                          [AObj.mp (MM.typed T.EK es), AObj.cells [AV.map 0],
                            AObj.cells [AV.str { data := List.toArray (Prod.fst m) }, AV.sl 2 (Seq.map T.encR ((0 : Int), []) (Prod.snd m)) Tip.none], AObj.mp (MM.typed T.EK (Prod.snd x)),
                            AObj.cells [AV.map 3]] ∧
                        needP ((0 : Int) ≤ i ∧ i < (↑(List.length l) : Int))
                          (ASpec Try.prog 75 [AV.ptr 4 0, AV.str { data := List.toArray (Prod.fst (List.getD l (Int.toNat i) ([], []))) }]
                            [AObj.mp (MM.typed T.EK es), AObj.cells [AV.map 0],
                              AObj.cells [AV.str { data := List.toArray (Prod.fst m) }, AV.sl 2 (Seq.map T.encR ((0 : Int), []) (Prod.snd m)) Tip.none], AObj.mp (MM.typed T.EK (Prod.snd x)),
                              AObj.cells [AV.map 3]]
                            fun (r : AV) (H' : List AObj) =>
                            ∃ (x_1 : T.Mani × Bool),
                              r =
                                  AV.tup
                                    [AV.agg [AV.str { data := List.toArray (Prod.fst (Prod.fst x_1)) }, AV.sl 2 (Seq.map T.encR ((0 : Int), []) (Prod.snd (Prod.fst x_1))) Tip.none],
                                      AV.bool (Prod.snd x_1)] ∧
                                H' =
                                    [AObj.mp (MM.typed T.EK es), AObj.cells [AV.map 0],
                                      AObj.cells [AV.str { data := List.toArray (Prod.fst m) }, AV.sl 2 (Seq.map T.encR ((0 : Int), []) (Prod.snd m)) Tip.none],
                                      AObj.mp (MM.typed T.EK (Prod.snd x)), AObj.cells [AV.map 3]] ∧
                                  condP (!was)
                                    (condP (Prod.fst x != e)
                                      (Post (AV.bool false)
                                        [AObj.mp (MM.typed T.EK es), AObj.cells [AV.map 0],
                                          AObj.cells [AV.str { data := List.toArray (Prod.fst m) }, AV.sl 2 (Seq.map T.encR ((0 : Int), []) (Prod.snd m)) Tip.none],
                                          AObj.mp (MM.typed T.EK (Prod.snd x)), AObj.cells [AV.map 3],
                                          AObj.cells [AV.str { data := List.toArray (Prod.fst (Prod.fst x_1)) }, AV.sl 2 (Seq.map T.encR ((0 : Int), []) (Prod.snd (Prod.fst x_1))) Tip.none]])
                                      (ASpec Try.prog 44
                                        [AV.agg [AV.str { data := List.toArray (Prod.fst m) }, AV.sl 2 (Seq.map T.encR ((0 : Int), []) (Prod.snd m)) Tip.none],
                                          AV.agg [AV.str { data := List.toArray (Prod.fst (Prod.fst x_1)) }, AV.sl 2 (Seq.map T.encR ((0 : Int), []) (Prod.snd (Prod.fst x_1))) Tip.none]]
                                        [AObj.mp (MM.typed T.EK es), AObj.cells [AV.map 0],
                                          AObj.cells [AV.str { data := List.toArray (Prod.fst m) }, AV.sl 2 (Seq.map T.encR ((0 : Int), []) (Prod.snd m)) Tip.none],
                                          AObj.mp (MM.typed T.EK (Prod.snd x)), AObj.cells [AV.map 3],
                                          AObj.cells [AV.str { data := List.toArray (Prod.fst (Prod.fst x_1)) }, AV.sl 2 (Seq.map T.encR ((0 : Int), []) (Prod.snd (Prod.fst x_1))) Tip.none]]
                                        fun (r : AV) (H' : List AObj) =>
                                        ∃ (x_2 : Bool),
                                          r = AV.bool x_2 ∧
                                            H' =
                                                [AObj.mp (MM.typed T.EK es), AObj.cells [AV.map 0],
                                                  AObj.cells [AV.str { data := List.toArray (Prod.fst m) }, AV.sl 2 (Seq.map T.encR ((0 : Int), []) (Prod.snd m)) Tip.none],
                                                  AObj.mp (MM.typed T.EK (Prod.snd x)), AObj.cells [AV.map 3],
                                                  AObj.cells
                                                    [AV.str { data := List.toArray (Prod.fst (Prod.fst x_1)) }, AV.sl 2 (Seq.map T.encR ((0 : Int), []) (Prod.snd (Prod.fst x_1))) Tip.none]] ∧
                                              condP (!x_2)
                                                (Post (AV.bool false)
                                                  [AObj.mp (MM.typed T.EK es), AObj.cells [AV.map 0],
                                                    AObj.cells [AV.str { data := List.toArray (Prod.fst m) }, AV.sl 2 (Seq.map T.encR ((0 : Int), []) (Prod.snd m)) Tip.none],
                                                    AObj.mp (MM.typed T.EK (Prod.snd x)), AObj.cells [AV.map 3],
                                                    AObj.cells
                                                      [AV.str { data := List.toArray (Prod.fst (Prod.fst x_1)) }, AV.sl 2 (Seq.map T.encR ((0 : Int), []) (Prod.snd (Prod.fst x_1))) Tip.none]])
                                                (condP (!is == Prod.snd x_1)
                                                  (Post (AV.bool false)
                                                    [AObj.mp (MM.typed T.EK es), AObj.cells [AV.map 0],
                                                      AObj.cells [AV.str { data := List.toArray (Prod.fst m) }, AV.sl 2 (Seq.map T.encR ((0 : Int), []) (Prod.snd m)) Tip.none],
                                                      AObj.mp (MM.typed T.EK (Prod.snd x)), AObj.cells [AV.map 3],
                                                      AObj.cells
                                                        [AV.str { data := List.toArray (Prod.fst (Prod.fst x_1)) },
                                                          AV.sl 2 (Seq.map T.encR ((0 : Int), []) (Prod.snd (Prod.fst x_1))) Tip.none]])
                                                  (AWP Try.prog 149 n c14_5
                                                    [(0, AV.sl 2 (Seq.map T.encEn ([], []) l) Tip.none), (3, AV.ptr 1 0),
                                                      (4, AV.int IntKind.i64 (IntKind.wrap IntKind.i64 (i + (1 : Int))))]
                                                    [AObj.mp (MM.typed T.EK es), AObj.cells [AV.map 0],
                                                      AObj.cells [AV.str { data := List.toArray (Prod.fst m) }, AV.sl 2 (Seq.map T.encR ((0 : Int), []) (Prod.snd m)) Tip.none],
                                                      AObj.mp (MM.typed T.EK (Prod.snd x)), AObj.cells [AV.map 3],
                                                      AObj.cells
                                                        [AV.str { data := List.toArray (Prod.fst (Prod.fst x_1)) },
                                                          AV.sl 2 (Seq.map T.encR ((0 : Int), []) (Prod.snd (Prod.fst x_1))) Tip.none]]
                                                    (q14_2 n Post)))))
                                    (AWP Try.prog 149 n c14_5
                                      [(0, AV.sl 2 (Seq.map T.encEn ([], []) l) Tip.none), (3, AV.ptr 1 0),
                                        (4, AV.int IntKind.i64 (IntKind.wrap IntKind.i64 (i + (1 : Int))))]
                                      [AObj.mp (MM.typed T.EK es), AObj.cells [AV.map 0],
                                        AObj.cells [AV.str { data := List.toArray (Prod.fst m) }, AV.sl 2 (Seq.map T.encR ((0 : Int), []) (Prod.snd m)) Tip.none],
                                        AObj.mp (MM.typed T.EK (Prod.snd x)), AObj.cells [AV.map 3],
                                        AObj.cells [AV.str { data := List.toArray (Prod.fst (Prod.fst x_1)) }, AV.sl 2 (Seq.map T.encR ((0 : Int), []) (Prod.snd (Prod.fst x_1))) Tip.none]]
                                      (q14_2 n Post)))))) →
    AWP Try.prog 149 n c14_14
      [(0, AV.sl 2 (Seq.map T.encEn ([], []) l) Tip.none), (3, AV.ptr 1 0), (4, AV.int IntKind.i64 i), (5, AV.bool was),
        (9, AV.int IntKind.i64 e), (10, AV.ptr 2 0), (11, AV.bool is)]
      (T.HX es ++ [AObj.cells (T.encM m)]) (q14_5 n Post) := fun es l i e was is m n Post h => Go.Ab.awp_sound g14 n _ _ _ _ (Go.Ab.kc (by kernel_rfl) h)

end
end X
