/- own texts -/
import Derived.Test.YtkmolhmdikjmpaaGreatProg
import Derived.Test.YtkmolhmdikjmpaaGreatQ4
import Derived.Test.YtkmolhmdikjmpaaGreatA3
import Derived.KernelRfl
import Derived.Sort.Walk0
import Derived.Lib.Bytealg
import Derived.RecoverIn
import Derived.Test.YtkmolhmdikjmpaaGreatChecked
import Derived.JoinedOf
set_option linter.unusedVariables false
set_option linter.unusedSimpArgs false
set_option linter.unusedSectionVars false
set_option maxRecDepth 100000
set_option maxHeartbeats 4000000
noncomputable section
open Go Go.Ab Go.Proofs
open Go.Proofs.Tryz (prog)
namespace Pn
noncomputable section
def openH (H : List AObj) (x : List (List UInt8)) : List AObj := match H[(3 : Nat)]? with
  | some (.cells [.sl _ _ (.tok k)]) => ((H.set k .gone).set 3 (.cells [.sl 1 (.map T.encL [] x) (.tok H.length)])) ++ [.tok]
  | _ => H
def fuelP (a : List AV) (H : List AObj) (x : Int) : List AObj := match a with
  | .ptr k _ :: _ => (match H[k]? with
    | some (.cells [u, v, _]) => H.set k (.cells [u, v, .int .i64 x])
    | _ => H)
  | _ => H
def retPn : List (Nat × Ret) := [
  (77, ⟨List T.Need, fun _ _ x => T.aN x, fun _ H _ => H⟩),
  (84, ⟨List T.Span × Bool, fun _ _ x => .tup [T.aS x.1, .bool x.2], fun _ H _ => H⟩),
  (126, ⟨Int, fun _ _ x => .int .i64 x, fun _ H _ => H⟩),
  (127, ⟨Bool, fun _ _ x => .bool x, fun _ H _ => H⟩),
  (86, ⟨List T.Span × Bool, fun _ _ x => .tup [T.aS x.1, .bool x.2], fun _ H _ => H⟩),
  (82, ⟨List T.Span, fun _ _ x => T.aS x, fun _ H _ => H⟩),
  (85, ⟨List T.Span, fun _ _ x => T.aS x, fun _ H _ => H⟩),
  (65, ⟨List T.Span, fun _ _ x => T.aS x, fun _ H _ => H⟩),
  (68, ⟨List T.Span, fun _ _ x => T.aS x, fun _ H _ => H⟩),
  (35, ⟨List T.Span, fun _ _ x => T.aS x, fun _ H _ => H⟩),
  (36, ⟨List T.Span, fun _ _ x => T.aS x, fun _ H _ => H⟩),
  (78, ⟨ByteArray, fun _ _ x => .str x, fun _ H _ => H⟩),
  (32, ⟨ByteArray × Bool, fun _ _ x => .tup [.str x.1, .bool x.2], fun _ H _ => H⟩),
  (33, ⟨ByteArray × Bool, fun _ _ x => .tup [.str x.1, .bool x.2], fun _ H _ => H⟩),
  (80, ⟨List T.Need, fun _ _ x => T.aN x, fun _ H _ => H⟩),
  (79, ⟨List (List UInt8), fun _ _ x => T.aL x, fun _ H _ => H⟩),
  (81, ⟨Int × Bool, fun _ _ x => .tup [.int .i64 x.1, .bool x.2], fun _ H _ => H⟩),
  (76, ⟨Int × Bool, fun _ _ x => .tup [.int .i64 x.1, .bool x.2], fun _ H _ => H⟩),
  (17, ⟨T.Rel × Bool, fun _ _ x => .tup [.agg (T.encR x.1), .bool x.2], fun _ H _ => H⟩),
  (122, ⟨Bool, fun _ _ x => .bool x, fun _ H _ => H⟩),
  (155, ⟨Bool, fun _ _ x => .bool x, fun _ H _ => H⟩),
  (154, ⟨Bool, fun _ _ x => .bool x, fun _ H _ => H⟩),
  (123, ⟨Bool, fun _ _ x => .bool x, fun _ H _ => H⟩),
  (101, ⟨Bool, fun _ _ x => .bool x, fun _ H _ => H⟩),
  (119, ⟨Bool, fun _ _ x => .bool x, fun _ H _ => H⟩),
  (64, ⟨List Int, fun _ _ x => .sl 1 (.map encI 0 x) .none, fun _ H _ => H⟩),
  (67, ⟨List Int, fun _ _ x => .sl 1 (.map encI 0 x) .none, fun _ H _ => H⟩),
  (98, ⟨List T.Pk, fun _ _ x => T.aK x, fun _ H _ => H⟩),
  (114, ⟨List T.Pk, fun _ _ x => T.aK x, fun _ H _ => H⟩),
  (70, ⟨Int × ByteArray, fun _ _ x => .tup [.int .i64 x.1, .str x.2], fun _ H _ => H⟩),
  (193, ⟨Int, fun _ _ x => .int .i64 x, fun _ H _ => H⟩),
  (83, ⟨List T.Span, fun _ _ _ => .tup [], fun _ H x => H.set 3 (.cells [T.aS x])⟩),
  (75, ⟨List (List UInt8), fun _ _ _ => .tup [], fun _ H x => openH H x⟩),
  (116, ⟨Unit, fun _ H _ => .fn 149 [.ptr H.length 0], fun a H _ => H ++ [.cells [a.getD 0 .bad]]⟩),
  (yieldKey, ⟨Unit, fun _ _ _ => .bool true, fun _ H _ => H⟩),
  (yieldKey, ⟨List Int, fun _ _ _ => .bool true, fun _ H x => ((H.set 6 .gone).set 2 (.cells [.sl 1 (.map encI 0 x) (.tok H.length)])) ++ [.tok]⟩),
  (72, ⟨Int, fun _ _ _ => .tup [], fun a H x => fuelP a H x⟩),
  (73, ⟨(List T.Pk × Int × ByteArray) × Int, fun _ _ x => .tup [T.aK x.1.1, .int .i64 x.1.2.1, .str x.1.2.2], fun a H x => fuelP a H x.2⟩),
  (28, ⟨List T.Pk × Int × ByteArray, fun _ _ x => .tup [T.aK x.1, .int .i64 x.2.1, .str x.2.2], fun _ H _ => H⟩),
  (27, ⟨List T.Pk × Int × ByteArray, fun _ _ x => .tup [T.aK x.1, .int .i64 x.2.1, .str x.2.2], fun _ H _ => H⟩),
  (26, ⟨Unit, fun _ _ _ => .bool true, fun _ H _ => H⟩)]
def rets : FuncId → List Ret := fun f => match lookupR retPn f with
  | [] => (match Ft.rets f with | [] => Xd.rets f | l => l)
  | l => l
def g77 : Cfg := { N := 25, live := nol, cut := nof, mu := nof, ret := rets }
theorem s77 : ∀ (es : T.Kn) (p : T.Pk) (Post : PT),
  (ASpec prog 16 [.ptr 1 0, T.sB p.1] [AObj.mp (.typed T.EK es), .cells [AV.map 0], .cells [T.sB p.1, .int .i64 p.2]] fun r H' => ∃ (x : T.Mani × Bool), r = AV.tup [.agg [T.sB x.1.1, T.aR x.1.2], .bool x.2] ∧ H' = [T.mX es, T.m0, .cells [T.sB p.1, .int .i64 p.2]] ∧ ASpec prog 125 [.agg [T.sB x.1.1, T.aR x.1.2], .int .i64 p.2] [T.mX es, T.m0, .cells [T.sB p.1, .int .i64 p.2], .cells [T.sB x.1.1, T.aR x.1.2]] fun r H' => ∃ (x_1 : T.Rel × Bool), r = AV.tup [.agg [.int .i64 x_1.1.1, T.aN x_1.1.2], .bool x_1.2] ∧ H' = [T.mX es, T.m0, .cells [T.sB p.1, .int .i64 p.2], .cells [T.sB x.1.1, T.aR x.1.2]] ∧ Post (T.aN x_1.1.2) [T.mX es, T.m0, .cells [T.sB p.1, .int .i64 p.2], .cells [T.sB x.1.1, T.aR x.1.2], .cells [.int .i64 x_1.1.1, T.aN x_1.1.2]]) → ASpec prog 77 [.ptr 1 0, .agg (T.encPk p)] (T.HX es) Post := fun es p Post h => ASpec.of_vc g77 Tryz.func77 (by kernel_rfl) (by kernel_rfl) (by kernel_rfl) (kc (by kernel_rfl) h)
def g84 : Cfg := { N := 18, live := nol, cut := nof, mu := nof, ret := rets }
theorem s84 : ∀ (ns : List T.Need) (s : List UInt8) (Post : PT),
  (ASpec prog 126 [T.aN ns, .fn 127 [.ptr 0 0]] [AObj.cells [T.sB s]] fun r H' => ∃ (x : Int), r = AV.int .i64 x ∧ H' = [AObj.cells [T.sB s]] ∧ condP (decide (x < (0 : Int))) (Post (.tup [AV.sl 0 (.raw []) .nil, AV.bool false]) [AObj.cells [T.sB s]]) (needP (0 ≤ x ∧ x < (↑ns.length : Int)) (ASpec prog 104 [AV.sl 2 (.map T.encS (0, 0) (ns.getD x.toNat ([], [])).2) .none] [AObj.cells [T.sB s]] fun r H' => ∃ (x : List T.Span), r = T.aS x ∧ H' = [AObj.cells [T.sB s]] ∧ Post (.tup [T.aS x, .bool true]) [AObj.cells [T.sB s]]))) → ASpec prog 84 [T.aN ns, T.sB s] [] Post := fun ns s Post h => ASpec.of_vc g84 Tryz.func84 (by kernel_rfl) (by kernel_rfl) (by kernel_rfl) (kc (by kernel_rfl) h)
def l126 : Nat → List Nat
  | 2 => [0, 1, 7, 8]
  | _ => []
def g126 : Cfg := { N := 19, live := l126, cut := nof, mu := nof, ret := rets }
def c126 : Code := bodyOf Tryz.f126
def q126_0 (n : Nat) (Post : PT) : AQ := endQ prog (resultsOf Tryz.f126) Post
def q126_1 (n : Nat) (Post : PT) : AQ := seqQ (fun s' H' => awp prog g126 n (codeSnd (codeSnd c126)) s' H' (q126_0 n Post)) (q126_0 n Post)
def q126_2 (n : Nat) (Post : PT) : AQ := blockQ 0 (q126_1 n Post)
def c126_2 : Code := codeFst (codeSnd (codeFst (codeSnd c126)))
theorem s126 : ∀ (ns : List T.Need) (s : List UInt8) (Post : PT),
  AWP prog 19 1 c126_2 [(0, T.aN ns), (1, .fn (127 : FuncId) [.ptr 0 0]), (7, .int .i64 ns.length), (8, .int .i64 0)] [AObj.cells [T.sB s]] (q126_2 1 Post) → ASpec prog 126 [T.aN ns, .fn (127 : FuncId) [.ptr 0 0]] [AObj.cells [T.sB s]] Post := fun ns s Post h => ASpec.of_vc g126 Tryz.func126 (by kernel_rfl) (by kernel_rfl) (by kernel_rfl) (kc (by kernel_rfl) h)
theorem v126_2 : ∀ (ns : List T.Need) (s : List UInt8) (n i : Int) (n_1 : Nat) (Post : PT),
  condP (decide (i < n)) (needP (0 ≤ i ∧ i < (↑ns.length : Int)) (ASpec prog 127 [AV.agg [AV.str ⟨(ns.getD i.toNat ([], [])).1.toArray⟩, .sl 2 (.map T.encS (0, 0) (ns.getD i.toNat ([], [])).2) .none], AV.ptr 0 0] [AObj.cells [T.sB s]] fun r H' => ∃ (x : Bool), r = AV.bool x ∧ H' = [AObj.cells [T.sB s]] ∧ condP x (Post (.int .i64 i) [AObj.cells [T.sB s]]) (AWP prog 19 n_1 c126_2 [(0, T.aN ns), (1, .fn (127 : FuncId) [.ptr 0 0]), (7, .int .i64 n), (8, .int .i64 (IntKind.wrap .i64 (i + (1 : Int))))] [AObj.cells [T.sB s]] (q126_2 n_1 Post)))) (Post (.int .i64 (-1)) [AObj.cells [T.sB s]]) → AWP prog 19 n_1 c126_2 [(0, T.aN ns), (1, .fn (127 : FuncId) [.ptr 0 0]), (7, .int .i64 n), (8, .int .i64 i)] [AObj.cells [T.sB s]] (q126_2 n_1 Post) := fun ns s n i n Post h => AWP.loop' g126 (Cfg.live g126) c126_2 (by kernel_rfl) (by kernel_rfl) (kc (by kernel_rfl) h)
def g127 : Cfg := { N := 8, live := nol, cut := nof, mu := nof, ret := rets }
theorem s127 : ∀ (x : T.Need) (s : List UInt8) (Post : PT),
  Post (.bool (ByteArray.toList ⟨x.1.toArray⟩ == ByteArray.toList ⟨s.toArray⟩)) [AObj.cells [T.sB s], .cells [T.sB x.1, T.aS x.2]] → ASpec prog 127 [.agg (T.encN x), .ptr 0 0] [AObj.cells [T.sB s]] Post := fun x s Post h => ASpec.of_vc g127 Tryz.func127 (by kernel_rfl) (by kernel_rfl) (by kernel_rfl) (kc (by kernel_rfl) h)
def g82 : Cfg := { N := 3, live := nol, cut := nof, mu := nof, ret := rets }
theorem s82 : ∀ (Post : PT), Post (.sl 2 (.raw [[.int .i64 0, .int .i64 1000000000]]) .full) [] → ASpec prog 82 [] [] Post := fun Post h => ASpec.of_vc g82 Tryz.func82 (by kernel_rfl) (by kernel_rfl) (by kernel_rfl) (kc (by kernel_rfl) h)
def g83 : Cfg := { N := 16, live := nol, cut := nof, mu := nof, ret := rets }
theorem s83 : ∀ (es : T.Kn) (ns : List T.Need) (s : List UInt8) (u : List T.Span) (Post : PT),
  (ASpec prog 84 [T.aN ns, T.sB s] [AObj.mp (.typed T.EK es), .cells [AV.map 0], .cells [T.sB s], .cells [T.aS u]] fun r H' => ∃ (x : List T.Span × Bool), r = AV.tup [T.aS x.1, .bool x.2] ∧ H' = [T.mX es, T.m0, .cells [T.sB s], .cells [T.aS u]] ∧ condP x.2 (ASpec prog 65 [T.aS u, T.aS x.1] [T.mX es, T.m0, .cells [T.sB s], .cells [T.aS u]] fun r H' => ∃ (x : List T.Span), r = T.aS x ∧ H' = [T.mX es, T.m0, .cells [T.sB s], .cells [T.aS u]] ∧ Post (.tup []) [T.mX es, T.m0, .cells [T.sB s], .cells [T.aS x]]) (Post (.tup []) [T.mX es, T.m0, .cells [T.sB s], .cells [T.aS u]])) → ASpec prog 83 [T.aN ns, .ptr 2 0, .ptr 3 0] (T.HX es ++ [AObj.cells [T.sB s], .cells [T.aS u]]) Post := fun es ns s u Post h => ASpec.of_vc g83 Tryz.func83 (by kernel_rfl) (by kernel_rfl) (by kernel_rfl) (kc (by kernel_rfl) h)
def l35 : Nat → List Nat
  | 5 => [0, 9, 10, 18, 19, 20]
  | _ => []
def g35 : Cfg := { N := 31, live := l35, cut := nof, mu := nof, ret := rets }
def c35 : Code := bodyOf Tryz.f35
def q35_0 (n : Nat) (Post : PT) : AQ := endQ prog (resultsOf Tryz.f35) Post
def q35_1 (n : Nat) (Post : PT) : AQ := seqQ (fun s' H' => awp prog g35 n (codeSnd (codeSnd (codeSnd (codeSnd (codeSnd c35))))) s' H' (q35_0 n Post)) (q35_0 n Post)
def q35_2 (n : Nat) (Post : PT) : AQ := blockQ 0 (q35_1 n Post)
def c35_5 : Code := codeFst (codeSnd (codeFst (codeSnd (codeSnd (codeSnd (codeSnd c35))))))
theorem s35 : ∀ (es : T.Kn) (root : List T.Need) (l : List T.Pk) (s : List UInt8) (Post : PT),
  (ASpec prog 82 [] [T.mX es, T.m0, .cells [T.sB s]] fun r H' => ∃ (x : List T.Span), r = T.aS x ∧ H' = [T.mX es, T.m0, .cells [T.sB s]] ∧ ASpec prog 83 [T.aN root, .ptr 2 0, .ptr 3 0] [T.mX es, T.m0, .cells [T.sB s], .cells [T.aS x]] fun r H' => ∃ (x : List T.Span), r = AV.tup [] ∧ H' = [T.mX es, T.m0, .cells [T.sB s], .cells [T.aS x]] ∧ AWP prog 31 2 c35_5 [(0, .ptr 1 0), (9, .ptr 3 0), (10, .fn 83 [.ptr 2 0, .ptr 3 0]), (18, T.aK l), (19, .int .i64 l.length), (20, .int .i64 0)] [T.mX es, T.m0, .cells [T.sB s], .cells [T.aS x]] (q35_2 2 Post)) → ASpec prog 35 [.ptr 1 0, T.aN root, T.aK l, T.sB s] (T.HX es) Post := fun es root l s Post h => ASpec.of_vc g35 Tryz.func35 (by kernel_rfl) (by kernel_rfl) (by kernel_rfl) (kc (by kernel_rfl) h)
theorem v35_5 : ∀ (es : T.Kn) (l : List T.Pk) (s : List UInt8) (u : List T.Span) (n i : Int) (n_1 : Nat) (Post : PT),
  condP (decide (i < n)) (needP (0 ≤ i ∧ i < (↑l.length : Int)) (ASpec prog 77 [AV.ptr 1 0, .agg [AV.str ⟨(l.getD i.toNat T.noPk).1.toArray⟩, .int .i64 (l.getD i.toNat T.noPk).2]] [T.mX es, T.m0, .cells [T.sB s], .cells [T.aS u], .cells [.str ⟨(l.getD i.toNat T.noPk).1.toArray⟩, .int .i64 (l.getD i.toNat T.noPk).2]] fun r H' => ∃ (x : List T.Need), r = T.aN x ∧ H' = [T.mX es, T.m0, .cells [T.sB s], .cells [T.aS u], .cells [.str ⟨(l.getD i.toNat T.noPk).1.toArray⟩, .int .i64 (l.getD i.toNat T.noPk).2]] ∧ ASpec prog 83 [T.aN x, .ptr 2 0, .ptr 3 0] [T.mX es, T.m0, .cells [T.sB s], .cells [T.aS u], .cells [.str ⟨(l.getD i.toNat T.noPk).1.toArray⟩, .int .i64 (l.getD i.toNat T.noPk).2]] fun r H' => ∃ (x : List T.Span), r = AV.tup [] ∧ H' = [T.mX es, T.m0, .cells [T.sB s], .cells [T.aS x], .cells [.str ⟨(l.getD i.toNat T.noPk).1.toArray⟩, .int .i64 (l.getD i.toNat T.noPk).2]] ∧ AWP prog 31 n_1 c35_5 [(0, .ptr 1 0), (9, .ptr 3 0), (10, .fn (83 : FuncId) [.ptr 2 0, .ptr 3 0]), (18, T.aK l), (19, .int .i64 n), (20, .int .i64 (IntKind.wrap .i64 (i + (1 : Int))))] [T.mX es, T.m0, .cells [T.sB s], .cells [T.aS x], .cells [.str ⟨(l.getD i.toNat T.noPk).1.toArray⟩, .int .i64 (l.getD i.toNat T.noPk).2]] (q35_2 n_1 Post))) (Post (T.aS u) [T.mX es, T.m0, .cells [T.sB s], .cells [T.aS u]]) → AWP prog 31 n_1 c35_5 [(0, .ptr 1 0), (9, .ptr 3 0), (10, .fn (83 : FuncId) [.ptr 2 0, .ptr 3 0]), (18, T.aK l), (19, .int .i64 n), (20, .int .i64 i)] (T.HX es ++ [AObj.cells [T.sB s], .cells [T.aS u]]) (q35_2 n_1 Post) := fun es l s u n i n Post h => AWP.loop' g35 (Cfg.live g35) c35_5 (by kernel_rfl) (by kernel_rfl) (kc (by kernel_rfl) h)
def l78 : Nat → List Nat
  | 5 => [0, 3, 4]
  | _ => []
def px78 : Nat → Bool
  | 2 => true
  | _ => false
def g78 : Cfg := { N := 25, live := l78, cut := nof, mu := nof, ret := rets, px := px78 }
def c78 : Code := bodyOf Tryz.f78
def q78_0 : Nat → (AV → List AObj → Prop) → (AV → List AObj → Prop) → AQ := fun (n : Nat) (Post PX : PT) => endQX prog (resultsOf Tryz.f78) Post PX
def q78_1 : Nat → (AV → List AObj → Prop) → (AV → List AObj → Prop) → AQ := fun (n : Nat) (Post PX : PT) => seqQ (fun s' H' => awp prog g78 n (codeSnd (codeSnd (codeSnd (codeSnd c78)))) s' H' (q78_0 n Post PX)) (q78_0 n Post PX)
def q78_2 : Nat → (AV → List AObj → Prop) → (AV → List AObj → Prop) → AQ := fun (n : Nat) (Post PX : PT) => blockQ 0 (q78_1 n Post PX)
def c78_5 : Code := codeFst (codeSnd (codeFst (codeSnd (codeSnd (codeSnd c78)))))
theorem s78 : ∀ (o : List (List UInt8)) (Post PX : PT),
  condP (decide ((↑o.length : Int) < (1 : Int))) (PX (AV.iface 9 (AV.str ⟨#[(115 : UInt8), (108 : UInt8), (105 : UInt8), (99 : UInt8), (101 : UInt8), (115 : UInt8), (46 : UInt8), (77 : UInt8), (105 : UInt8), (110 : UInt8), (58 : UInt8), (32 : UInt8), (101 : UInt8), (109 : UInt8), (112 : UInt8), (116 : UInt8), (121 : UInt8), (32 : UInt8), (108 : UInt8), (105 : UInt8), (115 : UInt8), (116 : UInt8)]⟩)) []) (needP ((0 : Int) ≤ (0 : Int) ∧ (0 : Int) < (↑o.length : Int)) (AWP prog 25 0 c78_5 [(0, T.aL o), (3, .str ⟨(o.getD 0 []).toArray⟩), (4, .int .i64 1)] [] (q78_2 0 Post PX))) → ASpecX prog 78 [T.aL o] [] Post PX := fun o Post PX h => ASpecX.of_vc g78 Tryz.func78 (by kernel_rfl) (by kernel_rfl) (by kernel_rfl) (kc (by kernel_rfl) h)
theorem v78_5 : ∀ (o : List (List UInt8)) (s : List UInt8) (i : Int) (n : Nat) (Post PX : PT),
  condP (decide (i < (↑o.length : Int))) (needP (0 ≤ i ∧ i < (↑o.length : Int)) (condP (Op.bytesLess (ByteArray.toList ⟨s.toArray⟩) (ByteArray.toList ⟨(o.getD i.toNat []).toArray⟩) || ByteArray.toList ⟨s.toArray⟩ == ByteArray.toList ⟨(o.getD i.toNat []).toArray⟩) (AWP prog 25 n c78_5 [(0, T.aL o), (3, T.sB s), (4, .int .i64 (IntKind.wrap .i64 (i + (1 : Int))))] [] (q78_2 n Post PX)) (AWP prog 25 n c78_5 [(0, T.aL o), (3, .str ⟨(o.getD i.toNat []).toArray⟩), (4, .int .i64 (IntKind.wrap .i64 (i + (1 : Int))))] [] (q78_2 n Post PX)))) (Post (T.sB s) []) → AWP prog 25 n c78_5 [(0, T.aL o), (3, T.sB s), (4, .int .i64 i)] [] (q78_2 n Post PX) := fun o s i n Post PX h => AWP.loop' g78 (Cfg.live g78) c78_5 (by kernel_rfl) (by kernel_rfl) (kc (by kernel_rfl) h)
def l75 : Nat → List Nat
  | 1 => [1, 2, 8, 9, 10]
  | _ => []
def g75 : Cfg := { N := 29, live := l75, cut := nof, mu := nof, ret := rets }
def c75 : Code := bodyOf Tryz.f75
def q75_0 (n : Nat) (Post : PT) : AQ := endQ prog (resultsOf Tryz.f75) Post
def q75_1 (n : Nat) (Post : PT) : AQ := blockQ 0 (q75_0 n Post)
def c75_1 : Code := codeFst (codeSnd c75)
theorem s75 : ∀ (es : T.Kn) (ns : List T.Need) (l : List T.Pk) (o : List (List UInt8)) (Post : PT),
  AWP prog 29 5 c75_1 [(1, .ptr 2 0), (2, .ptr 3 0), (8, T.aN ns), (9, .int .i64 ns.length), (10, .int .i64 0)] [T.mX es, T.m0, .cells [T.aK l], .cells [.sl 1 (.map T.encL [] o) (.tok 4)], .tok] (q75_1 5 Post) → ASpec prog 75 [T.aN ns, .ptr 2 0, .ptr 3 0] (T.HX es ++ [AObj.cells [T.aK l], .cells [.sl 1 (.map T.encL [] o) (.tok 4)], .tok]) Post := fun es ns l o Post h => ASpec.of_vc g75 Tryz.func75 (by kernel_rfl) (by kernel_rfl) (by kernel_rfl) (kc (by kernel_rfl) h)
theorem v75_1 : ∀ (es : T.Kn) (ns : List T.Need) (l : List T.Pk) (o : List (List UInt8)) (n i : Int) (n_1 : Nat) (Post : PT),
  condP (decide (i < n)) (needP (0 ≤ i ∧ i < (↑ns.length : Int)) (ASpec prog 76 [T.aK l, .str ⟨(ns.getD i.toNat ([], [])).1.toArray⟩] [T.mX es, T.m0, .cells [T.aK l], .cells [.sl 1 (.map T.encL [] o) (.tok 5)], .gone, .tok, .cells [.str ⟨(ns.getD i.toNat ([], [])).1.toArray⟩, .sl 2 (.map T.encS (0, 0) (ns.getD i.toNat ([], [])).2) .none]] fun r H' => ∃ (x : Int × Bool), r = AV.tup [.int .i64 x.1, .bool x.2] ∧ H' = [T.mX es, T.m0, .cells [T.aK l], .cells [.sl 1 (.map T.encL [] o) (.tok 5)], .gone, .tok, .cells [.str ⟨(ns.getD i.toNat ([], [])).1.toArray⟩, .sl 2 (.map T.encS (0, 0) (ns.getD i.toNat ([], [])).2) .none]] ∧ condP (!Prod.snd x) (needP ((List.length o + 1) * 16 ≤ 140737488351232) (AWP prog 29 n_1 c75_1 [(1, .ptr 2 0), (2, .ptr 3 0), (8, T.aN ns), (9, .int .i64 n), (10, .int .i64 (IntKind.wrap .i64 (i + (1 : Int))))] [T.mX es, T.m0, .cells [T.aK l], .cells [.sl 1 (.app (.map T.encL [] o) (.raw [[.str ⟨(ns.getD i.toNat ([], [])).1.toArray⟩]])) (.tok 7)], .gone, .gone, .cells [.str ⟨(ns.getD i.toNat ([], [])).1.toArray⟩, .sl 2 (.map T.encS (0, 0) (ns.getD i.toNat ([], [])).2) .none], .tok] (q75_1 n_1 Post))) (AWP prog 29 n_1 c75_1 [(1, .ptr 2 0), (2, .ptr 3 0), (8, T.aN ns), (9, .int .i64 n), (10, .int .i64 (IntKind.wrap .i64 (i + (1 : Int))))] [T.mX es, T.m0, .cells [T.aK l], .cells [.sl 1 (.map T.encL [] o) (.tok 5)], .gone, .tok, .cells [.str ⟨(ns.getD i.toNat ([], [])).1.toArray⟩, .sl 2 (.map T.encS (0, 0) (ns.getD i.toNat ([], [])).2) .none]] (q75_1 n_1 Post)))) (Post (.tup []) [T.mX es, T.m0, .cells [T.aK l], .cells [.sl 1 (.map T.encL [] o) (.tok 5)], .gone, .tok]) → AWP prog 29 n_1 c75_1 [(1, .ptr 2 0), (2, .ptr 3 0), (8, T.aN ns), (9, .int .i64 n), (10, .int .i64 i)] (T.HX es ++ [AObj.cells [T.aK l], .cells [.sl 1 (.map T.encL [] o) (.tok 5)], .gone, .tok]) (q75_1 n_1 Post) := fun es ns l o n i n Post h => AWP.loop' g75 (Cfg.live g75) c75_1 (by kernel_rfl) (by kernel_rfl) (kc (by kernel_rfl) h)
def l32 : Nat → List Nat
  | 3 => [0, 1, 5, 8, 9]
  | 5 => [0, 8, 9, 16, 17, 18]
  | 9 => [8]
  | _ => []
def u32 : Nat → Bool
  | 3 => true
  | 9 => true
  | _ => false
def g32 : Cfg := { N := 33, live := l32, cut := u32, mu := nof, ret := rets }
def c32 : Code := bodyOf Tryz.f32
def q32_0 (n : Nat) (Post : PT) : AQ := endQ prog (resultsOf Tryz.f32) Post
def c32_3 : Code := codeSnd (codeSnd (codeSnd c32))
theorem s32 : ∀ (es : T.Kn) (root : List T.Need) (l : List T.Pk) (Post : PT),
  AWP prog 33 2 c32_3 [(0, .ptr 1 0), (1, T.aN root), (5, .ptr 2 0), (8, .ptr 3 0), (9, .fn 75 [.ptr 2 0, .ptr 3 0])] [T.mX es, T.m0, .cells [T.aK l], .cells [.sl 0 (.raw []) .nil]] (q32_0 2 Post) → ASpec prog 32 [.ptr 1 0, T.aN root, T.aK l] (T.HX es) Post := fun es root l Post h => ASpec.of_vc g32 Tryz.func32 (by kernel_rfl) (by kernel_rfl) (by kernel_rfl) (kc (by kernel_rfl) h)
def c32_9 : Code := codeSnd (codeSnd c32_3)
def q32_1 (n : Nat) (Post : PT) : AQ := seqQ (fun (s' : Slots) (H' : List AObj) => AWP prog (Cfg.N g32) n c32_9 (restrict s' (Cfg.live g32 9)) H' (q32_0 n Post)) (q32_0 n Post)
def q32_2 (n : Nat) (Post : PT) : AQ := blockQ 0 (q32_1 n Post)
def c32_5 : Code := codeFst (codeSnd (codeFst (codeSnd c32_3)))
theorem v32_3 : ∀ (es : T.Kn) (root : List T.Need) (l : List T.Pk) (o : List (List UInt8)) (n : Nat) (Post : PT),
  (ASpec prog 75 [T.aN root, .ptr 2 0, .ptr 3 0] [T.mX es, T.m0, .cells [T.aK l], .cells [.sl 1 (.map T.encL [] o) (.tok 4)], .tok] fun r H' => ∃ (x : List (List UInt8)), r = AV.tup [] ∧ H' = [T.mX es, T.m0, .cells [T.aK l], .cells [.sl 1 (.map T.encL [] x) (.tok 5)], .gone, .tok] ∧ AWP prog 33 n c32_5 [(0, .ptr 1 0), (8, .ptr 3 0), (9, .fn (75 : FuncId) [.ptr 2 0, .ptr 3 0]), (16, T.aK l), (17, .int .i64 l.length), (18, .int .i64 0)] [T.mX es, T.m0, .cells [T.aK l], .cells [.sl 1 (.map T.encL [] x) (.tok 5)], .gone, .tok] (q32_2 n Post)) → AWP prog 33 n c32_3 [(0, .ptr 1 0), (1, T.aN root), (5, .ptr 2 0), (8, .ptr 3 0), (9, .fn (75 : FuncId) [.ptr 2 0, .ptr 3 0])] (T.HX es ++ [AObj.cells [T.aK l], .cells [.sl 1 (.map T.encL [] o) (.tok 4)], .tok]) (q32_0 n Post) := fun es root l o n Post h => Go.Ab.awp_sound g32 n _ _ _ _ (kc (by kernel_rfl) h)
theorem v32_5 : ∀ (es : T.Kn) (l : List T.Pk) (o : List (List UInt8)) (n i : Int) (n_1 : Nat) (Post : PT),
  condP (decide (i < n)) (needP (0 ≤ i ∧ i < (↑l.length : Int)) (ASpec prog 77 [AV.ptr 1 0, .agg [AV.str ⟨(l.getD i.toNat T.noPk).1.toArray⟩, .int .i64 (l.getD i.toNat T.noPk).2]] [T.mX es, T.m0, .cells [T.aK l], .cells [.sl 1 (.map T.encL [] o) (.tok 4)], .tok, .cells [.str ⟨(l.getD i.toNat T.noPk).1.toArray⟩, .int .i64 (l.getD i.toNat T.noPk).2]] fun r H' => ∃ (x : List T.Need), r = T.aN x ∧ H' = [T.mX es, T.m0, .cells [T.aK l], .cells [.sl 1 (.map T.encL [] o) (.tok 4)], .tok, .cells [.str ⟨(l.getD i.toNat T.noPk).1.toArray⟩, .int .i64 (l.getD i.toNat T.noPk).2]] ∧ ASpec prog 75 [T.aN x, .ptr 2 0, .ptr 3 0] [T.mX es, T.m0, .cells [T.aK l], .cells [.sl 1 (.map T.encL [] o) (.tok 4)], .tok, .cells [.str ⟨(l.getD i.toNat T.noPk).1.toArray⟩, .int .i64 (l.getD i.toNat T.noPk).2]] fun r H' => ∃ (x : List (List UInt8)), r = AV.tup [] ∧ H' = [T.mX es, T.m0, .cells [T.aK l], .cells [.sl 1 (.map T.encL [] x) (.tok 6)], .gone, .cells [.str ⟨(l.getD i.toNat T.noPk).1.toArray⟩, .int .i64 (l.getD i.toNat T.noPk).2], .tok] ∧ AWP prog 33 n_1 c32_5 [(0, .ptr 1 0), (8, .ptr 3 0), (9, .fn (75 : FuncId) [.ptr 2 0, .ptr 3 0]), (16, T.aK l), (17, .int .i64 n), (18, .int .i64 (IntKind.wrap .i64 (i + (1 : Int))))] [T.mX es, T.m0, .cells [T.aK l], .cells [.sl 1 (.map T.encL [] x) (.tok 6)], .gone, .cells [.str ⟨(l.getD i.toNat T.noPk).1.toArray⟩, .int .i64 (l.getD i.toNat T.noPk).2], .tok] (q32_2 n_1 Post))) (AWP prog 33 n_1 c32_9 [(8, .ptr 3 0)] [T.mX es, T.m0, .cells [T.aK l], .cells [.sl 1 (.map T.encL [] o) (.tok 4)], .tok] (q32_0 n_1 Post)) → AWP prog 33 n_1 c32_5 [(0, .ptr 1 0), (8, .ptr 3 0), (9, .fn (75 : FuncId) [.ptr 2 0, .ptr 3 0]), (16, T.aK l), (17, .int .i64 n), (18, .int .i64 i)] (T.HX es ++ [AObj.cells [T.aK l], .cells [.sl 1 (.map T.encL [] o) (.tok 4)], .tok]) (q32_2 n_1 Post) := fun es l o n i n Post h => AWP.loop' g32 (Cfg.live g32) c32_5 (by kernel_rfl) (by kernel_rfl) (kc (by kernel_rfl) h)
theorem v32_9 : ∀ (es : T.Kn) (l : List T.Pk) (o : List (List UInt8)) (n : Nat) (Post : PT),
  condP ((↑o.length : Int) == (0 : Int)) (Post (.tup [AV.str ⟨#[]⟩, .bool false]) [T.mX es, T.m0, .cells [T.aK l], .cells [.sl 1 (.map T.encL [] o) (.tok 4)], .tok]) (ASpec prog 78 [.sl 1 (.map T.encL [] o) (.tok 4)] [T.mX es, T.m0, .cells [T.aK l], .cells [.sl 1 (.map T.encL [] o) (.tok 4)], .tok] fun r H' => ∃ (x : ByteArray), r = AV.str x ∧ H' = [T.mX es, T.m0, .cells [T.aK l], .cells [.sl 1 (.map T.encL [] o) (.tok 4)], .tok] ∧ Post (.tup [.str x, AV.bool true]) [T.mX es, T.m0, .cells [T.aK l], .cells [.sl 1 (.map T.encL [] o) (.tok 4)], .tok]) → AWP prog 33 n c32_9 [(8, .ptr 3 0)] (T.HX es ++ [AObj.cells [T.aK l], .cells [.sl 1 (.map T.encL [] o) (.tok 4)], .tok]) (q32_0 n Post) := fun es l o n Post h => Go.Ab.awp_sound g32 n _ _ _ _ (kc (by kernel_rfl) h)
def g116 : Cfg := { N := 4, live := nol, cut := nof, mu := nof, ret := rets }
theorem s116 : ∀ (rs : List T.Rel) (Post : PT),
  Post (.fn 149 [.ptr 0 0]) [AObj.cells [T.aR rs]] → ASpec prog 116 [T.aR rs] [] Post := fun rs Post h => ASpec.of_vc g116 Tryz.func116 (by kernel_rfl) (by kernel_rfl) (by kernel_rfl) (kc (by kernel_rfl) h)
def l149 : Nat → List Nat
  | 1 => [0, 1, 3]
  | _ => []
def g149 : Cfg := { N := 19, live := l149, cut := nof, mu := nof, ret := rets }
def c149 : Code := bodyOf Tryz.f149
def q149_0 (n : Nat) (Post : PT) : AQ := endQ prog (resultsOf Tryz.f149) Post
def q149_1 (n : Nat) (Post : PT) : AQ := blockQ 0 (q149_0 n Post)
def c149_1 : Code := codeFst (codeSnd c149)
theorem s149 : ∀ (m : T.Mani) (q : List T.Span) (rs : List T.Rel) (w : List Int) (o : AObj) (Post : PT),
  AWP prog 19 6 c149_1 [(0, .yld 5), (1, .ptr 4 0), (3, .int .i64 (IntKind.wrap .i64 ((↑rs.length : Int) - (1 : Int))))] [AObj.cells [T.sB m.1, T.aR m.2], .cells [T.aS q], .cells [.sl 1 (.map encI 0 w) (.tok 3)], .tok, .cells [T.aR rs], o] (q149_1 6 Post) → ASpec prog 149 [.yld 5, .ptr 4 0] [AObj.cells (T.encM m), .cells [T.aS q], .cells [.sl 1 (.map encI 0 w) (.tok 3)], .tok, .cells [T.aR rs], o] Post := fun m q rs w o Post h => ASpec.of_vc g149 Tryz.func149 (by kernel_rfl) (by kernel_rfl) (by kernel_rfl) (kc (by kernel_rfl) h)
abbrev hpv149_10 (m : T.Mani) (q : List T.Span) (w : List Int) (rs : List T.Rel) (o : AObj) : List AObj := [AObj.cells [T.sB m.1, T.aR m.2], .cells [T.aS q], .cells [.sl 1 (.map encI 0 w) (.tok 6)], .gone, .cells [T.aR rs], o, .tok]
theorem v149_1 : ∀ (m : T.Mani) (q : List T.Span) (rs : List T.Rel) (w : List Int) (o : AObj) (i : Int) (n : Nat) (Post : PT),
  condP (decide (i ≥ (0 : Int))) (needP (0 ≤ i ∧ i < (↑rs.length : Int)) (AYield prog 5 [AV.int .i64 i, AV.agg [.int .i64 (rs.getD i.toNat ((0 : Int), [])).1, .sl 2 (.map T.encN ([], []) (rs.getD i.toNat ((0 : Int), [])).2) .none]] (hpv149_10 m q w rs o) fun r H' => (∃ (x : Unit), r = AV.bool true ∧ H' = (hpv149_10 m q w rs o) ∧ AWP prog 19 n c149_1 [(0, .yld 5), (1, .ptr 4 0), (3, .int .i64 (IntKind.wrap .i64 (i - (1 : Int))))] (hpv149_10 m q w rs o) (q149_1 n Post)) ∨ ∃ (x : List Int), r = AV.bool true ∧ H' = [AObj.cells [T.sB m.1, T.aR m.2], .cells [T.aS q], .cells [.sl 1 (.map encI 0 x) (.tok 7)], .gone, .cells [T.aR rs], o, .gone, .tok] ∧ AWP prog 19 n c149_1 [(0, .yld 5), (1, .ptr 4 0), (3, .int .i64 (IntKind.wrap .i64 (i - (1 : Int))))] [AObj.cells [T.sB m.1, T.aR m.2], .cells [T.aS q], .cells [.sl 1 (.map encI 0 x) (.tok 7)], .gone, .cells [T.aR rs], o, .gone, .tok] (q149_1 n Post))) (Post (.tup []) (hpv149_10 m q w rs o)) → AWP prog 19 n c149_1 [(0, .yld 5), (1, .ptr 4 0), (3, .int .i64 i)] [AObj.cells (T.encM m), .cells [T.aS q], .cells [.sl 1 (.map encI 0 w) (.tok 6)], .gone, .cells [T.aR rs], o, .tok] (q149_1 n Post) := fun m q rs w o i n Post h => AWP.loop' g149 (Cfg.live g149) c149_1 (by kernel_rfl) (by kernel_rfl) (kc (by kernel_rfl) h)
def l64 : Nat → List Nat
  | 2 => [2, 3, 5]
  | 4 => [3, 5, 12]
  | _ => []
def u64 : Nat → Bool
  | 2 => true
  | _ => false
def m64 : Nat → Bool
  | _ => false
def g64 : Cfg := { N := 23, live := l64, cut := u64, mu := m64, ret := rets }
def g64r : Cfg := { N := 23, live := l64, cut := u64, mu := m64, ret := rets, rnd := true }
def c64 : Code := bodyOf Tryz.f64
def q64_0 (n : Nat) (Post : PT) : AQ := endQ prog (resultsOf Tryz.f64) Post
def c64_2 : Code := codeSnd (codeSnd c64)
theorem s64 : ∀ (m : T.Mani) (q : List T.Span) (Post : PT),
  AWP prog 23 0 c64_2 [(2, .ptr 0 0), (3, .ptr 1 0), (5, .ptr 2 0)] [AObj.cells [T.sB m.1, T.aR m.2], .cells [T.aS q], .cells [.sl 0 (.raw []) .nil]] (q64_0 0 Post) → ASpec prog 64 [.agg (T.encM m), T.aS q] [] Post := fun m q Post h => ASpec.of_vc g64 Tryz.func64 (by kernel_rfl) (by kernel_rfl) (by kernel_rfl) (kc (by kernel_rfl) h)
def q64_1 (n : Nat) (Post : PT) : AQ := seqQ (fun s' H' => awp prog g64 n (codeSnd c64_2) s' H' (q64_0 n Post)) (q64_0 n Post)
def q64_2 (n : Nat) (Post : PT) : AQ := blockQ 0 (q64_1 n Post)
def c64_4 : Code := codeFst (codeFst (codeSnd (codeFst c64_2)))
def c64_4a : Code := codeAsg (codeFst (codeSnd (codeFst c64_2)))
theorem v64_2 : ∀ (m : T.Mani) (q : List T.Span) (w : List Int) (n : Nat) (Post : PT),
  (ASpec prog 116 [T.aR m.2] [AObj.cells [T.sB m.1, T.aR m.2], .cells [T.aS q], .cells [.sl 1 (.map encI 0 w) (.tok 3)], .tok] fun r H' => ∃ (x : Unit), r = AV.fn (149 : FuncId) [.ptr 4 0] ∧ H' = [AObj.cells [T.sB m.1, T.aR m.2], .cells [T.aS q], .cells [.sl 1 (.map encI 0 w) (.tok 3)], .tok, .cells [T.aR m.2]] ∧ ASpec prog 149 [.yld 5, .ptr 4 0] [AObj.cells [T.sB m.1, T.aR m.2], .cells [T.aS q], .cells [.sl 1 (.map encI 0 w) (.tok 3)], .tok, .cells [T.aR m.2], .lp 23 [(3, .ptr 1 0), (5, .ptr 2 0), (12, .bad)] [11, 12] c64_4a c64_4 LpSt.ready] fun r H' => rangeEnd (q64_2 n Post) [(10, .fn (149 : FuncId) [.ptr 4 0]), (9, T.aR m.2), (8, .ptr 0 1), (2, .ptr 0 0), (3, .ptr 1 0), (5, .ptr 2 0)] 5 H') → AWP prog 23 n c64_2 [(2, .ptr 0 0), (3, .ptr 1 0), (5, .ptr 2 0)] [AObj.cells (T.encM m), .cells [T.aS q], .cells [.sl 1 (.map encI 0 w) (.tok 3)], .tok] (q64_0 n Post) := fun m q w n Post h => Go.Ab.awp_sound g64 n _ _ _ _ (kc (by kernel_rfl) h)
abbrev hpv64_40 (m : T.Mani) (q : List T.Span) (w : List Int) (rs : List T.Rel) (o' : AObj) (x : T.Rel) : List AObj := [AObj.cells [T.sB m.1, T.aR m.2], .cells [T.aS q], .cells [.sl 1 (.map encI 0 w) (.tok 6)], .gone, .cells [T.aR rs], o', .tok, .cells [.int .i64 x.1, T.aN x.2]]
theorem v64_4 : ∀ (m : T.Mani) (q : List T.Span) (rs : List T.Rel) (w : List Int) (x : T.Rel) (o o' : AObj) (n : Nat) (Post : PT) (Qr : AQ),
  needP (o = o) (ASpec prog 101 [T.aS q, .int .i64 x.1] (hpv64_40 m q w rs o' x) fun r H' => ∃ (x_1 : Bool), r = AV.bool x_1 ∧ H' = (hpv64_40 m q w rs o' x) ∧ condP x_1 (needP ((List.length w + 1) * 8 ≤ 140737488351232) (Qr Exit.normal [(21, .sl 1 (.app (.map encI 0 w) (.raw [[.int .i64 x.1]])) (.tok 8)), (20, .sl 1 (.raw [[.int .i64 x.1]]) .full), (19, .int .i64 x.1), (18, .ptr 7 0), (17, .sl 1 (.map encI 0 w) (.tok 6)), (16, .bool x_1), (15, .int .i64 x.1), (14, .ptr 7 0), (13, T.aS q), (7, .ptr 7 0), (3, .ptr 1 0), (5, .ptr 2 0), (12, .agg [.int .i64 x.1, T.aN x.2])] [AObj.cells [T.sB m.1, T.aR m.2], .cells [T.aS q], .cells [.sl 1 (.app (.map encI 0 w) (.raw [[.int .i64 x.1]])) (.tok 8)], .gone, .cells [T.aR rs], o', .gone, .cells [.int .i64 x.1, T.aN x.2], .tok])) (Qr Exit.normal [(16, .bool x_1), (15, .int .i64 x.1), (14, .ptr 7 0), (13, T.aS q), (7, .ptr 7 0), (3, .ptr 1 0), (5, .ptr 2 0), (12, .agg [.int .i64 x.1, T.aN x.2])] (hpv64_40 m q w rs o' x))) → ARound prog 23 n 5 o o' c64_4a c64_4 [(3, .ptr 1 0), (5, .ptr 2 0), (12, .agg [.int .i64 x.1, T.aN x.2])] [AObj.cells (T.encM m), .cells [T.aS q], .cells [.sl 1 (.map encI 0 w) (.tok 6)], .gone, .cells [T.aR rs], o, .tok] Qr := fun m q rs w x o o' n Post Qr h => Go.Ab.ARound.of g64r n 5 o o' (by kernel_rfl) _ _ _ _ _ (kc (by kernel_rfl) h)
def g122 : Cfg := { N := 8, live := nol, cut := nof, mu := nof, ret := rets }
theorem s122 : ∀ (es : T.Kn) (root : List T.Need) (l : List T.Pk) (f : Int) (Post : PT),
  (ASpec prog 154 [T.aK l, .fn 155 [.ptr 3 0, .ptr 4 0]] [T.mX es, T.m0, .cells [.ptr 1 0, T.aN root, .int .i64 f], .cells [.ptr 2 0], .cells [T.aK l]] fun r H' => ∃ (x : Bool), r = AV.bool x ∧ H' = [T.mX es, T.m0, .cells [.ptr 1 0, T.aN root, .int .i64 f], .cells [.ptr 2 0], .cells [T.aK l]] ∧ Post (.bool x) [T.mX es, T.m0, .cells [.ptr 1 0, T.aN root, .int .i64 f], .cells [.ptr 2 0], .cells [T.aK l]]) → ASpec prog 122 [.ptr 2 0, T.aK l] (T.HX es ++ [AObj.cells [.ptr 1 0, T.aN root, .int .i64 f]]) Post := fun es root l f Post h => ASpec.of_vc g122 Tryz.func122 (by kernel_rfl) (by kernel_rfl) (by kernel_rfl) (kc (by kernel_rfl) h)
def l70 : Nat → List Nat
  | 2 => [0, 13, 14, 15]
  | 8 => [0, 33, 34, 35]
  | _ => []
def g70 : Cfg := { N := 54, live := l70, cut := nof, mu := nof, ret := rets }
def c70 : Code := bodyOf Tryz.f70
def q70_0 (n : Nat) (Post : PT) : AQ := endQ prog (resultsOf Tryz.f70) Post
def q70_1 (n : Nat) (Post : PT) : AQ := seqQ (fun s' H' => awp prog g70 n (codeSnd (codeSnd c70)) s' H' (q70_0 n Post)) (q70_0 n Post)
def q70_2 (n : Nat) (Post : PT) : AQ := blockQ 0 (q70_1 n Post)
def c70_2 : Code := codeFst (codeSnd (codeFst (codeSnd c70)))
theorem s70 : ∀ (es : T.Kn) (root : List T.Need) (f : Int) (Post : PT),
  AWP prog 54 3 c70_2 [(0, .ptr 2 0), (13, T.aN root), (14, .int .i64 root.length), (15, .int .i64 0)] [T.mX es, T.m0, .cells [.ptr 1 0, T.aN root, .int .i64 f]] (q70_2 3 Post) → ASpec prog 70 [.ptr 2 0] (T.HX es ++ [AObj.cells [.ptr 1 0, T.aN root, .int .i64 f]]) Post := fun es root f Post h => ASpec.of_vc g70 Tryz.func70 (by kernel_rfl) (by kernel_rfl) (by kernel_rfl) (kc (by kernel_rfl) h)
def q70_3 (n : Nat) (Post : PT) : AQ := seqQ (fun s' H' => awp prog g70 n (codeSnd (codeSnd (codeSnd c70))) s' H' (q70_0 n Post)) (q70_0 n Post)
def q70_4 (n : Nat) (Post : PT) : AQ := blockQ 2 (q70_3 n Post)
def c70_8 : Code := codeFst (codeSnd (codeFst (codeSnd (codeSnd c70))))
theorem v70_2 : ∀ (es : T.Kn) (root : List T.Need) (f n i : Int) (n_1 : Nat) (Post : PT),
  condP (decide (i < n)) (needP (0 ≤ i ∧ i < (↑root.length : Int)) (ASpec prog 15 [AV.ptr 1 0, .str ⟨(root.getD i.toNat ([], [])).1.toArray⟩] [T.mX es, T.m0, .cells [.ptr 1 0, T.aN root, .int .i64 f], .cells [.str ⟨(root.getD i.toNat ([], [])).1.toArray⟩, .sl 2 (.map T.encS (0, 0) (root.getD i.toNat ([], [])).2) .none]] fun r H' => ∃ (x : Bool), r = AV.bool x ∧ H' = [T.mX es, T.m0, .cells [.ptr 1 0, T.aN root, .int .i64 f], .cells [.str ⟨(root.getD i.toNat ([], [])).1.toArray⟩, .sl 2 (.map T.encS (0, 0) (root.getD i.toNat ([], [])).2) .none]] ∧ condP (!x) ((AV.str ⟨(root.getD i.toNat ([], [])).1.toArray⟩ = AV.str ⟨(root.getD i.toNat ([], [])).1.toArray⟩ ∧ [T.mX es, T.m0, .cells [.ptr 1 0, T.aN root, .int .i64 f], .cells [.str ⟨(root.getD i.toNat ([], [])).1.toArray⟩, .sl 2 (.map T.encS (0, 0) (root.getD i.toNat ([], [])).2) .none]] = [T.mX es, T.m0, .cells [.ptr 1 0, T.aN root, .int .i64 f], .cells [.str ⟨(root.getD i.toNat ([], [])).1.toArray⟩, .sl 2 (.map T.encS (0, 0) (root.getD i.toNat ([], [])).2) .none]]) ∧ Post (.tup [AV.int .i64 3, .str ⟨(root.getD i.toNat ([], [])).1.toArray⟩]) [T.mX es, T.m0, .cells [.ptr 1 0, T.aN root, .int .i64 f], .cells [.str ⟨(root.getD i.toNat ([], [])).1.toArray⟩, .sl 2 (.map T.encS (0, 0) (root.getD i.toNat ([], [])).2) .none]]) (AWP prog 54 n_1 c70_2 [(0, .ptr 2 0), (13, T.aN root), (14, .int .i64 n), (15, .int .i64 (IntKind.wrap .i64 (i + (1 : Int))))] [T.mX es, T.m0, .cells [.ptr 1 0, T.aN root, .int .i64 f], .cells [.str ⟨(root.getD i.toNat ([], [])).1.toArray⟩, .sl 2 (.map T.encS (0, 0) (root.getD i.toNat ([], [])).2) .none]] (q70_2 n_1 Post)))) (AWP prog 54 n_1 c70_8 [(0, .ptr 2 0), (33, T.aN root), (34, .int .i64 root.length), (35, .int .i64 0)] [T.mX es, T.m0, .cells [.ptr 1 0, T.aN root, .int .i64 f]] (q70_4 n_1 Post)) → AWP prog 54 n_1 c70_2 [(0, .ptr 2 0), (13, T.aN root), (14, .int .i64 n), (15, .int .i64 i)] (T.HX es ++ [AObj.cells [.ptr 1 0, T.aN root, .int .i64 f]]) (q70_2 n_1 Post) := fun es root f n i n Post h => AWP.loop' g70 (Cfg.live g70) c70_2 (by kernel_rfl) (by kernel_rfl) (kc (by kernel_rfl) h)
theorem v70_8 : ∀ (es : T.Kn) (root : List T.Need) (f n i : Int) (n_1 : Nat) (Post : PT),
  condP (decide (i < n)) (needP (0 ≤ i ∧ i < (↑root.length : Int)) (ASpec prog 16 [AV.ptr 1 0, .str ⟨(root.getD i.toNat ([], [])).1.toArray⟩] [T.mX es, T.m0, .cells [.ptr 1 0, T.aN root, .int .i64 f], .cells [.str ⟨(root.getD i.toNat ([], [])).1.toArray⟩, .sl 2 (.map T.encS (0, 0) (root.getD i.toNat ([], [])).2) .none]] fun r H' => ∃ (x : T.Mani × Bool), r = AV.tup [.agg [T.sB x.1.1, T.aR x.1.2], .bool x.2] ∧ H' = [T.mX es, T.m0, .cells [.ptr 1 0, T.aN root, .int .i64 f], .cells [.str ⟨(root.getD i.toNat ([], [])).1.toArray⟩, .sl 2 (.map T.encS (0, 0) (root.getD i.toNat ([], [])).2) .none]] ∧ (AV.str ⟨(root.getD i.toNat ([], [])).1.toArray⟩ = AV.str ⟨(root.getD i.toNat ([], [])).1.toArray⟩ ∧ [T.mX es, T.m0, .cells [.ptr 1 0, T.aN root, .int .i64 f], .cells [.str ⟨(root.getD i.toNat ([], [])).1.toArray⟩, .sl 2 (.map T.encS (0, 0) (root.getD i.toNat ([], [])).2) .none], .cells [AV.str ⟨#[]⟩, .sl 0 (.raw []) .nil]] = [T.mX es, T.m0, .cells [.ptr 1 0, T.aN root, .int .i64 f], .cells [.str ⟨(root.getD i.toNat ([], [])).1.toArray⟩, .sl 2 (.map T.encS (0, 0) (root.getD i.toNat ([], [])).2) .none], .cells [AV.str ⟨#[]⟩, .sl 0 (.raw []) .nil]]) ∧ (AV.ptr 1 0 = AV.ptr 1 0 ∧ [T.mX es, T.m0, .cells [.ptr 1 0, T.aN root, .int .i64 f], .cells [.str ⟨(root.getD i.toNat ([], [])).1.toArray⟩, .sl 2 (.map T.encS (0, 0) (root.getD i.toNat ([], [])).2) .none], .cells [AV.str ⟨#[]⟩, .sl 0 (.raw []) .nil]] = [T.mX es, T.m0, .cells [.ptr 1 0, T.aN root, .int .i64 f], .cells [.str ⟨(root.getD i.toNat ([], [])).1.toArray⟩, .sl 2 (.map T.encS (0, 0) (root.getD i.toNat ([], [])).2) .none], .cells [AV.str ⟨#[]⟩, .sl 0 (.raw []) .nil]]) ∧ condP (!Prod.snd x) ((AV.str ⟨(root.getD i.toNat ([], [])).1.toArray⟩ = AV.str ⟨(root.getD i.toNat ([], [])).1.toArray⟩ ∧ [T.mX es, T.m0, .cells [.ptr 1 0, T.aN root, .int .i64 f], .cells [.str ⟨(root.getD i.toNat ([], [])).1.toArray⟩, .sl 2 (.map T.encS (0, 0) (root.getD i.toNat ([], [])).2) .none], .cells [T.sB x.1.1, T.aR x.1.2]] = [T.mX es, T.m0, .cells [.ptr 1 0, T.aN root, .int .i64 f], .cells [.str ⟨(root.getD i.toNat ([], [])).1.toArray⟩, .sl 2 (.map T.encS (0, 0) (root.getD i.toNat ([], [])).2) .none], .cells [T.sB x.1.1, T.aR x.1.2]]) ∧ Post (.tup [.int .i64 4, .str ⟨(root.getD i.toNat ([], [])).1.toArray⟩]) [T.mX es, T.m0, .cells [.ptr 1 0, T.aN root, .int .i64 f], .cells [.str ⟨(root.getD i.toNat ([], [])).1.toArray⟩, .sl 2 (.map T.encS (0, 0) (root.getD i.toNat ([], [])).2) .none], .cells [T.sB x.1.1, T.aR x.1.2]]) (AWP prog 54 n_1 c70_8 [(0, .ptr 2 0), (33, T.aN root), (34, .int .i64 n), (35, .int .i64 (IntKind.wrap .i64 (i + (1 : Int))))] [T.mX es, T.m0, .cells [.ptr 1 0, T.aN root, .int .i64 f], .cells [.str ⟨(root.getD i.toNat ([], [])).1.toArray⟩, .sl 2 (.map T.encS (0, 0) (root.getD i.toNat ([], [])).2) .none], .cells [T.sB x.1.1, T.aR x.1.2]] (q70_4 n_1 Post)))) (Post (.tup [.int .i64 0, .str ⟨#[]⟩]) [T.mX es, T.m0, .cells [.ptr 1 0, T.aN root, .int .i64 f]]) → AWP prog 54 n_1 c70_8 [(0, .ptr 2 0), (33, T.aN root), (34, .int .i64 n), (35, .int .i64 i)] (T.HX es ++ [AObj.cells [.ptr 1 0, T.aN root, .int .i64 f]]) (q70_4 n_1 Post) := fun es root f n i n Post h => AWP.loop' g70 (Cfg.live g70) c70_8 (by kernel_rfl) (by kernel_rfl) (kc (by kernel_rfl) h)
def l72 : Nat → List Nat
  | 8 => [0, 1, 4, 64, 65, 66]
  | _ => []
def px72 : Nat → Bool
  | 3 => true
  | 5 => true
  | 11 => true
  | 13 => true
  | _ => false
def g72 : Cfg := { N := 92, live := l72, cut := nof, mu := nof, ret := rets, px := px72 }
def c72 : Code := bodyOf Tryz.f72
def q72_0 : Nat → (AV → List AObj → Prop) → (AV → List AObj → Prop) → AQ := fun (n : Nat) (Post PX : PT) => endQX prog (resultsOf Tryz.f72) Post PX
def q72_1 : Nat → (AV → List AObj → Prop) → (AV → List AObj → Prop) → AQ := fun (n : Nat) (Post PX : PT) => blockQ 1 (q72_0 n Post PX)
def c72_8 : Code := codeFst (codeSnd (codeSnd (codeSnd (codeSnd (codeSnd c72)))))
theorem s72 : ∀ (es : T.Kn) (root : List T.Need) (l : List T.Pk) (f : Int) (Post PX : PT),
  (ASpec prog 122 [.ptr 2 0, T.aK l] [T.mX es, T.m0, .cells [.ptr 1 0, T.aN root, .int .i64 f]] fun r H' => ∃ (x : Bool), r = AV.bool x ∧ H' = [T.mX es, T.m0, .cells [.ptr 1 0, T.aN root, .int .i64 f]] ∧ condP x (Post (.tup []) [T.mX es, T.m0, .cells [.ptr 1 0, T.aN root, .int .i64 f]]) (ASpec prog 32 [.ptr 1 0, T.aN root, T.aK l] [T.mX es, T.m0, .cells [.ptr 1 0, T.aN root, .int .i64 f]] fun r H' => ∃ (x : ByteArray × Bool), r = AV.tup [.str x.1, .bool x.2] ∧ H' = [T.mX es, T.m0, .cells [.ptr 1 0, T.aN root, .int .i64 f]] ∧ condP (!Prod.snd x) (PX (AV.iface 140 (AV.agg [T.aK l, .int .i64 1, .str ⟨#[]⟩])) [T.mX es, T.m0, .cells [.ptr 1 0, T.aN root, .int .i64 f]]) (ASpec prog 15 [.ptr 1 0, .str x.1] [T.mX es, T.m0, .cells [.ptr 1 0, T.aN root, .int .i64 f]] fun r H' => ∃ (x_1 : Bool), r = AV.bool x_1 ∧ H' = [T.mX es, T.m0, .cells [.ptr 1 0, T.aN root, .int .i64 f]] ∧ condP (!x_1) (PX (AV.iface 140 (AV.agg [.sl 0 (.raw []) .nil, AV.int .i64 3, .str x.1])) [T.mX es, T.m0, .cells [.ptr 1 0, T.aN root, .int .i64 f]]) (ASpec prog 16 [.ptr 1 0, .str x.1] [T.mX es, T.m0, .cells [.ptr 1 0, T.aN root, .int .i64 f]] fun r H' => ∃ (x_2 : T.Mani × Bool), r = AV.tup [.agg [T.sB x_2.1.1, T.aR x_2.1.2], AV.bool x_2.2] ∧ H' = [T.mX es, T.m0, .cells [.ptr 1 0, T.aN root, .int .i64 f]] ∧ ASpec prog 35 [.ptr 1 0, T.aN root, T.aK l, AV.str x.1] [T.mX es, T.m0, .cells [.ptr 1 0, T.aN root, .int .i64 f], .cells [T.sB x_2.1.1, T.aR x_2.1.2]] fun r H' => ∃ (x_3 : List T.Span), r = T.aS x_3 ∧ H' = [T.mX es, T.m0, .cells [.ptr 1 0, T.aN root, .int .i64 f], .cells [T.sB x_2.1.1, T.aR x_2.1.2]] ∧ (AV.agg [T.sB x_2.1.1, T.aR x_2.1.2] = AV.agg [T.sB x_2.1.1, T.aR x_2.1.2] ∧ [T.mX es, T.m0, .cells [.ptr 1 0, T.aN root, .int .i64 f], .cells [T.sB x_2.1.1, T.aR x_2.1.2]] = [T.mX es, T.m0, .cells [.ptr 1 0, T.aN root, .int .i64 f], .cells [T.sB x_2.1.1, T.aR x_2.1.2]]) ∧ ASpec prog 64 [.agg [T.sB x_2.1.1, T.aR x_2.1.2], T.aS x_3] [T.mX es, T.m0, .cells [.ptr 1 0, T.aN root, .int .i64 f], .cells [T.sB x_2.1.1, T.aR x_2.1.2]] fun r H' => ∃ (x_4 : List Int), r = AV.sl 1 (.map encI 0 x_4) .none ∧ H' = [T.mX es, T.m0, .cells [.ptr 1 0, T.aN root, .int .i64 f], .cells [T.sB x_2.1.1, T.aR x_2.1.2]] ∧ AWP prog 92 3 c72_8 [(0, .ptr 2 0), (1, T.aK l), (4, .str x.1), (64, .sl 1 (.map encI 0 x_4) .none), (65, .int .i64 x_4.length), (66, .int .i64 0)] [T.mX es, T.m0, .cells [.ptr 1 0, T.aN root, .int .i64 f], .cells [T.sB x_2.1.1, T.aR x_2.1.2]] (q72_1 3 Post PX))))) → ASpecX prog 72 [.ptr 2 0, T.aK l] (T.HX es ++ [AObj.cells [.ptr 1 0, T.aN root, .int .i64 f]]) Post PX := fun es root l f Post PX h => ASpecX.of_vc g72 Tryz.func72 (by kernel_rfl) (by kernel_rfl) (by kernel_rfl) (kc (by kernel_rfl) h)
theorem v72_8 : ∀ (es : T.Kn) (root : List T.Need) (l : List T.Pk) (s : List UInt8) (w : List Int) (f n i : Int) (n_1 : Nat) (Post PX : PT),
  condP (decide (i < n)) (needP (0 ≤ i ∧ i < (↑w.length : Int)) (condP (decide (f ≤ (0 : Int))) (PX (AV.iface 140 (AV.agg [.sl 0 (.raw []) .nil, AV.int .i64 5, .str ⟨#[]⟩])) [T.mX es, T.m0, .cells [.ptr 1 0, T.aN root, .int .i64 f]]) (ASpec prog 98 [T.aK l, .agg [T.sB s, .int .i64 (w.getD i.toNat (0 : Int))]] [T.mX es, T.m0, .cells [.ptr 1 0, T.aN root, .int .i64 (IntKind.wrap .i64 (f - (1 : Int)))]] fun r H' => ∃ (x : List T.Pk), r = T.aK x ∧ H' = [T.mX es, T.m0, .cells [.ptr 1 0, T.aN root, .int .i64 (IntKind.wrap .i64 (f - (1 : Int)))]] ∧ ASpecX prog 72 [.ptr 2 0, T.aK x] [T.mX es, T.m0, .cells [.ptr 1 0, T.aN root, .int .i64 (IntKind.wrap .i64 (f - (1 : Int)))]] (fun r H' => ∃ (x : Int), r = AV.tup [] ∧ H' = [T.mX es, T.m0, .cells [.ptr 1 0, T.aN root, .int .i64 x]] ∧ AWP prog 92 n_1 c72_8 [(0, .ptr 2 0), (1, T.aK l), (4, T.sB s), (64, .sl 1 (.map encI 0 w) .none), (65, .int .i64 n), (66, .int .i64 (IntKind.wrap .i64 (i + (1 : Int))))] [T.mX es, T.m0, .cells [.ptr 1 0, T.aN root, .int .i64 x]] (q72_1 n_1 Post PX)) fun r H' => PX r H'))) (Post (.tup []) [T.mX es, T.m0, .cells [.ptr 1 0, T.aN root, .int .i64 f]]) → AWP prog 92 n_1 c72_8 [(0, .ptr 2 0), (1, T.aK l), (4, T.sB s), (64, .sl 1 (.map encI 0 w) .none), (65, .int .i64 n), (66, .int .i64 i)] (T.HX es ++ [AObj.cells [.ptr 1 0, T.aN root, .int .i64 f]]) (q72_1 n_1 Post PX) := fun es root l s w f n i n Post PX h => AWP.loop' g72 (Cfg.live g72) c72_8 (by kernel_rfl) (by kernel_rfl) (kc (by kernel_rfl) h)
def g155 : Cfg := { N := 21, live := nol, cut := nof, mu := nof, ret := rets }
theorem s155 : ∀ (es : T.Kn) (root : List T.Need) (l : List T.Pk) (p : T.Pk) (f : Int) (Post : PT),
  (ASpec prog 35 [.ptr 1 0, T.aN root, T.aK l, T.sB p.1] [AObj.mp (.typed T.EK es), .cells [AV.map 0], .cells [.ptr 1 0, T.aN root, .int .i64 f], .cells [.ptr 2 0], .cells [T.aK l], .cells [T.sB p.1, .int .i64 p.2]] fun r H' => ∃ (x : List T.Span), r = T.aS x ∧ H' = [T.mX es, T.m0, .cells [.ptr 1 0, T.aN root, .int .i64 f], .cells [.ptr 2 0], .cells [T.aK l], .cells [T.sB p.1, .int .i64 p.2]] ∧ (AV.int .i64 p.2 = AV.int .i64 p.2 ∧ [T.mX es, T.m0, .cells [.ptr 1 0, T.aN root, .int .i64 f], .cells [.ptr 2 0], .cells [T.aK l], .cells [T.sB p.1, .int .i64 p.2]] = [T.mX es, T.m0, .cells [.ptr 1 0, T.aN root, .int .i64 f], .cells [.ptr 2 0], .cells [T.aK l], .cells [T.sB p.1, .int .i64 p.2]]) ∧ ASpec prog 101 [T.aS x, .int .i64 p.2] [T.mX es, T.m0, .cells [.ptr 1 0, T.aN root, .int .i64 f], .cells [.ptr 2 0], .cells [T.aK l], .cells [T.sB p.1, .int .i64 p.2]] fun r H' => ∃ (x : Bool), r = AV.bool x ∧ H' = [T.mX es, T.m0, .cells [.ptr 1 0, T.aN root, .int .i64 f], .cells [.ptr 2 0], .cells [T.aK l], .cells [T.sB p.1, .int .i64 p.2]] ∧ Post (.bool !x) [T.mX es, T.m0, .cells [.ptr 1 0, T.aN root, .int .i64 f], .cells [.ptr 2 0], .cells [T.aK l], .cells [T.sB p.1, .int .i64 p.2]]) → ASpec prog 155 [.agg (T.encPk p), .ptr 3 0, .ptr 4 0] (T.HX es ++ [AObj.cells [.ptr 1 0, T.aN root, .int .i64 f]] ++ [AObj.cells [.ptr 2 0], .cells [T.aK l]]) Post := fun es root l p f Post h => ASpec.of_vc g155 Tryz.func155 (by kernel_rfl) (by kernel_rfl) (by kernel_rfl) (kc (by kernel_rfl) h)
def g154 : Cfg := { N := 9, live := nol, cut := nof, mu := nof, ret := rets }
theorem s154 : ∀ (es : T.Kn) (root : List T.Need) (l : List T.Pk) (f : Int) (Post : PT),
  (ASpec prog 193 [T.aK l, .fn (155 : FuncId) [.ptr 3 0, .ptr 4 0]] [T.mX es, T.m0, .cells [.ptr 1 0, T.aN root, .int .i64 f], .cells [.ptr 2 0], .cells [T.aK l]] fun r H' => ∃ (x : Int), r = AV.int .i64 x ∧ H' = [T.mX es, T.m0, .cells [.ptr 1 0, T.aN root, .int .i64 f], .cells [.ptr 2 0], .cells [T.aK l]] ∧ Post (.bool (decide (x ≥ (0 : Int)))) [T.mX es, T.m0, .cells [.ptr 1 0, T.aN root, .int .i64 f], .cells [.ptr 2 0], .cells [T.aK l]]) → ASpec prog 154 [T.aK l, .fn (155 : FuncId) [.ptr 3 0, .ptr 4 0]] (T.HX es ++ [AObj.cells [.ptr 1 0, T.aN root, .int .i64 f]] ++ [AObj.cells [.ptr 2 0], .cells [T.aK l]]) Post := fun es root l f Post h => ASpec.of_vc g154 Tryz.func154 (by kernel_rfl) (by kernel_rfl) (by kernel_rfl) (kc (by kernel_rfl) h)
def l193 : Nat → List Nat
  | 2 => [0, 1, 7, 8]
  | _ => []
def g193 : Cfg := { N := 19, live := l193, cut := nof, mu := nof, ret := rets }
def c193 : Code := bodyOf Tryz.f193
def q193_0 (n : Nat) (Post : PT) : AQ := endQ prog (resultsOf Tryz.f193) Post
def q193_1 (n : Nat) (Post : PT) : AQ := seqQ (fun s' H' => awp prog g193 n (codeSnd (codeSnd c193)) s' H' (q193_0 n Post)) (q193_0 n Post)
def q193_2 (n : Nat) (Post : PT) : AQ := blockQ 0 (q193_1 n Post)
def c193_2 : Code := codeFst (codeSnd (codeFst (codeSnd c193)))
theorem s193 : ∀ (es : T.Kn) (root : List T.Need) (l : List T.Pk) (f : Int) (Post : PT),
  AWP prog 19 5 c193_2 [(0, T.aK l), (1, .fn (155 : FuncId) [.ptr 3 0, .ptr 4 0]), (7, .int .i64 l.length), (8, .int .i64 0)] [T.mX es, T.m0, .cells [.ptr 1 0, T.aN root, .int .i64 f], .cells [.ptr 2 0], .cells [T.aK l]] (q193_2 5 Post) → ASpec prog 193 [T.aK l, .fn (155 : FuncId) [.ptr 3 0, .ptr 4 0]] (T.HX es ++ [AObj.cells [.ptr 1 0, T.aN root, .int .i64 f]] ++ [AObj.cells [.ptr 2 0], .cells [T.aK l]]) Post := fun es root l f Post h => ASpec.of_vc g193 Tryz.func193 (by kernel_rfl) (by kernel_rfl) (by kernel_rfl) (kc (by kernel_rfl) h)
theorem v193_2 : ∀ (es : T.Kn) (root : List T.Need) (l : List T.Pk) (f n i : Int) (n_1 : Nat) (Post : PT),
  condP (decide (i < n)) (needP (0 ≤ i ∧ i < (↑l.length : Int)) (ASpec prog 155 [AV.agg [AV.str ⟨(l.getD i.toNat T.noPk).1.toArray⟩, .int .i64 (l.getD i.toNat T.noPk).2], .ptr 3 0, AV.ptr 4 0] [T.mX es, T.m0, .cells [.ptr 1 0, T.aN root, .int .i64 f], .cells [.ptr 2 0], .cells [T.aK l]] fun r H' => ∃ (x : Bool), r = AV.bool x ∧ H' = [T.mX es, T.m0, .cells [.ptr 1 0, T.aN root, .int .i64 f], .cells [.ptr 2 0], .cells [T.aK l]] ∧ condP x (Post (.int .i64 i) [T.mX es, T.m0, .cells [.ptr 1 0, T.aN root, .int .i64 f], .cells [.ptr 2 0], .cells [T.aK l]]) (AWP prog 19 n_1 c193_2 [(0, T.aK l), (1, .fn (155 : FuncId) [.ptr 3 0, .ptr 4 0]), (7, .int .i64 n), (8, .int .i64 (IntKind.wrap .i64 (i + (1 : Int))))] [T.mX es, T.m0, .cells [.ptr 1 0, T.aN root, .int .i64 f], .cells [.ptr 2 0], .cells [T.aK l]] (q193_2 n_1 Post)))) (Post (.int .i64 (-1)) [T.mX es, T.m0, .cells [.ptr 1 0, T.aN root, .int .i64 f], .cells [.ptr 2 0], .cells [T.aK l]]) → AWP prog 19 n_1 c193_2 [(0, T.aK l), (1, .fn (155 : FuncId) [.ptr 3 0, .ptr 4 0]), (7, .int .i64 n), (8, .int .i64 i)] (T.HX es ++ [AObj.cells [.ptr 1 0, T.aN root, .int .i64 f]] ++ [AObj.cells [.ptr 2 0], .cells [T.aK l]]) (q193_2 n_1 Post) := fun es root l f n i n Post h => AWP.loop' g193 (Cfg.live g193) c193_2 (by kernel_rfl) (by kernel_rfl) (kc (by kernel_rfl) h)
end
end Pn
end

noncomputable section
open Go Go.Ab Go.Proofs
open Go.Proofs.Tryz (prog)
namespace Ph
noncomputable section
def retPh : List (Nat × Ret) := [
  (29, ⟨Bool, fun _ _ x => .bool x, fun _ H _ => H⟩),
  (30, ⟨Bool, fun _ _ x => .bool x, fun _ H _ => H⟩),
  (37, ⟨Bool, fun _ _ x => .bool x, fun _ H _ => H⟩),
  (39, ⟨Bool, fun _ _ x => .bool x, fun _ H _ => H⟩),
  (8, ⟨Bool, fun _ _ x => .bool x, fun _ H _ => H⟩),
  (9, ⟨Bool, fun _ _ x => .bool x, fun _ H _ => H⟩),
  (10, ⟨Bool, fun _ _ x => .bool x, fun _ H _ => H⟩),
  (38, ⟨List (List UInt8), fun _ _ x => T.aL x, fun _ H _ => H⟩),
  (26, ⟨Unit, fun _ _ _ => .bool true, fun _ H _ => H⟩)]
def rets : FuncId → List Ret := fun f => match lookupR retPh f with
  | [] => Pn.rets f
  | l => l
def l37 : Nat → List Nat
  | 2 => [0, 1, 5]
  | _ => []
def g37 : Cfg := { N := 18, live := l37, cut := nof, mu := nof, ret := rets }
def c37 : Code := bodyOf Tryz.f37
def q37_0 (n : Nat) (Post : PT) : AQ := endQ prog (resultsOf Tryz.f37) Post
def q37_1 (n : Nat) (Post : PT) : AQ := seqQ (fun s' H' => awp prog g37 n (codeSnd (codeSnd c37)) s' H' (q37_0 n Post)) (q37_0 n Post)
def q37_2 (n : Nat) (Post : PT) : AQ := blockQ 0 (q37_1 n Post)
def c37_2 : Code := codeFst (codeSnd (codeFst (codeSnd c37)))
theorem s37 : ∀ (w : List (List UInt8)) (s : List UInt8) (Post : PT),
  AWP prog 18 0 c37_2 [(0, T.aL w), (1, T.sB s), (5, .int .i64 0)] [] (q37_2 0 Post) → ASpec prog 37 [T.aL w, T.sB s] [] Post := fun w s Post h => ASpec.of_vc g37 Tryz.func37 (by kernel_rfl) (by kernel_rfl) (by kernel_rfl) (kc (by kernel_rfl) h)
theorem v37_2 : ∀ (w : List (List UInt8)) (s : List UInt8) (i : Int) (n : Nat) (Post : PT),
  condP (decide (i < (↑w.length : Int))) (needP (0 ≤ i ∧ i < (↑w.length : Int)) (condP (ByteArray.toList ⟨(w.getD i.toNat []).toArray⟩ == ByteArray.toList ⟨s.toArray⟩) (Post (.bool true) []) (AWP prog 18 n c37_2 [(0, T.aL w), (1, T.sB s), (5, .int .i64 (IntKind.wrap .i64 (i + (1 : Int))))] [] (q37_2 n Post)))) (Post (.bool false) []) → AWP prog 18 n c37_2 [(0, T.aL w), (1, T.sB s), (5, .int .i64 i)] [] (q37_2 n Post) := fun w s i n Post h => AWP.loop' g37 (Cfg.live g37) c37_2 (by kernel_rfl) (by kernel_rfl) (kc (by kernel_rfl) h)
def l7 : Nat → List Nat
  | 8 => [1, 5, 7, 8, 9, 11]
  | _ => []
def g7 : Cfg := { N := 139, live := l7, cut := nof, mu := nof, ret := rets }
def c7 : Code := bodyOf Tryz.f7
def q7_0 (n : Nat) (Post : PT) : AQ := endQ prog (resultsOf Tryz.f7) Post
def q7_1 (n : Nat) (Post : PT) : AQ := seqQ (fun s' H' => awp prog g7 n (codeSnd (codeSnd (codeSnd (codeSnd (codeSnd (codeSnd c7)))))) s' H' (q7_0 n Post)) (q7_0 n Post)
def q7_2 (n : Nat) (Post : PT) : AQ := blockQ 0 (q7_1 n Post)
def c7_8 : Code := codeFst (codeSnd (codeFst (codeSnd (codeSnd (codeSnd (codeSnd (codeSnd c7)))))))
theorem s7 : ∀ (e more : List T.Ent) (c : T.Ch) (Post : PT),
  (ASpec prog 8 [.sl 2 (.map T.encEn ([], []) e) .none] [AObj.cells [T.aN c.1, T.aK c.2]] fun r H' => ∃ (x : Bool), r = AV.bool x ∧ H' = [AObj.cells [T.aN c.1, T.aK c.2]] ∧ condP x (ASpec prog 26 [] [AObj.cells [T.aN c.1, T.aK c.2]] fun r H' => ∃ (x : Unit), r = AV.bool true ∧ H' = [AObj.cells [T.aN c.1, T.aK c.2]] ∧ Post (.bool true) [AObj.cells [T.aN c.1, T.aK c.2]]) (ASpec prog 8 [.sl 2 (.map T.encEn ([], []) more) .none] [AObj.cells [T.aN c.1, T.aK c.2]] fun r H' => ∃ (x : Bool), r = AV.bool x ∧ H' = [AObj.cells [T.aN c.1, T.aK c.2]] ∧ condP x (ASpec prog 26 [] [AObj.cells [T.aN c.1, T.aK c.2]] fun r H' => ∃ (x : Unit), r = AV.bool true ∧ H' = [AObj.cells [T.aN c.1, T.aK c.2]] ∧ Post (.bool true) [AObj.cells [T.aN c.1, T.aK c.2]]) (ASpec prog 9 [T.aN c.1] [AObj.cells [T.aN c.1, T.aK c.2]] fun r H' => ∃ (x : Bool), r = AV.bool x ∧ H' = [AObj.cells [T.aN c.1, T.aK c.2]] ∧ condP x (ASpec prog 26 [] [AObj.cells [T.aN c.1, T.aK c.2]] fun r H' => ∃ (x : Unit), r = AV.bool true ∧ H' = [AObj.cells [T.aN c.1, T.aK c.2]] ∧ Post (.bool true) [AObj.cells [T.aN c.1, T.aK c.2]]) (ASpec prog 10 [T.aN c.1] [AObj.cells [T.aN c.1, T.aK c.2]] fun r H' => ∃ (x : Bool), r = AV.bool x ∧ H' = [AObj.cells [T.aN c.1, T.aK c.2]] ∧ condP (!x) (ASpec prog 26 [] [AObj.cells [T.aN c.1, T.aK c.2]] fun r H' => ∃ (x : Unit), r = AV.bool true ∧ H' = [AObj.cells [T.aN c.1, T.aK c.2]] ∧ Post (.bool true) [AObj.cells [T.aN c.1, T.aK c.2]]) (ASpec prog 30 [T.aK c.2] [AObj.cells [T.aN c.1, T.aK c.2]] fun r H' => ∃ (x : Bool), r = AV.bool x ∧ H' = [AObj.cells [T.aN c.1, T.aK c.2]] ∧ condP x (ASpec prog 26 [] [AObj.cells [T.aN c.1, T.aK c.2]] fun r H' => ∃ (x : Unit), r = AV.bool true ∧ H' = [AObj.cells [T.aN c.1, T.aK c.2]] ∧ Post (.bool true) [AObj.cells [T.aN c.1, T.aK c.2]]) (ASpec prog 12 [.sl 2 (.map T.encEn ([], []) e) .none] [AObj.cells [T.aN c.1, T.aK c.2]] fun r H' => ∃ (x : List (ByteArray × T.Known)), r = AV.ptr 2 0 ∧ H' = [AObj.cells [T.aN c.1, T.aK c.2], .mp (.typed T.EK x), .cells [.map 1]] ∧ ASpec prog 27 [.ptr 2 0, T.aN c.1, .int .i64 2000] [AObj.cells [T.aN c.1, T.aK c.2], .mp (.typed T.EK x), .cells [.map 1]] fun r H' => ∃ (x_1 : List T.Pk × Int × ByteArray), r = AV.tup [T.aK x_1.1, .int .i64 x_1.2.1, AV.str x_1.2.2] ∧ H' = [AObj.cells [T.aN c.1, T.aK c.2], .mp (.typed T.EK x), .cells [.map 1]] ∧ condP (Prod.fst x_1.2 == (3 : Int)) (ASpec prog 38 [.ptr 2 0, T.aN c.1] [AObj.cells [T.aN c.1, T.aK c.2], .mp (.typed T.EK x), .cells [.map 1]] fun r H' => ∃ (x_2 : List (List UInt8)), r = T.aL x_2 ∧ H' = [AObj.cells [T.aN c.1, T.aK c.2], .mp (.typed T.EK x), .cells [.map 1]] ∧ ASpec prog 37 [T.aL x_2, .str x_1.2.2] [AObj.cells [T.aN c.1, T.aK c.2], .mp (.typed T.EK x), .cells [.map 1]] fun r H' => ∃ (x_3 : Bool), r = AV.bool x_3 ∧ H' = [AObj.cells [T.aN c.1, T.aK c.2], .mp (.typed T.EK x), .cells [.map 1]] ∧ condP (!x_3) (Post (.bool false) [AObj.cells [T.aN c.1, T.aK c.2], .mp (.typed T.EK x), .cells [.map 1]]) (condP (Prod.fst x_1.2 == (1 : Int)) (ASpec prog 39 [.ptr 2 0, T.aN c.1, T.aK x_1.1] [AObj.cells [T.aN c.1, T.aK c.2], .mp (.typed T.EK x), .cells [.map 1]] fun r H' => ∃ (x_4 : Bool), r = AV.bool x_4 ∧ H' = [AObj.cells [T.aN c.1, T.aK c.2], .mp (.typed T.EK x), .cells [.map 1]] ∧ condP (!x_4) (Post (.bool false) [AObj.cells [T.aN c.1, T.aK c.2], .mp (.typed T.EK x), .cells [.map 1]]) (AWP prog 139 0 c7_8 [(1, .sl 2 (.map T.encEn ([], []) more) .none), (5, .ptr 0 0), (7, .ptr 2 0), (8, T.aK x_1.1), (9, .int .i64 x_1.2.1), (11, .int .i64 0)] [AObj.cells [T.aN c.1, T.aK c.2], .mp (.typed T.EK x), .cells [.map 1]] (q7_2 0 Post))) (AWP prog 139 0 c7_8 [(1, .sl 2 (.map T.encEn ([], []) more) .none), (5, .ptr 0 0), (7, .ptr 2 0), (8, T.aK x_1.1), (9, .int .i64 x_1.2.1), (11, .int .i64 0)] [AObj.cells [T.aN c.1, T.aK c.2], .mp (.typed T.EK x), .cells [.map 1]] (q7_2 0 Post)))) (condP (Prod.fst x_1.2 == (1 : Int)) (ASpec prog 39 [.ptr 2 0, T.aN c.1, T.aK x_1.1] [AObj.cells [T.aN c.1, T.aK c.2], .mp (.typed T.EK x), .cells [.map 1]] fun r H' => ∃ (x_2 : Bool), r = AV.bool x_2 ∧ H' = [AObj.cells [T.aN c.1, T.aK c.2], .mp (.typed T.EK x), .cells [.map 1]] ∧ condP (!x_2) (Post (.bool false) [AObj.cells [T.aN c.1, T.aK c.2], .mp (.typed T.EK x), .cells [.map 1]]) (AWP prog 139 0 c7_8 [(1, .sl 2 (.map T.encEn ([], []) more) .none), (5, .ptr 0 0), (7, .ptr 2 0), (8, T.aK x_1.1), (9, .int .i64 x_1.2.1), (11, .int .i64 0)] [AObj.cells [T.aN c.1, T.aK c.2], .mp (.typed T.EK x), .cells [.map 1]] (q7_2 0 Post))) (AWP prog 139 0 c7_8 [(1, .sl 2 (.map T.encEn ([], []) more) .none), (5, .ptr 0 0), (7, .ptr 2 0), (8, T.aK x_1.1), (9, .int .i64 x_1.2.1), (11, .int .i64 0)] [AObj.cells [T.aN c.1, T.aK c.2], .mp (.typed T.EK x), .cells [.map 1]] (q7_2 0 Post))))))))) → ASpec prog 7 [.sl 2 (.map T.encEn ([], []) e) .none, .sl 2 (.map T.encEn ([], []) more) .none, .agg (T.encCh c)] [] Post := fun e more c Post h => ASpec.of_vc g7 Tryz.func7 (by kernel_rfl) (by kernel_rfl) (by kernel_rfl) (kc (by kernel_rfl) h)
abbrev hpv7_80 (c : T.Ch) (es : T.Kn) : List AObj := [AObj.cells [T.aN c.1, T.aK c.2], .mp (.typed T.EK es), .cells [.map 1]]
theorem v7_8 : ∀ (more : List T.Ent) (c : T.Ch) (es : T.Kn) (p : List T.Pk) (k i : Int) (n : Nat) (Post : PT),
  condP (decide (i < (↑more.length : Int))) (needP (0 ≤ i ∧ i < (↑more.length : Int)) (needP (0 ≤ i ∧ i < (↑more.length : Int)) (ASpec prog 40 [AV.ptr 2 0, .str ⟨(more.getD i.toNat ([], [])).1.toArray⟩, .sl 1 (.map encB 0 (more.getD i.toNat ([], [])).2) .none] (hpv7_80 c es) fun r H' => ∃ (x : Int × T.Kn), r = AV.int .i64 x.1 ∧ H' = [AObj.cells [T.aN c.1, T.aK c.2], .mp (.typed T.EK x.2), .cells [.map 1]] ∧ AWP prog 139 n c7_8 [(1, .sl 2 (.map T.encEn ([], []) more) .none), (5, .ptr 0 0), (7, .ptr 2 0), (8, T.aK p), (9, .int .i64 k), (11, .int .i64 (IntKind.wrap .i64 (i + (1 : Int))))] [AObj.cells [T.aN c.1, T.aK c.2], .mp (.typed T.EK x.2), .cells [.map 1]] (q7_2 n Post)))) (ASpec prog 27 [.ptr 2 0, T.aN c.1, .int .i64 2000] (hpv7_80 c es) fun r H' => ∃ (x : List T.Pk × Int × ByteArray), r = AV.tup [T.aK x.1, .int .i64 x.2.1, .str x.2.2] ∧ H' = (hpv7_80 c es) ∧ condP (k == (1 : Int)) (condP (Prod.fst x.2 != (1 : Int)) (Post (.bool false) (hpv7_80 c es)) (ASpec prog 29 [T.aK p, T.aK x.1] (hpv7_80 c es) fun r H' => ∃ (x_1 : Bool), r = AV.bool x_1 ∧ H' = (hpv7_80 c es) ∧ condP (!x_1) (Post (.bool false) (hpv7_80 c es)) (condP (k == (2 : Int)) (condP (Prod.fst x.2 != (2 : Int)) (Post (.bool false) (hpv7_80 c es)) (ASpec prog 39 [.ptr 2 0, T.aN c.1, T.aK c.2] (hpv7_80 c es) fun r H' => ∃ (x_2 : Bool), r = AV.bool x_2 ∧ H' = (hpv7_80 c es) ∧ condP x_2 (Post (.bool false) (hpv7_80 c es)) (condP (Prod.fst x.2 != (2 : Int)) (ASpec prog 26 [] (hpv7_80 c es) fun r H' => ∃ (x : Unit), r = AV.bool true ∧ H' = (hpv7_80 c es) ∧ Post (.bool true) (hpv7_80 c es)) (ASpec prog 39 [.ptr 2 0, T.aN c.1, T.aK c.2] (hpv7_80 c es) fun r H' => ∃ (x : Bool), r = AV.bool x ∧ H' = (hpv7_80 c es) ∧ condP (!x) (ASpec prog 26 [] (hpv7_80 c es) fun r H' => ∃ (x : Unit), r = AV.bool true ∧ H' = (hpv7_80 c es) ∧ Post (.bool true) (hpv7_80 c es)) (Post (.bool false) (hpv7_80 c es)))))) (condP (Prod.fst x.2 != (2 : Int)) (ASpec prog 26 [] (hpv7_80 c es) fun r H' => ∃ (x : Unit), r = AV.bool true ∧ H' = (hpv7_80 c es) ∧ Post (.bool true) (hpv7_80 c es)) (ASpec prog 39 [.ptr 2 0, T.aN c.1, T.aK c.2] (hpv7_80 c es) fun r H' => ∃ (x : Bool), r = AV.bool x ∧ H' = (hpv7_80 c es) ∧ condP (!x) (ASpec prog 26 [] (hpv7_80 c es) fun r H' => ∃ (x : Unit), r = AV.bool true ∧ H' = (hpv7_80 c es) ∧ Post (.bool true) (hpv7_80 c es)) (Post (.bool false) (hpv7_80 c es))))))) (condP (k == (2 : Int)) (condP (Prod.fst x.2 != (2 : Int)) (Post (.bool false) (hpv7_80 c es)) (ASpec prog 39 [.ptr 2 0, T.aN c.1, T.aK c.2] (hpv7_80 c es) fun r H' => ∃ (x_1 : Bool), r = AV.bool x_1 ∧ H' = (hpv7_80 c es) ∧ condP x_1 (Post (.bool false) (hpv7_80 c es)) (condP (Prod.fst x.2 != (2 : Int)) (ASpec prog 26 [] (hpv7_80 c es) fun r H' => ∃ (x : Unit), r = AV.bool true ∧ H' = (hpv7_80 c es) ∧ Post (.bool true) (hpv7_80 c es)) (ASpec prog 39 [.ptr 2 0, T.aN c.1, T.aK c.2] (hpv7_80 c es) fun r H' => ∃ (x : Bool), r = AV.bool x ∧ H' = (hpv7_80 c es) ∧ condP (!x) (ASpec prog 26 [] (hpv7_80 c es) fun r H' => ∃ (x : Unit), r = AV.bool true ∧ H' = (hpv7_80 c es) ∧ Post (.bool true) (hpv7_80 c es)) (Post (.bool false) (hpv7_80 c es)))))) (condP (Prod.fst x.2 != (2 : Int)) (ASpec prog 26 [] (hpv7_80 c es) fun r H' => ∃ (x : Unit), r = AV.bool true ∧ H' = (hpv7_80 c es) ∧ Post (.bool true) (hpv7_80 c es)) (ASpec prog 39 [.ptr 2 0, T.aN c.1, T.aK c.2] (hpv7_80 c es) fun r H' => ∃ (x : Bool), r = AV.bool x ∧ H' = (hpv7_80 c es) ∧ condP (!x) (ASpec prog 26 [] (hpv7_80 c es) fun r H' => ∃ (x : Unit), r = AV.bool true ∧ H' = (hpv7_80 c es) ∧ Post (.bool true) (hpv7_80 c es)) (Post (.bool false) (hpv7_80 c es)))))) → AWP prog 139 n c7_8 [(1, .sl 2 (.map T.encEn ([], []) more) .none), (5, .ptr 0 0), (7, .ptr 2 0), (8, T.aK p), (9, .int .i64 k), (11, .int .i64 i)] [AObj.cells (T.encCh c), .mp (.typed T.EK es), .cells [.map 1]] (q7_2 n Post) := fun more c es p k i n Post h => AWP.loop' g7 (Cfg.live g7) c7_8 (by kernel_rfl) (by kernel_rfl) (kc (by kernel_rfl) h)
end
end Ph
end

noncomputable section
namespace V
def lead (v : Nat) : List UInt8 := if _h : v = 0 then [] else lead (v / 128) ++ [UInt8.ofNat (128 + v % 128)]
 termination_by v
 decreasing_by omega
def enc (v : Nat) : List UInt8 := lead (v / 128) ++ [UInt8.ofNat (v % 128)]
end V
end

noncomputable section
open Go Go.Ab Go.Proofs
namespace V
def big : Nat := 140737488351232
theorem tmodN (a b : Nat) : Int.tmod (a : Int) (b : Int) = ((a % b : Nat) : Int) := by rfl
theorem selTok : Sel 0 [1] [AObj.gone, AObj.tok] [AObj.tok] := Sel.one 1 rfl rfl
end V
end

noncomputable section
open Go Go.Ab Go.Proofs
namespace V
def scan : Nat → List UInt8 → Nat → Nat → Int ⊕ (Nat × Nat)
 | 0, _, _, _ => .inl 4
 | _ + 1, [], _, _ => .inl 2
 | f + 1, c :: s, x, i => if 128 ≤ c.toNat then scan f s (x * 128 + c.toNat % 128) (i + 1) else .inr (x * 128 + c.toNat % 128, i + 1)
def lookM (s : List UInt8) (most : Int) : Int × Nat × Int :=
 match s with
 | [] => (0, 0, 2)
 | c :: _ => if c = 128 then (0, 0, 3) else match scan 6 s 0 0 with
  | .inl e => (0, 0, e)
  | .inr (n, k) => if (n : Int) > min most 1099511627776 then (0, 0, 4) else (n, k, 0)
theorem getD_drop (bs : List UInt8) (q : Nat) (h : q < bs.length) : bs.drop q = bs.getD q 0 :: bs.drop (q + 1) := by
 rw [List.drop_eq_getElem_cons h]
 simp [List.getD, List.getElem?_eq_getElem h]
def peekP (bs : List UInt8) (p : Nat) (most : Int) (Post : AV → List AObj → Prop) : Int ⊕ (Nat × Nat) → Prop
 | .inl e => Post (.tup [.int .i64 0, .int .i64 p]) [rd bs p e]
 | .inr (n, k) => if (n : Int) > min most 1099511627776 then Post (.tup [.int .i64 0, .int .i64 p]) [rd bs p 4] else Post (.tup [.int .i64 n, .int .i64 (p + k : Nat)]) [rd bs p 0]
theorem min_if (most : Int) : (if 1099511627776 < most then 1099511627776 else most) = min most 1099511627776 := by
 split <;> omega
theorem peek9 {bs : List UInt8} {p : Nat} {most : Int} {Post : AV → List AObj → Prop} (hb : bs.length ≤ big) (hp : p ≤ bs.length) : ∀ (f i x : Nat), f + i = 6 → p + i ≤ bs.length → x < 128 ^ i →
  peekP bs p most Post (scan f (bs.drop (p + i)) x i) →
  AWP Tryz.prog 113 1 c210_9 [(0, .ptr 0 0), (1, .int .i64 most), (6, .int .i64 x), (44, .int .i64 i)] [rd bs p 0] (q210_2 1 Post) := by
 intro f
 unfold big at hb
 induction f with
 | zero =>
  intro i x hf hpi hx h
  refine v210_9 _ _ _ _ _ _ _ _ (condD (fun hc => by omega) fun hc => ⟨⟨rfl, rfl⟩, h⟩)
 | succ f ih =>
  intro i x hf hpi hx h
  have hi6 : (128 : Nat) ^ i ≤ 128 ^ 5 := Nat.pow_le_pow_right (by omega) (by omega)
  have h5 : (128 : Nat) ^ 5 = 34359738368 := by decide
  have hwp : IntKind.wrap .i64 ((p : Int) + i) = ((p + i : Nat) : Int) := by rw [wrap64 (by omega) (by omega)]; simp
  refine v210_9 _ _ _ _ _ _ _ _ (condD (fun hc => ?_) fun hc => by omega)
  rw [hwp]
  refine condE (fun he => ?_) fun he => ?_
  ·have he : p + i = bs.length := by omega
   refine ⟨⟨rfl, rfl⟩, ?_⟩
   rw [List.drop_eq_nil_of_le (by omega)] at h
   exact h
  ·have he : p + i ≠ bs.length := by omega
   refine needJ (by omega) (needJ (by decide) ?_)
   rw [Int.toNat_natCast]
   rw [getD_drop bs (p + i) (by omega)] at h
   generalize bs.getD (p + i) 0 = c at h ⊢
   have hc8 : c.toNat < 256 := c.toNat_lt
   have hwc : IntKind.wrap .i64 (c.toNat : Int) = (c.toNat : Int) := wrapN (by omega)
   have hx1 : IntKind.wrap .i64 (IntKind.wrap .i64 ((x : Int) * 128) + (c.toNat : Int).tmod 128) = ((x * 128 + c.toNat % 128 : Nat) : Int) := by
    rw [show (128 : Int) = ((128 : Nat) : Int) from rfl, tmodN, wrap64 (x := (x : Int) * ((128 : Nat) : Int)) (by omega) (by omega), wrap64 (by omega) (by omega)]
    simp
   rw [hwc, hx1]
   simp only [scan] at h
   refine condD (fun hg => ?_) fun hg => ?_
   ·rw [if_pos (by omega)] at h
    rw [show IntKind.wrap .i64 ((i : Int) + 1) = ((i + 1 : Nat) : Int) by rw [wrap64 (by omega) (by omega)]; simp]
    refine ih (i + 1) _ (by omega) (by omega) ?_ ?_
    ·rw [Nat.pow_succ]; omega
    ·exact h
   ·rw [if_neg (by omega)] at h
    simp only [peekP] at h
    rw [min_if]
    refine condD (fun hm => ?_) fun hm => ?_
    ·rw [if_pos hm] at h
     exact ⟨⟨rfl, rfl⟩, h⟩
    ·rw [if_neg hm] at h
     rw [show IntKind.wrap .i64 (((p + i : Nat) : Int) + 1) = ((p + (i + 1) : Nat) : Int) by rw [wrap64 (by omega) (by omega)]; omega]
     exact ⟨⟨rfl, rfl⟩, h⟩
theorem peek_spec {bs : List UInt8} {p : Nat} (most : Int) (hb : bs.length ≤ big) (hp : p ≤ bs.length) :
  ASpec Tryz.prog 210 [.ptr 0 0, .int .i64 most] [rd bs p 0] (fun r H' => r = .tup [.int .i64 (lookM (bs.drop p) most).1, .int .i64 (p + (lookM (bs.drop p) most).2.1 : Nat)] ∧ H' = [rd bs p (lookM (bs.drop p) most).2.2]) := by
 refine s210 _ _ _ _ _ (condE (fun he => ?_) fun he => ?_)
 ·have he : p = bs.length := by omega
  rw [List.drop_eq_nil_of_le (by omega)]
  exact ⟨⟨rfl, rfl⟩, rfl, rfl⟩
 ·have he : p ≠ bs.length := by omega
  refine needJ (by omega) ?_
  rw [Int.toNat_natCast]
  have hd := getD_drop bs p (by omega)
  refine condE (fun h1 => ?_) fun h1 => ?_
  ·have h1 : (bs.getD p 0) = 128 := by
    have : (bs.getD p 0).toNat = 128 := by omega
    exact UInt8.toNat_inj.1 this
   have e : lookM (bs.drop p) most = (0, 0, 3) := by rw [hd]; simp only [lookM, if_pos h1]
   rw [e]
   exact ⟨⟨rfl, rfl⟩, rfl, rfl⟩
  ·have h1 : (bs.getD p 0) ≠ 128 := by
    intro e
    rw [e] at h1
    exact h1 rfl
   refine peek9 hb hp 6 0 0 rfl (by omega) (by simp) ?_
   rw [Nat.add_zero]
   have e : lookM (bs.drop p) most = match scan 6 (bs.drop p) 0 0 with
    | .inl e => (0, 0, e)
    | .inr (n, k) => if (n : Int) > min most 1099511627776 then (0, 0, 4) else (n, k, 0) := by
    rw [hd]; simp only [lookM, if_neg h1]
   rw [e]
   cases scan 6 (bs.drop p) 0 0 with
   | inl er => exact ⟨rfl, rfl⟩
   | inr nk =>
    obtain ⟨n, k⟩ := nk
    simp only [peekP]
    split
    ·exact ⟨rfl, rfl⟩
    ·exact ⟨rfl, rfl⟩
theorem scan_le : ∀ (f : Nat) (s : List UInt8) (x i n k : Nat), scan f s x i = .inr (n, k) → i < k ∧ k ≤ i + s.length
 | 0, s, x, i, n, k, h => by simp [scan] at h
 | f + 1, [], x, i, n, k, h => by simp [scan] at h
 | f + 1, c :: s, x, i, n, k, h => by
  simp only [scan] at h
  split at h
  ·have := scan_le f s _ _ _ _ h
   simp; omega
  ·simp at h
   simp; omega
theorem lookM_le (s : List UInt8) (most : Int) : (lookM s most).2.1 ≤ s.length ∧ 0 ≤ (lookM s most).1 ∧ (lookM s most).1 ≤ 1099511627776 ∧ ((lookM s most).2.2 ≠ 0 → (lookM s most).1 = 0 ∧ (lookM s most).2.1 = 0) := by
 cases s with
 | nil => simp [lookM]
 | cons c s =>
  simp only [lookM]
  split
  ·simp
  ·split
   ·simp
   ·rename_i n k hs
    have := scan_le _ _ _ _ _ _ hs
    split
    ·simp
    ·refine ⟨?_, by simp, ?_, by simp⟩
     ·show k ≤ _
      omega
     ·show (n : Int) ≤ _
      omega
def numM (bs : List UInt8) (p : Nat) (e most : Int) : Int × Nat × Int :=
 if e ≠ 0 then (0, p, e) else ((lookM (bs.drop p) most).1, p + (lookM (bs.drop p) most).2.1, (lookM (bs.drop p) most).2.2)
def strM (bs : List UInt8) (p : Nat) (e most : Int) : List UInt8 × Nat × Int :=
 if e ≠ 0 then ([], p, e) else
  if (lookM (bs.drop p) most).2.2 ≠ 0 then ([], p, (lookM (bs.drop p) most).2.2) else
  if (lookM (bs.drop p) most).1 > (bs.length : Int) - ((p + (lookM (bs.drop p) most).2.1 : Nat) : Int) then ([], p, 2) else
   ((bs.drop (p + (lookM (bs.drop p) most).2.1)).take (lookM (bs.drop p) most).1.toNat, p + (lookM (bs.drop p) most).2.1 + (lookM (bs.drop p) most).1.toNat, 0)
theorem num_spec0 {bs : List UInt8} {p : Nat} (e most : Int) (hb : bs.length ≤ big) (hp : p ≤ bs.length) :
  ASpec Tryz.prog 174 [.ptr 0 0, .int .i64 most] [rd bs p e] (fun r H' => r = .int .i64 (numM bs p e most).1 ∧ H' = [rd bs (numM bs p e most).2.1 (numM bs p e most).2.2]) := by
 refine s174 _ _ _ _ _ (condNe (fun he => ?_) fun he => ?_)
 ·rw [show numM bs p e most = (0, p, e) by simp only [numM, if_pos he]]
  exact ⟨rfl, rfl⟩
 ·subst he
  rw [show numM bs p 0 most = ((lookM (bs.drop p) most).1, p + (lookM (bs.drop p) most).2.1, (lookM (bs.drop p) most).2.2) by simp [numM]]
  refine ASpec.call (peek_spec most hb hp) (Les.refl _) ⟨(_, _, _, _), rfl, rfl, rfl, rfl⟩
theorem str_spec0 {bs : List UInt8} {p : Nat} (e most : Int) (hb : bs.length ≤ big) (hp : p ≤ bs.length) :
  ASpec Tryz.prog 172 [.ptr 0 0, .int .i64 most] [rd bs p e] (fun r H' => r = .str ⟨(strM bs p e most).1.toArray⟩ ∧ H' = [rd bs (strM bs p e most).2.1 (strM bs p e most).2.2]) := by
 refine s172 _ _ _ _ _ (condNe (fun he => ?_) fun he => ?_)
 ·rw [show strM bs p e most = ([], p, e) by simp only [strM, if_pos he]]
  exact ⟨rfl, rfl⟩
 ·subst he
  obtain ⟨h1, h2, h3, h4⟩ := lookM_le (bs.drop p) most
  have hs : strM bs p 0 most = if (lookM (bs.drop p) most).2.2 ≠ 0 then ([], p, (lookM (bs.drop p) most).2.2) else
   if (lookM (bs.drop p) most).1 > (bs.length : Int) - ((p + (lookM (bs.drop p) most).2.1 : Nat) : Int) then ([], p, 2) else
   ((bs.drop (p + (lookM (bs.drop p) most).2.1)).take (lookM (bs.drop p) most).1.toNat, p + (lookM (bs.drop p) most).2.1 + (lookM (bs.drop p) most).1.toNat, 0) := by simp [strM]
  refine ASpec.call (peek_spec most hb hp) (Les.refl _) ⟨((lookM (bs.drop p) most).1, ((p + (lookM (bs.drop p) most).2.1 : Nat) : Int), p, (lookM (bs.drop p) most).2.2), rfl, rfl, ?_⟩
  generalize lookM (bs.drop p) most = q at h1 h2 h3 h4 hs ⊢
  obtain ⟨n, k, er⟩ := q
  unfold big at hb
  rw [List.length_drop] at h1
  simp only at h1 h2 h3 h4 hs ⊢
  refine condNe (fun he => ?_) fun he => ?_
  ·rw [hs, if_pos he]; exact ⟨rfl, rfl⟩
  ·subst he
   rw [wrap64 (x := (bs.length : Int) - ((p + k : Nat) : Int)) (by omega) (by omega)]
   refine condD (fun hg => ?_) fun hg => ?_
   ·rw [hs, if_neg (by simp), if_pos hg]; exact ⟨rfl, rfl⟩
   ·rw [hs, if_neg (by simp), if_neg hg]
    have hw : IntKind.wrap .i64 (((p + k : Nat) : Int) + n) = ((p + k + n.toNat : Nat) : Int) := by
     have h5 : 0 ≤ n := h2
     rw [wrap64 (x := ((p + k : Nat) : Int) + n) (by omega) (by omega)]; omega
    rw [hw]
    refine needJ (by omega) (needJ (allBytes_map _) ?_)
    rw [bytesOf_map, Int.toNat_natCast, Int.toNat_natCast, List.drop_take]
    refine ⟨?_, rfl⟩
    rw [show p + k + n.toNat - (p + k) = n.toNat by omega]
end V
end

noncomputable section
open Go Go.Ab Go.Proofs
namespace V
abbrev B (l : List UInt8) : ByteArray := ⟨l.toArray⟩
theorem B_size (l : List UInt8) : (B l).size = l.length := by simp [ByteArray.size]
theorem B_toList (l : List UInt8) : (B l).toList = l := by rw [ByteArray.toList_eq]
theorem B_beq (a b : List UInt8) : ((B a).toList == (B b).toList) = (a == b) := by rw [B_toList, B_toList]
theorem condS {a b : List UInt8} {A C : Prop} (h1 : a = b → A) (h2 : a ≠ b → C) : condP ((B a).toList == (B b).toList) A C := by
 rw [B_beq]
 by_cases h : a = b
 ·rw [beq_iff_eq.2 h]; exact h1 h
 ·rw [beq_eq_false_iff_ne.2 h]; exact h2 h
end V
end

noncomputable section
open Go Go.Ab Go.Proofs
namespace V
abbrev At (H : List AObj) (id : Nat) (bs : List UInt8) (p : Nat) (e : Int) : Prop := H[id]? = some (rd bs p e)
theorem num_spec {H : List AObj} {id : Nat} {bs : List UInt8} {p : Nat} {e : Int} (most : Int) (hb : bs.length ≤ big) (hp : p ≤ bs.length) (h : At H id bs p e) :
  ASpec Tryz.prog 174 [.ptr id 0, .int .i64 most] H (fun r H' => r = .int .i64 (numM bs p e most).1 ∧ H' = H.set id (rd bs (numM bs p e most).2.1 (numM bs p e most).2.2)) :=
 ASpec.oneH H id (num_spec0 e most hb hp) _ _ _ rfl rfl h rfl
theorem str_spec {H : List AObj} {id : Nat} {bs : List UInt8} {p : Nat} {e : Int} (most : Int) (hb : bs.length ≤ big) (hp : p ≤ bs.length) (h : At H id bs p e) :
  ASpec Tryz.prog 172 [.ptr id 0, .int .i64 most] H (fun r H' => r = .str (B (strM bs p e most).1) ∧ H' = H.set id (rd bs (strM bs p e most).2.1 (strM bs p e most).2.2)) :=
 ASpec.oneH H id (str_spec0 e most hb hp) _ _ _ rfl rfl h rfl
theorem set_same {α : Type _} {l : List α} {i : Nat} {a : α} (h : l[i]? = some a) : l.set i a = l := by
 apply List.ext_getElem?
 intro j
 rw [List.getElem?_set]
 split
 ·rename_i e; subst e
  have := (List.getElem?_eq_some_iff.1 h).1
  simp only [this, if_true]
  exact h.symm
 ·rfl
theorem err_spec {H : List AObj} {id : Nat} {bs : List UInt8} {p : Nat} {e : Int} (h : At H id bs p e) : ASpec Tryz.prog 211 [.ptr id 0] H (fun r H' => r = .int .i64 e ∧ H' = H) := by
 have k : ASpec Tryz.prog 211 [.ptr 0 0] [rd bs p e] (fun r H' => r = .int .i64 e ∧ H' = [rd bs p e]) := s211 _ _ _ _ ⟨rfl, rfl⟩
 have := ASpec.oneH H id k [.ptr id 0] (.int .i64 e) (rd bs p e) rfl rfl h rfl
 rw [set_same h] at this
 exact this
theorem left_spec {H : List AObj} {id : Nat} {bs : List UInt8} {p : Nat} {e : Int} (hb : bs.length ≤ big) (hp : p ≤ bs.length) (h : At H id bs p e) : ASpec Tryz.prog 212 [.ptr id 0] H (fun r H' => r = .int .i64 (bs.length - p : Nat) ∧ H' = H) := by
 have k : ASpec Tryz.prog 212 [.ptr 0 0] [rd bs p e] (fun r H' => r = .int .i64 (bs.length - p : Nat) ∧ H' = [rd bs p e]) := by
  refine s212 _ _ _ _ ⟨?_, rfl⟩
  unfold big at hb
  rw [wrap64 (by omega) (by omega)]
  congr 1
  omega
 have := ASpec.oneH H id k [.ptr id 0] (.int .i64 (bs.length - p : Nat)) (rd bs p e) rfl rfl h rfl
 rw [set_same h] at this
 exact this
theorem copied_all (bs : List UInt8) (l : List (List AV)) (hl : l.length = bs.length) : (copied (.raw l) 0 (.map encB 0 bs)).toList = bs.map encB := by
 simp [copied, Seq.toList, hl]
theorem open_spec (bs : List UInt8) (hb : bs.length ≤ big) (H : List AObj) : ASpec Tryz.prog 170 [.sl 1 (.map encB 0 bs) .none] H (fun r H' => r = .ptr H.length 0 ∧ H' = H ++ [rd bs 0 0]) := by
 have k : ASpec Tryz.prog 170 [.sl 1 (.map encB 0 bs) .none] [] (fun r H' => r = .ptr 0 0 ∧ H' = [rd bs 0 0]) := by
  unfold big at hb
  refine s170 _ _ _ (needJ ⟨by omega, by omega, by omega, by omega⟩ (needJ oneB (needJ (by simp) ?_)))
  generalize hq : copied _ _ _ = q
  have hq2 : q.toList = bs.map encB := by rw [← hq]; exact copied_all _ _ (by simp)
  refine AWP.re (ReSt.freeze (id := 0) (sz := 1) (q := q) (s2 := [(3, .sl 1 (.map encB 0 bs) .none)]) rfl (by simp) (fun d => ?_)) ?_
  ·by_cases e : d = 3
   ·subst e
    right; right
    exact ⟨0, bs.length, .map encB 0 bs, rfl, by rw [hq2]; simp, rfl, by rw [hq2]; simp [Seq.toList, List.take_of_length_le]⟩
   ·left
    have : Nat.beq 3 d = false := by
     cases hx : Nat.beq 3 d with
     | false => rfl
     | true => exact absurd (Nat.eq_of_beq_eq_true hx).symm e
    simp only [Ab.get, this]; rfl
  ·exact AWP.shape [] [(3, .sl 1 (.map encB 0 bs) .none)] [] Sel.none ⟨rfl, Le.refl _, trivial⟩ (v170_3 _ _ _ ⟨rfl, rfl⟩)
 exact ASpec.anyH H k _ _ _ rfl rfl rfl
end V
end

noncomputable section
open Go Go.Ab Go.Proofs
namespace V
end V
end

noncomputable section
open Go Go.Ab Go.Proofs
namespace V
end V
end

noncomputable section
open Go Go.Ab Go.Proofs
namespace V
def dnumM (l : List UInt8) (e most : Int) : Int × List UInt8 × Int :=
 if e ≠ 0 then (0, l, e) else ((lookM l most).1, l.drop (lookM l most).2.1, (lookM l most).2.2)
def dstrM (l : List UInt8) (e most : Int) : List UInt8 × List UInt8 × Int :=
 if e ≠ 0 then ([], l, e) else if (lookM l most).2.2 ≠ 0 then ([], l, (lookM l most).2.2) else
  if (lookM l most).1 > (l.length : Int) - ((lookM l most).2.1 : Nat) then ([], l, 2) else
  ((l.drop (lookM l most).2.1).take (lookM l most).1.toNat, l.drop ((lookM l most).2.1 + (lookM l most).1.toNat), 0)
def closeM (e : Int) (left : Nat) : Int := if e ≠ 0 then e else if 0 < left then 3 else 0
theorem close_spec {H : List AObj} {id : Nat} {bs : List UInt8} {p : Nat} {e : Int} (hb : bs.length ≤ big) (hp : p ≤ bs.length) (h : At H id bs p e) :
  ASpec Tryz.prog 180 [.ptr id 0] H (fun r H' => r = .int .i64 (closeM e (bs.length - p)) ∧ H' = H) := by
 have k : ASpec Tryz.prog 180 [.ptr 0 0] [rd bs p e] (fun r H' => r = .int .i64 (closeM e (bs.length - p)) ∧ H' = [rd bs p e]) := by
  refine s180 _ _ _ _ (ASpec.call (err_spec (id := 0) (bs := bs) (p := p) (e := e) rfl) (Les.refl _) ⟨e, rfl, rfl, ?_⟩)
  refine condNe (fun he => ?_) fun he => ?_
  ·rw [show closeM e (bs.length - p) = e from if_pos he]; exact ⟨rfl, rfl⟩
  ·subst he
   refine ASpec.call (left_spec (id := 0) (bs := bs) (p := p) (e := 0) hb hp rfl) (Les.refl _) ⟨_, rfl, rfl, ?_⟩
   refine condD (fun hc => ?_) fun hc => ?_
   ·rw [show closeM 0 (bs.length - p) = 3 by simp only [closeM]; rw [if_neg (by simp), if_pos (by omega)]]; exact ⟨rfl, rfl⟩
   ·rw [show closeM 0 (bs.length - p) = 0 by simp only [closeM]; rw [if_neg (by simp), if_neg (by omega)]]; exact ⟨rfl, rfl⟩
 have := ASpec.oneH H id k [.ptr id 0] (.int .i64 (closeM e (bs.length - p))) (rd bs p e) rfl rfl h rfl
 rw [set_same h] at this
 exact this
theorem condSn {a b : List UInt8} {A C : Prop} (h1 : a ≠ b → A) (h2 : a = b → C) : condP (!(B a).toList == (B b).toList) A C := by
 rw [B_beq]
 by_cases h : a = b
 ·rw [beq_iff_eq.2 h]; exact h2 h
 ·rw [beq_eq_false_iff_ne.2 h]; exact h1 h
theorem num_doc (bs : List UInt8) (p : Nat) (e most : Int) (hp : p ≤ bs.length) :
  dnumM (bs.drop p) e most = ((numM bs p e most).1, bs.drop (numM bs p e most).2.1, (numM bs p e most).2.2) ∧ (numM bs p e most).2.1 ≤ bs.length := by
 have h := (lookM_le (bs.drop p) most).1
 rw [List.length_drop] at h
 unfold dnumM numM
 split
 ·exact ⟨rfl, hp⟩
 ·refine ⟨by simp [List.drop_drop], by simp only; omega⟩
theorem str_doc (bs : List UInt8) (p : Nat) (e most : Int) (hp : p ≤ bs.length) :
  dstrM (bs.drop p) e most = ((strM bs p e most).1, bs.drop (strM bs p e most).2.1, (strM bs p e most).2.2) ∧ (strM bs p e most).2.1 ≤ bs.length := by
 obtain ⟨h, h2, -, -⟩ := lookM_le (bs.drop p) most
 rw [List.length_drop] at h
 unfold dstrM strM
 simp only [List.length_drop]
 split
 ·exact ⟨rfl, hp⟩
 split
 ·exact ⟨rfl, hp⟩
 split
 ·rename_i hg
  rw [if_pos (by omega)]
  exact ⟨rfl, hp⟩
 ·rename_i hg
  rw [if_neg (by omega)]
  refine ⟨by simp [List.drop_drop, Nat.add_assoc], by simp only; omega⟩
end V
end

noncomputable section
open Go Go.Ab Go.Proofs V
namespace Go.Ab
theorem Le.tup {l r : List AV} (h : Les l r) : Le (.tup l) (.tup r) := by
 intro M w loc v hv
 cases hv with
 | tup _ vs hs hr =>
  have hl := h.len
  exact .tup _ vs (by omega) fun i hi => h.get i (by omega) hi M w loc _ (hr i (by omega))
theorem Le.agg {l r : List AV} (h : Les l r) : Le (.agg l) (.agg r) := by
 intro M w loc v hv
 cases hv with
 | agg _ vs hs hr =>
  have hl := h.len
  exact .agg _ vs (by omega) fun i hi => h.get i (by omega) hi M w loc _ (hr i (by omega))
end Go.Ab
namespace S
def fnv : Nat → List UInt8 → Nat
 | n, [] => n
 | n, c :: l => fnv ((n ^^^ c.toNat) * 16777619 % 4294967296) l
abbrev sum (l : List UInt8) : Nat := fnv 2166136261 l
end S
end

noncomputable section
open Go Go.Ab Go.Proofs V
namespace S
def kindM (c : Int) : Int := if 97 ≤ c ∧ c ≤ 122 then 0 else if 945 ≤ c ∧ c ≤ 969 then 1 else if 48 ≤ c ∧ c ≤ 57 then 2 else if c = 45 then 3 else 4
theorem kind_spec (c : Int) (H : List AObj) : ASpec Tryz.prog 100 [.int .i32 c] H (fun r H' => r = .int .i64 (kindM c) ∧ H' = H) := by
 have k : ASpec Tryz.prog 100 [.int .i32 c] [] (fun r H' => r = .int .i64 (kindM c) ∧ H' = []) := by
  refine s100 _ _ ?_
  repeat' (first | refine condD (fun _ => ?_) fun _ => ?_ | refine condE (fun _ => ?_) fun _ => ?_)
  all_goals (refine ⟨?_, rfl⟩; congr 1; unfold kindM; repeat' split)
  all_goals omega
 exact ASpec.pureH H k _ _ rfl rfl
theorem rkind_spec (c : Int) (H : List AObj) : ASpec Tryz.prog 92 [.int .i64 c] H (fun r H' => r = .int .i64 (kindM c) ∧ H' = H) := by
 have k : ASpec Tryz.prog 92 [.int .i64 c] [] (fun r H' => r = .int .i64 (kindM c) ∧ H' = []) := by
  refine s92 _ _ ?_
  repeat' (first | refine condD (fun _ => ?_) fun _ => ?_ | refine condE (fun _ => ?_) fun _ => ?_)
  all_goals (refine ⟨?_, rfl⟩; congr 1; unfold kindM; repeat' split)
  all_goals omega
 exact ASpec.pureH H k _ _ rfl rfl
theorem kindM_range (c : Int) : 0 ≤ kindM c ∧ kindM c ≤ 4 := by
 unfold kindM; repeat' split
 all_goals omega
abbrev bt (l : List UInt8) (p k : Nat) : Nat := (l.getD (p + k) 0).toNat
theorem bt_lt (l : List UInt8) (p k : Nat) : bt l p k < 256 := (l.getD (p + k) 0).toNat_lt
theorem get_B (l : List UInt8) (j : Nat) : (B l).get! j = l.getD j 0 := by
 show l.toArray[j]! = _
 rw [getElem!_def]
 simp [List.getD]
 rfl
abbrev wideC (a b0 b1 b2 b3 : Nat) : Nat :=
 if 194 ≤ b0 ∧ b0 ≤ 223 then (if 2 ≤ a ∧ (128 ≤ b1 ∧ b1 ≤ 191) then 2 else 0)
 else if 224 ≤ b0 ∧ b0 ≤ 239 then (if 3 ≤ a ∧ (128 ≤ b1 ∧ b1 ≤ 191) ∧ (128 ≤ b2 ∧ b2 ≤ 191) ∧ ¬ (b0 = 224 ∧ b1 < 160) ∧ ¬ (b0 = 237 ∧ 159 < b1) then 3 else 0)
 else if 240 ≤ b0 ∧ b0 ≤ 244 then (if 4 ≤ a ∧ (128 ≤ b1 ∧ b1 ≤ 191) ∧ (128 ≤ b2 ∧ b2 ≤ 191) ∧ (128 ≤ b3 ∧ b3 ≤ 191) ∧ ¬ (b0 = 240 ∧ b1 < 144) ∧ ¬ (b0 = 244 ∧ 143 < b1) then 4 else 0)
 else 0
def wideM (l : List UInt8) (p : Nat) : Nat := wideC (l.length - p) (bt l p 0) (bt l p 1) (bt l p 2) (bt l p 3)
abbrev runeC (w b0 b1 b2 b3 : Nat) : Nat × Nat :=
 if b0 < 128 then (b0, 1) else if w = 0 then (65533, 1) else if w = 2 then (b0 % 32 * 64 + b1 % 64, 2)
 else if w = 3 then ((b0 % 16 * 64 + b1 % 64) * 64 + b2 % 64, 3) else (((b0 % 8 * 64 + b1 % 64) * 64 + b2 % 64) * 64 + b3 % 64, 4)
def runeM (l : List UInt8) (p : Nat) : Nat × Nat := runeC (wideM l p) (bt l p 0) (bt l p 1) (bt l p 2) (bt l p 3)
theorem decode_core (a b0 b1 b2 b3 : Nat) (h0 : b0 < 256) (h1 : b1 < 256) (h2 : b2 < 256) (h3 : b3 < 256) :
    (if b0 < 128 then (b0, 1)
     else if b0 / 32 = 6 ∧ (1 < a ∧ b1 / 64 = 2) then (if 128 ≤ b0 % 32 * 64 + b1 % 64 then (b0 % 32 * 64 + b1 % 64, 2) else (65533, 1))
     else if b0 / 16 = 14 ∧ (1 < a ∧ b1 / 64 = 2) ∧ (2 < a ∧ b2 / 64 = 2) then
       (if 2048 ≤ b0 % 16 * 4096 + b1 % 64 * 64 + b2 % 64 ∧ (b0 % 16 * 4096 + b1 % 64 * 64 + b2 % 64 < 55296 ∨ (57344 ≤ b0 % 16 * 4096 + b1 % 64 * 64 + b2 % 64 ∧ b0 % 16 * 4096 + b1 % 64 * 64 + b2 % 64 ≤ 1114111))
        then (b0 % 16 * 4096 + b1 % 64 * 64 + b2 % 64, 3) else (65533, 1))
     else if b0 / 8 = 30 ∧ (1 < a ∧ b1 / 64 = 2) ∧ (2 < a ∧ b2 / 64 = 2) ∧ (3 < a ∧ b3 / 64 = 2) then
       (if 65536 ≤ b0 % 8 * 262144 + b1 % 64 * 4096 + b2 % 64 * 64 + b3 % 64 ∧ (b0 % 8 * 262144 + b1 % 64 * 4096 + b2 % 64 * 64 + b3 % 64 < 55296 ∨ (57344 ≤ b0 % 8 * 262144 + b1 % 64 * 4096 + b2 % 64 * 64 + b3 % 64 ∧ b0 % 8 * 262144 + b1 % 64 * 4096 + b2 % 64 * 64 + b3 % 64 ≤ 1114111))
        then (b0 % 8 * 262144 + b1 % 64 * 4096 + b2 % 64 * 64 + b3 % 64, 4) else (65533, 1))
     else ((65533 : Nat), (1 : Nat))) = runeC (wideC a b0 b1 b2 b3) b0 b1 b2 b3 := by
  have e2 : ∀ w : Nat, w = 0 ∨ w = 2 ∨ w = 3 ∨ w = 4 ∨ 4 < w ∨ w = 1 := by omega
  by_cases c0 : b0 < 128
  · rw [if_pos c0]; unfold runeC; rw [if_pos c0]
  rw [if_neg c0]
  unfold runeC
  rw [if_neg c0]
  by_cases c1 : 194 ≤ b0 ∧ b0 ≤ 223
  · unfold wideC
    rw [if_pos c1]
    by_cases d : 1 < a ∧ b1 / 64 = 2
    · rw [if_pos ⟨by omega, d⟩, if_pos (by omega), if_pos (show 2 ≤ a ∧ (128 ≤ b1 ∧ b1 ≤ 191) by omega)]; rfl
    · rw [if_neg (fun h => d h.2), if_neg (fun h => d h.2.1), if_neg (fun h => d h.2.1), if_neg (show ¬ (2 ≤ a ∧ (128 ≤ b1 ∧ b1 ≤ 191)) by omega)]; rfl
  by_cases c2 : 224 ≤ b0 ∧ b0 ≤ 239
  · unfold wideC
    rw [if_neg c1, if_pos c2]
    rw [if_neg (show ¬ (b0 / 32 = 6 ∧ (1 < a ∧ b1 / 64 = 2)) by omega)]
    by_cases d : (1 < a ∧ b1 / 64 = 2) ∧ (2 < a ∧ b2 / 64 = 2)
    · rw [if_pos ⟨by omega, d⟩]
      by_cases f : ¬ (b0 = 224 ∧ b1 < 160) ∧ ¬ (b0 = 237 ∧ 159 < b1)
      · rw [if_pos (show 3 ≤ a ∧ (128 ≤ b1 ∧ b1 ≤ 191) ∧ (128 ≤ b2 ∧ b2 ≤ 191) ∧ ¬ (b0 = 224 ∧ b1 < 160) ∧ ¬ (b0 = 237 ∧ 159 < b1) by omega), if_pos (by omega)]
        simp only [if_neg (show ¬ (3 = 0) by omega), if_neg (show ¬ (3 = 2) by omega), if_true]
        rw [show b0 % 16 * 4096 + b1 % 64 * 64 + b2 % 64 = (b0 % 16 * 64 + b1 % 64) * 64 + b2 % 64 by omega]
      · rw [if_neg (show ¬ (3 ≤ a ∧ (128 ≤ b1 ∧ b1 ≤ 191) ∧ (128 ≤ b2 ∧ b2 ≤ 191) ∧ ¬ (b0 = 224 ∧ b1 < 160) ∧ ¬ (b0 = 237 ∧ 159 < b1)) by omega), if_neg (by omega)]; rfl
    · rw [if_neg (fun h => d h.2), if_neg (show ¬ (b0 / 8 = 30 ∧ (1 < a ∧ b1 / 64 = 2) ∧ (2 < a ∧ b2 / 64 = 2) ∧ (3 < a ∧ b3 / 64 = 2)) by omega),
        if_neg (show ¬ (3 ≤ a ∧ (128 ≤ b1 ∧ b1 ≤ 191) ∧ (128 ≤ b2 ∧ b2 ≤ 191) ∧ ¬ (b0 = 224 ∧ b1 < 160) ∧ ¬ (b0 = 237 ∧ 159 < b1)) by omega)]; rfl
  by_cases c3 : 240 ≤ b0 ∧ b0 ≤ 244
  · unfold wideC
    rw [if_neg c1, if_neg c2, if_pos c3]
    rw [if_neg (show ¬ (b0 / 32 = 6 ∧ (1 < a ∧ b1 / 64 = 2)) by omega), if_neg (show ¬ (b0 / 16 = 14 ∧ (1 < a ∧ b1 / 64 = 2) ∧ (2 < a ∧ b2 / 64 = 2)) by omega)]
    by_cases d : (1 < a ∧ b1 / 64 = 2) ∧ (2 < a ∧ b2 / 64 = 2) ∧ (3 < a ∧ b3 / 64 = 2)
    · rw [if_pos ⟨by omega, d⟩]
      by_cases f : ¬ (b0 = 240 ∧ b1 < 144) ∧ ¬ (b0 = 244 ∧ 143 < b1)
      · rw [if_pos (show 4 ≤ a ∧ (128 ≤ b1 ∧ b1 ≤ 191) ∧ (128 ≤ b2 ∧ b2 ≤ 191) ∧ (128 ≤ b3 ∧ b3 ≤ 191) ∧ ¬ (b0 = 240 ∧ b1 < 144) ∧ ¬ (b0 = 244 ∧ 143 < b1) by omega), if_pos (by omega)]
        simp only [if_neg (show ¬ (4 = 0) by omega), if_neg (show ¬ (4 = 2) by omega), if_neg (show ¬ (4 = 3) by omega)]
        rw [show b0 % 8 * 262144 + b1 % 64 * 4096 + b2 % 64 * 64 + b3 % 64 = ((b0 % 8 * 64 + b1 % 64) * 64 + b2 % 64) * 64 + b3 % 64 by omega]
      · rw [if_neg (show ¬ (4 ≤ a ∧ (128 ≤ b1 ∧ b1 ≤ 191) ∧ (128 ≤ b2 ∧ b2 ≤ 191) ∧ (128 ≤ b3 ∧ b3 ≤ 191) ∧ ¬ (b0 = 240 ∧ b1 < 144) ∧ ¬ (b0 = 244 ∧ 143 < b1)) by omega), if_neg (by omega)]; rfl
    · rw [if_neg (fun h => d h.2), if_neg (show ¬ (4 ≤ a ∧ (128 ≤ b1 ∧ b1 ≤ 191) ∧ (128 ≤ b2 ∧ b2 ≤ 191) ∧ (128 ≤ b3 ∧ b3 ≤ 191) ∧ ¬ (b0 = 240 ∧ b1 < 144) ∧ ¬ (b0 = 244 ∧ 143 < b1)) by omega)]; rfl
  · unfold wideC
    rw [if_neg c1, if_neg c2, if_neg c3]
    by_cases d : b0 / 32 = 6 ∧ (1 < a ∧ b1 / 64 = 2)
    · rw [if_pos d, if_neg (by omega)]; rfl
    rw [if_neg d, if_neg (show ¬ (b0 / 16 = 14 ∧ (1 < a ∧ b1 / 64 = 2) ∧ (2 < a ∧ b2 / 64 = 2)) by omega)]
    by_cases f : b0 / 8 = 30 ∧ (1 < a ∧ b1 / 64 = 2) ∧ (2 < a ∧ b2 / 64 = 2) ∧ (3 < a ∧ b3 / 64 = 2)
    · rw [if_pos f, if_neg (by omega)]; rfl
    · rw [if_neg f]; rfl
theorem validN (n : Nat) : Utf8.valid (n : Int) = (decide (n < 55296) || (decide (57344 ≤ n) && decide (n ≤ 1114111))) := by
 unfold Utf8.valid
 rw [Bool.eq_iff_iff]
 simp only [Bool.and_eq_true, Bool.or_eq_true, decide_eq_true_eq]
 omega
set_option maxRecDepth 100000 in
theorem decode_eq (l : List UInt8) (p : Nat) (hp : p < l.length) : Utf8.decode (B l) p = runeM l p := by
 unfold runeM wideM
 rw [← decode_core (l.length - p) _ _ _ _ (bt_lt l p 0) (bt_lt l p 1) (bt_lt l p 2) (bt_lt l p 3)]
 have hb : ∀ k, ((B l).get! (p + k)).toNat = bt l p k := fun k => by rw [get_B]
 have hc : ∀ k, decide (p + k < (B l).size) = decide (k < l.length - p) := fun k => by rw [B_size]; apply decide_eq_decide.2; omega
 unfold Utf8.decode
 simp only [hb, hc, validN]
 generalize bt l p 0 = b0
 generalize bt l p 1 = b1
 generalize bt l p 2 = b2
 generalize bt l p 3 = b3
 generalize l.length - p = a
 simp only [Utf8.runeError, Bool.and_eq_true, Bool.or_eq_true, decide_eq_true_eq, beq_iff_eq, ge_iff_le, and_assoc]
theorem runeM_width (l : List UInt8) (p : Nat) : 1 ≤ (runeM l p).2 ∧ (runeM l p).2 ≤ 4 := by
 unfold runeM runeC
 repeat' split
 all_goals simp
theorem wideM_cases (l : List UInt8) (p : Nat) : wideM l p = 0 ∨ (wideM l p = 2 ∧ 194 ≤ bt l p 0 ∧ bt l p 0 ≤ 223 ∧ p + 2 ≤ l.length) ∨
  (wideM l p = 3 ∧ 224 ≤ bt l p 0 ∧ bt l p 0 ≤ 239 ∧ p + 3 ≤ l.length ∧ (128 ≤ bt l p 1 ∧ bt l p 1 ≤ 191) ∧ ¬ (bt l p 0 = 224 ∧ bt l p 1 < 160)) ∨
  (wideM l p = 4 ∧ 240 ≤ bt l p 0 ∧ bt l p 0 ≤ 244 ∧ p + 4 ≤ l.length ∧ (128 ≤ bt l p 1 ∧ bt l p 1 ≤ 191) ∧ ¬ (bt l p 0 = 240 ∧ bt l p 1 < 144)) := by
 unfold wideM wideC
 repeat' split
 all_goals omega
theorem runeM_small {l : List UInt8} {p : Nat} (h : kindM ((runeM l p).1 : Nat) ≤ 3) : (runeM l p).2 ≤ 2 := by
 have hk : ((runeM l p).1 : Int) ≤ 969 := by
  unfold kindM at h
  repeat' split at h
  all_goals omega
 rcases wideM_cases l p with e | ⟨e, h1⟩ | ⟨e, h1, h2, h3, h4, h5⟩ | ⟨e, h1, h2, h3, h4, h5⟩
 ·unfold runeM runeC
  repeat' split
  all_goals simp_all
 ·unfold runeM runeC
  repeat' split
  all_goals simp_all
 ·exfalso
  unfold runeM runeC at hk
  rw [e] at hk
  rw [if_neg (by omega), if_neg (by omega), if_neg (by omega), if_pos rfl] at hk
  simp only at hk
  omega
 ·exfalso
  unfold runeM runeC at hk
  rw [e] at hk
  rw [if_neg (by omega), if_neg (by omega), if_neg (by omega), if_neg (by omega)] at hk
  simp only at hk
  omega
section
variable {l : List UInt8} {p : Nat} {Post : AV → List AObj → Prop}
theorem btInt (hl : l.length ≤ 10 * big) (i : Nat) (hp : p + i < l.length) :
  IntKind.wrap .i64 ((p : Int) + (i : Int)) = ((p + i : Nat) : Int) := by
 unfold big at hl
 rw [wrap64 (by omega) (by omega)]; simp
theorem btGet (i : Nat) : ((List.getD (Array.toList (ByteArray.data (B l))) (p + i) 0).toNat : Int) = (bt l p i : Nat) := rfl
def nOf (b0 : Nat) : Nat := if 194 ≤ b0 ∧ b0 ≤ 223 then 2 else if 224 ≤ b0 ∧ b0 ≤ 239 then 3 else if 240 ≤ b0 ∧ b0 ≤ 244 then 4 else 0
theorem nOf_cases (b0 : Nat) : (nOf b0 = 2 ∧ 194 ≤ b0 ∧ b0 ≤ 223) ∨ (nOf b0 = 3 ∧ 224 ≤ b0 ∧ b0 ≤ 239) ∨ (nOf b0 = 4 ∧ 240 ≤ b0 ∧ b0 ≤ 244) ∨ (nOf b0 = 0 ∧ ¬ (194 ≤ b0 ∧ b0 ≤ 244)) := by
 unfold nOf
 repeat' split
 all_goals omega
theorem wide_short (h : l.length - p < nOf (bt l p 0) ∨ nOf (bt l p 0) = 0) : wideM l p = 0 := by
 have := nOf_cases (bt l p 0)
 unfold wideM wideC
 repeat' split
 all_goals omega
theorem wide_bad {i : Nat} (h1 : 1 ≤ i) (h2 : i < nOf (bt l p 0)) (h : bt l p i < 128 ∨ 191 < bt l p i) : wideM l p = 0 := by
 have := nOf_cases (bt l p 0)
 have hi : i = 1 ∨ i = 2 ∨ i = 3 := by omega
 unfold wideM wideC
 rcases hi with rfl | rfl | rfl <;> repeat' split
 all_goals omega
theorem wideC_no {a b0 b1 b2 b3 : Nat} (h : (b0 = 224 ∧ b1 < 160) ∨ (b0 = 237 ∧ 159 < b1) ∨ (b0 = 240 ∧ b1 < 144) ∨ (b0 = 244 ∧ 143 < b1)) : wideC a b0 b1 b2 b3 = 0 := by
 unfold wideC
 repeat' split
 all_goals omega
theorem wideC_yes {a n b0 b1 b2 b3 : Nat} (hcs : (n = 2 ∧ 194 ≤ b0 ∧ b0 ≤ 223) ∨ (n = 3 ∧ 224 ≤ b0 ∧ b0 ≤ 239) ∨ (n = 4 ∧ 240 ≤ b0 ∧ b0 ≤ 244)) (ha : n ≤ a) (hc1 : 128 ≤ b1 ∧ b1 ≤ 191) (hc2 : 2 < n → 128 ≤ b2 ∧ b2 ≤ 191) (hc3 : 3 < n → 128 ≤ b3 ∧ b3 ≤ 191)
  (k1 : ¬ (b0 = 224 ∧ b1 < 160)) (k2 : ¬ (b0 = 237 ∧ 159 < b1)) (k3 : ¬ (b0 = 240 ∧ b1 < 144)) (k4 : ¬ (b0 = 244 ∧ 143 < b1)) : wideC a b0 b1 b2 b3 = n := by
 unfold wideC
 rcases hcs with ⟨rfl, g1, g2⟩ | ⟨rfl, g1, g2⟩ | ⟨rfl, g1, g2⟩
 ·rw [if_pos ⟨g1, g2⟩, if_pos ⟨ha, hc1⟩]
 ·rw [if_neg (by omega), if_pos ⟨g1, g2⟩, if_pos ⟨ha, hc1, hc2 (by omega), k1, k2⟩]
 ·rw [if_neg (by omega), if_neg (by omega), if_pos ⟨g1, g2⟩, if_pos ⟨ha, hc1, hc2 (by omega), hc3 (by omega), k3, k4⟩]
theorem w16 (hl : l.length ≤ 10 * big) (hn : nOf (bt l p 0) ≠ 0) (hp : p + nOf (bt l p 0) ≤ l.length) (hc : ∀ i, 1 ≤ i → i < nOf (bt l p 0) → 128 ≤ bt l p i ∧ bt l p i ≤ 191) (h : Post (.int .i64 (wideM l p : Nat)) []) :
  AWP Tryz.prog 96 0 c182_16 [(0, .str (B l)), (1, .int .i64 p), (5, .int .i64 (nOf (bt l p 0) : Nat)), (6, .int .i64 (bt l p 0 : Nat))] [] (q182_0 0 Post) := by
 have hcs := nOf_cases (bt l p 0)
 have h256 := bt_lt l p 1
 have e1 : IntKind.wrap .i64 ((p : Int) + 1) = ((p + 1 : Nat) : Int) := by unfold big at hl; rw [wrap64 (by omega) (by omega)]; simp
 have hc1 := hc 1 (by omega) (by omega)
 have hc2 : 2 < nOf (bt l p 0) → 128 ≤ bt l p 2 ∧ bt l p 2 ≤ 191 := hc 2 (by omega)
 have hc3 : 3 < nOf (bt l p 0) → 128 ≤ bt l p 3 ∧ bt l p 3 ≤ 191 := hc 3 (by omega)
 have hcs3 : (nOf (bt l p 0) = 2 ∧ 194 ≤ bt l p 0 ∧ bt l p 0 ≤ 223) ∨ (nOf (bt l p 0) = 3 ∧ 224 ≤ bt l p 0 ∧ bt l p 0 ≤ 239) ∨ (nOf (bt l p 0) = 4 ∧ 240 ≤ bt l p 0 ∧ bt l p 0 ≤ 244) := by omega
 have fin0 : (bt l p 0 = 224 ∧ bt l p 1 < 160) ∨ (bt l p 0 = 237 ∧ 159 < bt l p 1) ∨ (bt l p 0 = 240 ∧ bt l p 1 < 144) ∨ (bt l p 0 = 244 ∧ 143 < bt l p 1) → Post (.int .i64 0) [] := by
  intro hh
  have := wideC_no (a := l.length - p) (b2 := bt l p 2) (b3 := bt l p 3) hh
  unfold wideM at h
  rw [this] at h
  exact h
 have finn : ¬ (bt l p 0 = 224 ∧ bt l p 1 < 160) → ¬ (bt l p 0 = 237 ∧ 159 < bt l p 1) → ¬ (bt l p 0 = 240 ∧ bt l p 1 < 144) → ¬ (bt l p 0 = 244 ∧ 143 < bt l p 1) → Post (.int .i64 (nOf (bt l p 0) : Nat)) [] := by
  intro k1 k2 k3 k4
  have := wideC_yes (a := l.length - p) (b2 := bt l p 2) (b3 := bt l p 3) hcs3 (by omega) hc1 hc2 hc3 k1 k2 k3 k4
  unfold wideM at h
  rw [this] at h
  exact h
 have hn2 : 2 ≤ nOf (bt l p 0) := by omega
 clear hc hcs hcs3 hc2 hc3 h
 refine v182_16 _ _ _ _ _ _ ?_
 rw [e1, Int.toNat_natCast, btGet 1, wrapN (n := bt l p 1) (by omega)]
 refine needJ ⟨by omega, by rw [B_size]; omega⟩ ?_
 generalize nOf (bt l p 0) = n at *
 generalize bt l p 0 = b0 at *
 generalize bt l p 1 = b1 at *
 repeat' (first | refine condD (fun _ => ?_) fun _ => ?_ | refine condE (fun _ => ?_) fun _ => ?_)
 all_goals first
  | exact fin0 (by omega)
  | exact finn (by omega) (by omega) (by omega) (by omega)
theorem w12 (hl : l.length ≤ 10 * big) (hn : nOf (bt l p 0) ≠ 0) (hp : p + nOf (bt l p 0) ≤ l.length) (h : Post (.int .i64 (wideM l p : Nat)) []) :
  ∀ (m i : Nat), m + i = nOf (bt l p 0) → 1 ≤ i → (∀ j, 1 ≤ j → j < i → 128 ≤ bt l p j ∧ bt l p j ≤ 191) →
  AWP Tryz.prog 96 0 c182_12 [(0, .str (B l)), (1, .int .i64 p), (5, .int .i64 (nOf (bt l p 0) : Nat)), (6, .int .i64 (bt l p 0 : Nat)), (7, .int .i64 i)] [] (q182_2 0 Post) := by
 have hcs := nOf_cases (bt l p 0)
 intro m
 induction m with
 | zero =>
  intro i hm h1 hc
  refine v182_12 _ _ _ _ _ _ _ (condD (fun hi => by omega) fun _ => w16 hl hn hp (fun j a b => hc j a (by omega)) h)
 | succ m ih =>
  intro i hm h1 hc
  have e1 := btInt (p := p) hl i (by omega)
  refine v182_12 _ _ _ _ _ _ _ (condD (fun hi => ?_) fun hi => by omega)
  rw [e1, Int.toNat_natCast, btGet i]
  refine needJ ⟨by omega, by rw [B_size]; omega⟩ (condD (fun hb => ?_) fun hb => needJ ⟨by omega, by rw [B_size]; omega⟩ (condD (fun hb2 => ?_) fun hb2 => ?_))
  ·rw [wide_bad (l := l) (p := p) h1 (by omega) (.inl (by omega))] at h; exact h
  ·rw [wide_bad (l := l) (p := p) h1 (by omega) (.inr (by omega))] at h; exact h
  ·rw [show IntKind.wrap .i64 ((i : Int) + 1) = ((i + 1 : Nat) : Int) by rw [wrap64 (by omega) (by omega)]; simp]
   refine ih (i + 1) (by omega) (by omega) (fun j a b => ?_)
   by_cases e : j = i
   ·subst e; omega
   ·exact hc j a (by omega)
theorem w9 (hl : l.length ≤ 10 * big) (hp : p < l.length) (h : Post (.int .i64 (wideM l p : Nat)) []) :
  AWP Tryz.prog 96 0 c182_9 [(0, .str (B l)), (1, .int .i64 p), (5, .int .i64 (nOf (bt l p 0) : Nat)), (6, .int .i64 (bt l p 0 : Nat))] [] (q182_0 0 Post) := by
 have hcs := nOf_cases (bt l p 0)
 have hl' := hl
 unfold big at hl'
 refine v182_9 _ _ _ _ _ _ (condE (fun e => ?_) fun e => ?_)
 ·rw [wide_short (l := l) (p := p) (.inr (by omega))] at h; exact h
 rw [B_size, wrap64 (x := (l.length : Int) - (p : Int)) (by omega) (by omega)]
 refine condD (fun e2 => ?_) fun e2 => ?_
 ·rw [wide_short (l := l) (p := p) (.inl (by omega))] at h; exact h
 ·refine v182_11 _ _ _ _ _ _ ?_
  exact w12 hl (by omega) (by omega) h (nOf (bt l p 0) - 1) 1 (by omega) (by omega) (fun j a b => by omega)
theorem wide_spec0 (hl : l.length ≤ 10 * big) (hp : p < l.length) : ASpec Tryz.prog 182 [.str (B l), .int .i64 p] [] (fun r H' => r = .int .i64 (wideM l p : Nat) ∧ H' = []) := by
 have h256 := bt_lt l p 0
 have hcs := nOf_cases (bt l p 0)
 have k9 : ∀ n : Int, n = (nOf (bt l p 0) : Nat) → AWP Tryz.prog 96 0 c182_9 [(0, .str (B l)), (1, .int .i64 p), (5, .int .i64 n), (6, .int .i64 (bt l p 0 : Nat))] [] (q182_0 0 (fun r H' => r = .int .i64 (wideM l p : Nat) ∧ H' = [])) := by
  intro n e; subst e; exact w9 hl hp ⟨rfl, rfl⟩
 refine s182 _ _ _ (needJ ⟨by omega, by rw [B_size]; omega⟩ ?_)
 rw [Int.toNat_natCast, show ((List.getD (Array.toList (ByteArray.data (B l))) p 0).toNat : Int) = (bt l p 0 : Nat) from rfl, wrapN (n := bt l p 0) (by omega)]
 generalize nOf (bt l p 0) = n at *
 generalize bt l p 0 = b0 at *
 have k7 : ∀ m : Int, m = (if 240 ≤ b0 ∧ b0 ≤ 244 then m else (n : Int)) → AWP Tryz.prog 96 0 c182_7 [(0, .str (B l)), (1, .int .i64 p), (5, .int .i64 m), (6, .int .i64 (b0 : Nat))] [] (q182_0 0 (fun r H' => r = .int .i64 (wideM l p : Nat) ∧ H' = [])) := by
  intro m hm
  refine v182_7 _ _ _ _ _ _ (condD (fun _ => condD (fun _ => k9 _ (by omega)) fun _ => k9 _ ?_) fun _ => k9 _ ?_)
  ·rw [if_neg (by omega)] at hm; exact hm
  ·rw [if_neg (by omega)] at hm; exact hm
 have k5 : ∀ m : Int, m = (if 224 ≤ b0 ∧ b0 ≤ 244 then m else (n : Int)) → AWP Tryz.prog 96 0 c182_5 [(0, .str (B l)), (1, .int .i64 p), (5, .int .i64 m), (6, .int .i64 (b0 : Nat))] [] (q182_0 0 (fun r H' => r = .int .i64 (wideM l p : Nat) ∧ H' = [])) := by
  intro m hm
  refine v182_5 _ _ _ _ _ _ (condD (fun _ => condD (fun _ => k7 _ ?_) fun _ => k7 _ ?_) fun _ => k7 _ ?_)
  ·rw [if_neg (by omega)]; omega
  ·split
   ·rfl
   ·rw [if_neg (by omega)] at hm; exact hm
  ·split
   ·rfl
   ·rw [if_neg (by omega)] at hm; exact hm
 refine condD (fun _ => condD (fun _ => k5 _ ?_) fun _ => k5 _ ?_) fun _ => k5 _ ?_
 ·rw [if_neg (by omega)]; omega
 ·split
  ·rfl
  ·omega
 ·split
  ·rfl
  ·omega
theorem wide_spec (hl : l.length ≤ 10 * big) (hp : p < l.length) (H : List AObj) : ASpec Tryz.prog 182 [.str (B l), .int .i64 p] H (fun r H' => r = .int .i64 (wideM l p : Nat) ∧ H' = H) :=
 ASpec.pureH H (wide_spec0 hl hp) _ _ rfl rfl
end
end S
end

noncomputable section
open Go Go.Ab Go.Proofs V
namespace S
theorem condBn {b : Bool} {A C : Prop} (h1 : b = false → A) (h2 : b = true → C) : condP (!b) A C := by cases b <;> simp_all [condP]
section
variable {l : List UInt8} {p : Nat}
def foldx (l : List UInt8) (p : Nat) : Nat → Nat → Nat → Nat
 | 0, _, x => x
 | m + 1, i, x => foldx l p m (i + 1) (x * 64 + bt l p i % 64)
theorem u12 {Post : AV → List AObj → Prop} (hl : l.length ≤ 10 * big) {n : Nat} (hn : n ≤ 4) (hp : p + n ≤ l.length) : ∀ (m i x : Nat), m + i = n → x < 64 ^ i → Post (.tup [.int .i64 (foldx l p m i x : Nat), .int .i64 n]) [] →
  AWP Tryz.prog 58 0 c138_12 [(0, .str (B l)), (1, .int .i64 p), (6, .int .i64 n), (7, .int .i64 x), (8, .int .i64 i)] [] (q138_2 0 Post) := by
 intro m
 induction m with
 | zero =>
  intro i x hm hx h
  exact v138_12 _ _ _ _ _ _ _ (condD (fun hi => by omega) fun _ => h)
 | succ m ih =>
  intro i x hm hx h
  have e1 := btInt (p := p) hl i (by omega)
  have h256 := bt_lt l p i
  have h4 : (64 : Nat) ^ i ≤ 64 ^ 4 := Nat.pow_le_pow_right (by omega) (by omega)
  have e4 : (64 : Nat) ^ 4 = 16777216 := by decide
  have hn := ih (i + 1) (x * 64 + bt l p i % 64) (by omega) (by rw [Nat.pow_succ]; omega) h
  refine v138_12 _ _ _ _ _ _ _ (condD (fun hi => ?_) fun hi => by omega)
  rw [e1, Int.toNat_natCast, btGet i]
  refine needJ ⟨by omega, by rw [B_size]; omega⟩ (needJ (by decide) ?_)
  generalize bt l p i = b at h256 hn ⊢
  have m64 : Int.tmod (b : Int) 64 = ((b % 64 : Nat) : Int) := tmodN b 64
  rw [wrapN (n := b) (by omega), m64, wrap64 (x := (x : Int) * 64) (by omega) (by omega), wrap64 (x := (x : Int) * 64 + ((b % 64 : Nat) : Int)) (by omega) (by omega)]
  rw [show IntKind.wrap .i64 ((i : Int) + 1) = ((i + 1 : Nat) : Int) by rw [wrap64 (by omega) (by omega)]; simp]
  rw [show (x : Int) * 64 + ((b % 64 : Nat) : Int) = ((x * 64 + b % 64 : Nat) : Int) by simp]
  exact hn
theorem rune_spec0 (hl : l.length ≤ 10 * big) (hp : p < l.length) :
  ASpec Tryz.prog 138 [.str (B l), .int .i64 p] [] (fun r H' => r = .tup [.int .i64 ((runeM l p).1 : Nat), .int .i64 ((runeM l p).2 : Nat)] ∧ H' = []) := by
 have h256 := bt_lt l p 0
 have hin : (0 : Int) ≤ (p : Int) ∧ (p : Int) < ((B l).size : Int) := ⟨by omega, by rw [B_size]; omega⟩
 have hcs := wideM_cases l p
 have hR : runeM l p = runeC (wideM l p) (bt l p 0) (bt l p 1) (bt l p 2) (bt l p 3) := rfl
 refine s138 _ _ _ (needJ hin ?_)
 rw [Int.toNat_natCast, show ((List.getD (Array.toList (ByteArray.data (B l))) p 0).toNat : Int) = (bt l p 0 : Nat) from rfl, wrapN (n := bt l p 0) (by omega)]
 have m32 : Int.tmod (bt l p 0 : Nat) 32 = ((bt l p 0 % 32 : Nat) : Int) := tmodN _ 32
 have m16 : Int.tmod (bt l p 0 : Nat) 16 = ((bt l p 0 % 16 : Nat) : Int) := tmodN _ 16
 have m8 : Int.tmod (bt l p 0 : Nat) 8 = ((bt l p 0 % 8 : Nat) : Int) := tmodN _ 8
 refine condD (fun hc => needJ hin ?_) fun hc => ?_
 ·rw [hR, runeC, if_pos (by omega)]
  exact ⟨rfl, rfl⟩
 refine ASpec.call (wide_spec hl hp []) (Les.refl _) ⟨_, rfl, rfl, condE (fun h0 => ?_) fun h0 => needJ hin (needJ (by decide) ?_)⟩
 ·rw [hR, runeC, if_neg (by omega), if_pos (by omega)]
  exact ⟨rfl, rfl⟩
 have key : ∀ (n x0 : Nat), n = wideM l p → x0 < 64 → foldx l p (n - 1) 1 x0 = (runeM l p).1 → n = (runeM l p).2 →
   AWP Tryz.prog 58 0 c138_11 [(0, .str (B l)), (1, .int .i64 p), (6, .int .i64 n), (7, .int .i64 x0)] [] (q138_0 0 (fun r H' => r = .tup [.int .i64 ((runeM l p).1 : Nat), .int .i64 ((runeM l p).2 : Nat)] ∧ H' = [])) := by
  intro n x0 hn hx e1 e2
  refine v138_11 _ _ _ _ _ _ (u12 hl (n := n) (by omega) (by omega) (n - 1) 1 x0 (by omega) hx ?_)
  rw [e1, e2]
  exact ⟨rfl, rfl⟩
 refine condE (fun h3 => needJ hin (needJ (by decide) ?_)) fun h3 => ?_
 ·have hw : wideM l p = 3 := by omega
  rw [m16]
  refine v138_9 _ _ _ _ _ _ (condE (fun h => by omega) fun _ => key _ _ rfl (by omega) ?_ ?_)
  ·rw [hR, runeC, if_neg (by omega), if_neg (by omega), if_neg (by omega), if_pos hw, hw]; rfl
  ·rw [hR, runeC, if_neg (by omega), if_neg (by omega), if_neg (by omega), if_pos hw, hw]
 ·rw [m32]
  refine v138_9 _ _ _ _ _ _ (condE (fun h => needJ hin (needJ (by decide) ?_)) fun h => key _ _ rfl (by omega) ?_ ?_)
  ·have hw : wideM l p = 4 := by omega
   rw [Int.toNat_natCast, show ((List.getD (Array.toList (ByteArray.data (B l))) p 0).toNat : Int) = (bt l p 0 : Nat) from rfl, wrapN (n := bt l p 0) (by omega), m8]
   refine key _ _ rfl (by omega) ?_ ?_
   ·rw [hR, runeC, if_neg (by omega), if_neg (by omega), if_neg (by omega), if_neg (by omega), hw]; rfl
   ·rw [hR, runeC, if_neg (by omega), if_neg (by omega), if_neg (by omega), if_neg (by omega), hw]
  ·have hw : wideM l p = 2 := by omega
   rw [hR, runeC, if_neg (by omega), if_neg (by omega), if_pos hw, hw]; rfl
  ·have hw : wideM l p = 2 := by omega
   rw [hR, runeC, if_neg (by omega), if_neg (by omega), if_pos hw, hw]
theorem rune_spec (hl : l.length ≤ 10 * big) (hp : p < l.length) (H : List AObj) :
  ASpec Tryz.prog 138 [.str (B l), .int .i64 p] H (fun r H' => r = .tup [.int .i64 ((runeM l p).1 : Nat), .int .i64 ((runeM l p).2 : Nat)] ∧ H' = H) :=
 ASpec.pureH H (rune_spec0 hl hp) _ _ rfl rfl
def runesF : Nat → List UInt8 → Nat → List Int
 | 0, _, _ => []
 | f + 1, l, p => if p < l.length then ((runeM l p).1 : Int) :: runesF f l (p + (runeM l p).2) else []
def runesM (l : List UInt8) : List Int := runesF l.length l 0
theorem leAppI {l : List Int} {x : Int} {H : List AObj} : Le (.sl 1 (.app (.map encI 0 l) (.raw [[.int .i64 x]])) (.tok 1)) (AV.ren (selR [1] H.length) (.sl 1 (.map encI 0 (l ++ [x])) (.tok 0))) := by
 refine Le.sl ?_ (.inl rfl) (.inl rfl)
 simp [Ab.Seq.toList, Seq.ren, encI, renL, AV.ren]
theorem runes3 {Post : AV → List AObj → Prop} (hl : l.length ≤ 1000000) : ∀ (f p : Nat) (acc : List Int), l.length - p ≤ f → acc.length ≤ p → p ≤ l.length + 4 → Post (.sl 1 (.map encI 0 (acc ++ runesF f l p)) (.tok 0)) [.tok] →
  AWP Tryz.prog 25 0 c91_3 [(0, .str (B l)), (3, .sl 1 (.map encI 0 acc) (.tok 0)), (4, .int .i64 p)] [.tok] (q91_2 0 Post) := by
 intro f
 induction f with
 | zero =>
  intro p acc hf ha hp h
  refine v91_3 _ _ _ _ _ (condD (fun hc => by rw [B_size] at hc; omega) fun _ => ?_)
  simpa [runesF] using h
 | succ f ih =>
  intro p acc hf ha hp h
  refine v91_3 _ _ _ _ _ (condD (fun hc => ?_) fun hc => ?_)
  ·rw [B_size] at hc
   have hpl : p < l.length := by omega
   have hw := runeM_width l p
   refine ASpec.call (rune_spec (by unfold big; omega) hpl _) (Les.refl _) ⟨(((runeM l p).1 : Int), ((runeM l p).2 : Int)), rfl, rfl, needJ (by omega) ?_⟩
   rw [show IntKind.wrap .i64 ((p : Int) + ((runeM l p).2 : Int)) = ((p + (runeM l p).2 : Nat) : Int) by rw [wrap64 (by omega) (by omega)]; simp]
   refine AWP.shape [1] [(0, .str (B l)), (3, .sl 1 (.map encI 0 (acc ++ [((runeM l p).1 : Int)])) (.tok 0)), (4, .int .i64 (p + (runeM l p).2 : Nat))] _ selTok ⟨rfl, Le.refl _, rfl, leAppI, rfl, Le.refl _, trivial⟩ (ih (p + (runeM l p).2) (acc ++ [((runeM l p).1 : Int)]) (by omega) (by simp; omega) (by omega) ?_)
   simp only [runesF, if_pos hpl] at h
   simpa using h
  ·rw [B_size] at hc
   simp only [runesF, if_neg (show ¬ p < l.length by omega)] at h
   simpa using h
theorem runes_spec (hl : l.length ≤ 1000000) (H : List AObj) : ASpec Tryz.prog 91 [.str (B l)] H (fun r H' => r = .sl 1 (.map encI 0 (runesM l)) .none ∧ H' = H) := by
 have k : ASpec Tryz.prog 91 [.str (B l)] [] (fun r H' => r = .sl 1 (.map encI 0 (runesM l)) .none ∧ H' = []) := by
  refine ASpec.sel (s91 _ _ ?_)
  refine AWP.re (ReSt.tok (k := 3) (q' := .map encI 0 []) (sz' := 1) (s2 := [(0, .str (B l)), (3, .sl 1 (.map encI 0 []) (.tok 0)), (4, .int .i64 0)]) rfl (.inl rfl) rfl (.inr rfl) (fun d hd => ?_) rfl) ?_
  ·simp only [Ab.get]
   have e : Nat.beq 3 d = false := by
    cases hx : Nat.beq 3 d with
    | false => rfl
    | true => exact absurd (Nat.eq_of_beq_eq_true hx).symm hd
   rw [e]; rfl
  ·refine runes3 hl l.length 0 [] (by omega) (by simp) (by omega) ?_
   refine ⟨[], [], .sl 1 (.map encI 0 (runesM l)) .none, Sel.none, ?_, rfl, rfl⟩
   exact Le.sl (s' := Seq.ren _ (.map encI 0 (runesM l))) (by simp [Ab.Seq.toList, Seq.ren, encI, renL, AV.ren, runesM]) (.inl rfl) (.inr rfl)
 exact ASpec.pureH H k _ _ rfl rfl
def fitF (n : Nat) : List Int → Bool
 | [] => decide (0 < n)
 | c :: r => if 3 < kindM c ∨ (n = 0 ∧ 1 < kindM c) ∨ n = 12 then false else fitF (n + 1) r
def fitM (l : List UInt8) : Bool := fitF 0 (runesM l)
theorem fit3 {Post : AV → List AObj → Prop} (hl : l.length ≤ 10 * big) : ∀ (f p n : Nat), l.length - p ≤ f → n ≤ 12 → (∀ q, Post (.bool (fitF n (runesF f l p))) [.siter (B l) q]) →
  AWP Tryz.prog 32 0 c51_3 [(3, .int .i64 n), (8, .ptr 0 0)] [.siter (B l) p] (q51_2 0 Post) := by
 intro f
 induction f with
 | zero =>
  intro p n hf hn h
  refine v51_3 _ _ _ _ _ (condD (fun hc => by rw [B_size] at hc; omega) fun _ => ?_)
  have := h p
  simp only [runesF, fitF] at this
  rw [show decide ((n : Int) > 0) = decide (0 < n) from decide_eq_decide.2 (by omega)]
  exact this
 | succ f ih =>
  intro p n hf hn h
  refine v51_3 _ _ _ _ _ (condD (fun hc => ?_) fun hc => ?_)
  ·rw [B_size] at hc
   rw [decode_eq l p hc]
   have hw := runeM_width l p
   simp only [runesF, if_pos hc, fitF] at h
   refine ASpec.call (kind_spec _ _) (Les.refl _) ⟨_, rfl, rfl, ?_⟩
   generalize kindM ((runeM l p).1 : Nat) = k at h ⊢
   have no : (3 < k ∨ (n = 0 ∧ 1 < k) ∨ n = 12) → Post (.bool false) [.siter (B l) (p + (runeM l p).2)] := by
    intro hh
    have := h (p + (runeM l p).2)
    rw [if_pos hh] at this
    exact this
   have yes : ¬ (3 < k ∨ (n = 0 ∧ 1 < k) ∨ n = 12) → AWP Tryz.prog 32 0 c51_3 [(3, .int .i64 (IntKind.wrap .i64 ((n : Int) + 1))), (8, .ptr 0 0)] [.siter (B l) (p + (runeM l p).2)] (q51_2 0 Post) := by
    intro hh
    rw [show IntKind.wrap .i64 ((n : Int) + 1) = ((n + 1 : Nat) : Int) by rw [wrap64 (by omega) (by omega)]; simp]
    refine ih (p + (runeM l p).2) (n + 1) (by omega) (by omega) (fun q => ?_)
    have := h q
    rw [if_neg hh] at this
    exact this
   refine condD (fun h1 => no (.inl h1)) fun h1 => condE (fun h2 => condD (fun h3 => no (.inr (.inl ⟨by omega, h3⟩))) fun h3 => condE (fun h4 => no (.inr (.inr (by omega)))) fun h4 => yes (by omega)) fun h2 => condE (fun h4 => no (.inr (.inr (by omega)))) fun h4 => yes (by omega)
  ·rw [B_size] at hc
   have := h p
   simp only [runesF, if_neg hc, fitF] at this
   rw [show decide ((n : Int) > 0) = decide (0 < n) from decide_eq_decide.2 (by omega)]
   exact this
theorem fit_spec (hl : l.length ≤ 10 * big) (H : List AObj) : ASpec Tryz.prog 51 [.str (B l)] H (fun r H' => r = .bool (fitM l) ∧ H' = H) := by
 have k : ASpec Tryz.prog 51 [.str (B l)] [] (fun r H' => r = .bool (fitM l) ∧ H' = []) := by
  refine ASpec.sel (s51 _ _ (fit3 hl l.length 0 0 (by omega) (by omega) (fun q => ⟨[], [], .bool (fitM l), Sel.none, Le.refl _, rfl, rfl⟩)))
 exact ASpec.pureH H k _ _ rfl rfl
theorem fitF_short (hl : True) : ∀ (f p n : Nat), l.length - p ≤ f → n ≤ 12 → fitF n (runesF f l p) = true → l.length - p ≤ 2 * (12 - n) := by
 intro f
 induction f with
 | zero => intro p n hf hn h; omega
 | succ f ih =>
  intro p n hf hn h
  by_cases hc : p < l.length
  ·simp only [runesF, if_pos hc, fitF] at h
   split at h
   ·cases h
   rename_i hh
   have hw := runeM_small (l := l) (p := p) (by omega)
   have := ih (p + (runeM l p).2) (n + 1) (by have := runeM_width l p; omega) (by omega) h
   omega
  ·omega
theorem fitM_short (h : fitM l = true) : l.length ≤ 24 := by
 have := fitF_short (l := l) trivial l.length 0 0 (by omega) (by omega) h
 omega
def fitD (i : Nat) : List Int → Bool
 | [] => true
 | c :: r => if kindM c = 4 ∨ (i = 0 ∧ 1 < kindM c) then false else fitD (i + 1) r
theorem fitF_fitD : ∀ (r : List Int) (i : Nat), i ≤ 12 → fitF i r = (fitD i r && decide (1 ≤ i + r.length) && decide (i + r.length ≤ 12))
 | [], i, hi => by
  simp only [fitF, fitD, List.length_nil, Nat.add_zero, Bool.true_and]
  rw [Bool.eq_iff_iff]; simp; omega
 | c :: r, i, hi => by
  have hk := kindM_range c
  simp only [fitF, fitD, List.length_cons]
  by_cases h1 : kindM c = 4 ∨ (i = 0 ∧ 1 < kindM c)
  ·rw [if_pos h1, if_pos (by omega)]; rfl
  ·rw [if_neg h1]
   by_cases h2 : i = 12
   ·rw [if_pos (by omega)]
    rw [Bool.eq_iff_iff]; simp; omega
   ·rw [if_neg (by omega), fitF_fitD r (i + 1) (by omega), show i + 1 + r.length = i + (r.length + 1) by omega]
theorem rfit5 {ls : List Int} {Post : AV → List AObj → Prop} (hl : ls.length ≤ 1000000) : ∀ (m i : Nat), m + i = ls.length → Post (.bool (fitD i (ls.drop i) && (decide (1 ≤ ls.length) && decide (ls.length ≤ 12)))) [] →
  AWP Tryz.prog 42 0 c41_5 [(3, .sl 1 (.map encI 0 ls) .none), (4, .int .i64 i)] [] (q41_2 0 Post) := by
 intro m
 induction m with
 | zero =>
  intro i hm h
  refine v41_5 _ _ _ _ (condD (fun hc => by omega) fun _ => ?_)
  rw [List.drop_eq_nil_of_le (by omega)] at h
  simp only [fitD, Bool.true_and] at h
  refine condD (fun h1 => ?_) fun h1 => ?_
  ·rw [decide_eq_true (show 1 ≤ ls.length by omega), Bool.true_and] at h
   rw [show decide ((ls.length : Int) ≤ 12) = decide (ls.length ≤ 12) from decide_eq_decide.2 (by omega)]
   exact h
  ·rw [decide_eq_false (show ¬ 1 ≤ ls.length by omega), Bool.false_and] at h
   exact h
 | succ m ih =>
  intro i hm h
  refine v41_5 _ _ _ _ (condD (fun hc => needJ ⟨by omega, by omega⟩ ?_) fun hc => by omega)
  rw [Int.toNat_natCast]
  have hg : ls.drop i = ls.getD i 0 :: ls.drop (i + 1) := by
   rw [List.drop_eq_getElem_cons (by omega)]
   simp [List.getD, List.getElem?_eq_getElem (show i < ls.length by omega)]
  rw [hg] at h
  simp only [fitD] at h
  generalize ls.getD i 0 = c at h ⊢
  have hn : ¬ (kindM c = 4 ∨ (i = 0 ∧ 1 < kindM c)) → AWP Tryz.prog 42 0 c41_5 [(3, .sl 1 (.map encI 0 ls) .none), (4, .int .i64 (IntKind.wrap .i64 ((i : Int) + 1)))] [] (q41_2 0 Post) := by
   intro hh
   rw [if_neg hh] at h
   rw [show IntKind.wrap .i64 ((i : Int) + 1) = ((i + 1 : Nat) : Int) by rw [wrap64 (by omega) (by omega)]; simp]
   exact ih (i + 1) (by omega) h
  have hy : (kindM c = 4 ∨ (i = 0 ∧ 1 < kindM c)) → Post (.bool false) [] := by
   intro hh
   rw [if_pos hh] at h
   simpa using h
  refine ASpec.call (rkind_spec c []) (Les.refl _) ⟨_, rfl, rfl, condE (fun h1 => hy (.inl h1)) fun h1 => condE (fun h2 => needJ ⟨by omega, by omega⟩ ?_) fun h2 => hn (by omega)⟩
  refine ASpec.call (rkind_spec c []) (Les.refl _) ⟨_, rfl, rfl, condD (fun h3 => hy (.inr ⟨by omega, h3⟩)) fun h3 => hn (by omega)⟩
theorem runesF_len : ∀ (f p : Nat), (runesF f l p).length ≤ f
 | 0, p => by simp [runesF]
 | f + 1, p => by
  simp only [runesF]
  split
  ·have := runesF_len f (p + (runeM l p).2)
   simp; omega
  ·simp
theorem rfit_spec (hl : l.length ≤ 10 * big) (H : List AObj) : ASpec Tryz.prog 41 [.str (B l)] H (fun r H' => r = .bool (fitM l) ∧ H' = H) := by
 have k : ASpec Tryz.prog 41 [.str (B l)] [] (fun r H' => r = .bool (fitM l) ∧ H' = []) := by
  refine s41 _ _ ?_
  rw [B_size]
  refine condD (fun h1 => ?_) fun h1 => ?_
  ·have : fitM l = false := by
    cases h : fitM l with
    | false => rfl
    | true => have := fitM_short h; omega
   rw [this]; exact ⟨rfl, rfl⟩
  ·have hlen := runesF_len (l := l) l.length 0
   refine ASpec.call (runes_spec (by omega) []) (Les.refl _) ⟨_, rfl, rfl, rfit5 (ls := runesM l) (by unfold runesM; omega) (runesM l).length 0 (by omega) ?_⟩
   unfold fitM
   rw [fitF_fitD _ 0 (by omega), List.drop_zero, Nat.zero_add, Bool.and_assoc]
   exact ⟨rfl, rfl⟩
 exact ASpec.pureH H k _ _ rfl rfl
end
end S
end

noncomputable section
open Go Go.Ab Go.Proofs V S T
namespace C
abbrev PB (c : Bool) : AV → List AObj → Prop := fun r H' => ∃ l H2 r2, Sel 0 l H' H2 ∧ Le r (AV.ren (selR l H'.length) r2) ∧ (r2 = .bool c ∧ H2 = [])
theorem pb {b c : Bool} {H' : List AObj} (h : b = c) : PB c (.bool b) H' := ⟨[], [], .bool c, Sel.none, h ▸ Le.refl _, rfl, rfl⟩
theorem dropD {α : Type} (l : List α) (d : α) (i : Nat) (h : i < l.length) : l.drop i = l.getD i d :: l.drop (i + 1) := by
 rw [List.drop_eq_getElem_cons h]
 simp [List.getD, List.getElem?_eq_getElem h]
theorem memD {α : Type} (l : List α) (d : α) (i : Nat) (h : i < l.length) : l.getD i d ∈ l := by
 simp [List.getD, List.getElem?_eq_getElem h]
theorem succ64 {i : Nat} (h : i ≤ 10000000) : IntKind.wrap .i64 ((i : Int) + 1) = ((i + 1 : Nat) : Int) := by rw [wrap64 (by omega) (by omega)]; simp
theorem pred64 {i : Nat} (h : i ≤ 10000000) (h1 : 0 < i) : IntKind.wrap .i64 ((i : Int) - 1) = ((i - 1 : Nat) : Int) := by rw [wrap64 (by omega) (by omega)]; omega
abbrev lim : Nat := 1000000
def chkS (e : Int) : List Span → Bool
 | [] => true
 | x :: r => if x.1 ≤ e ∨ x.2 ≤ x.1 ∨ 1000000000 < x.2 then false else chkS x.2 r
def spanOk (l : List Span) : Bool := chkS (-1) l
theorem chk3 {l : List Span} {c : Bool} (hl : l.length ≤ lim) : ∀ (m i : Nat) (e : Int), m + i = l.length → chkS e (l.drop i) = c →
  AWP Tryz.prog 31 0 c139_3 [(3, .int .i64 e), (6, .sl 2 (.map encS (0, 0) l) .none), (7, .int .i64 l.length), (8, .int .i64 i)] [] (q139_2 0 (PB c)) := by
 intro m
 induction m with
 | zero =>
  intro i e hm h
  refine v139_3 _ _ _ _ _ _ (condD (fun hc => by omega) fun _ => pb ?_)
  rw [List.drop_eq_nil_of_le (by omega)] at h
  exact h
 | succ m ih =>
  intro i e hm h
  rw [dropD l (0, 0) i (by omega)] at h
  simp only [chkS] at h
  refine v139_3 _ _ _ _ _ _ (condD (fun hc => needJ ⟨by omega, by omega⟩ ?_) fun hc => by omega)
  rw [Int.toNat_natCast]
  generalize l.getD i (0, 0) = x at h ⊢
  refine condD (fun h1 => pb ?_) fun h1 => condD (fun h2 => pb ?_) fun h2 => condD (fun h3 => pb ?_) fun h3 => ?_
  ·rw [if_pos (.inl h1)] at h; exact h
  ·rw [if_pos (.inr (.inl h2))] at h; exact h
  ·rw [if_pos (.inr (.inr h3))] at h; exact h
  ·rw [if_neg (by omega)] at h
   rw [succ64 (by unfold lim at hl; omega)]
   exact AWP.shape [] [(3, .int .i64 x.2), (6, .sl 2 (.map encS (0, 0) l) .none), (7, .int .i64 l.length), (8, .int .i64 (i + 1 : Nat))] [] Sel.none ⟨rfl, Le.refl _, rfl, Le.refl _, rfl, Le.refl _, rfl, Le.refl _, trivial⟩ (ih (i + 1) x.2 (by omega) h)
theorem spanCheck_spec (l : List Span) (hl : l.length ≤ lim) (H : List AObj) : ASpec Tryz.prog 139 [.sl 2 (.map encS (0, 0) l) .none] H (fun r H' => r = .bool (spanOk l) ∧ H' = H) :=
 ASpec.pureH H (ASpec.sel (s139 _ _ (chk3 hl l.length 0 (-1) (by omega) rfl))) _ _ rfl rfl
theorem rchk2 {l : List Span} {c : Bool} (hl : l.length ≤ lim) : ∀ (m i : Nat) (e : Int), m + i = l.length → (i = 0 → e = -1) → (0 < i → e = (l.getD (i - 1) (0, 0)).2 ∧ 0 ≤ e) → chkS e (l.drop i) = c →
  AWP Tryz.prog 55 0 c42_2 [(0, .sl 2 (.map encS (0, 0) l) .none), (3, .int .i64 i)] [] (q42_2 0 (PB c)) := by
 intro m
 induction m with
 | zero =>
  intro i e hm _ _ h
  refine v42_2 _ _ _ _ (condD (fun hc => by omega) fun _ => pb ?_)
  rw [List.drop_eq_nil_of_le (by omega)] at h
  exact h
 | succ m ih =>
  intro i e hm h0 he h
  have hin : (0 : Int) ≤ (i : Int) ∧ (i : Int) < (l.length : Int) := ⟨by omega, by omega⟩
  rw [dropD l (0, 0) i (by omega)] at h
  simp only [chkS] at h
  have hnext : ∀ x, x = l.getD i (0, 0) → ¬ (x.1 ≤ e ∨ x.2 ≤ x.1 ∨ 1000000000 < x.2) → AWP Tryz.prog 55 0 c42_2 [(0, .sl 2 (.map encS (0, 0) l) .none), (3, .int .i64 (IntKind.wrap .i64 ((i : Int) + 1)))] [] (q42_2 0 (PB c)) := by
   intro x hx hn
   rw [← hx, if_neg hn] at h
   rw [succ64 (by unfold lim at hl; omega)]
   have hge : -1 ≤ e := by
    rcases Nat.eq_zero_or_pos i with z | z
    ·have := h0 z; omega
    ·have := he z; omega
   exact ih (i + 1) x.2 (by omega) (fun hh => by omega) (fun _ => ⟨by rw [hx]; rfl, by omega⟩) h
  have hbad : ∀ x, x = l.getD i (0, 0) → (x.1 ≤ e ∨ x.2 ≤ x.1 ∨ 1000000000 < x.2) → PB c (.bool false) [] := by
   intro x hx hh
   rw [← hx, if_pos hh] at h
   exact pb h
  refine v42_2 _ _ _ _ (condD (fun hc => needJ hin ?_) fun hc => by omega)
  rw [Int.toNat_natCast]
  generalize hx : l.getD i (0, 0) = x at h ⊢
  refine condD (fun h1 => hbad x hx.symm (.inl ?_)) fun h1 => needJ hin (condD (fun h2 => hbad x hx.symm (.inr (.inr h2))) fun h2 => needJ hin (needJ hin (condD (fun h3 => hbad x hx.symm (.inr (.inl h3))) fun h3 => condD (fun h4 => needJ hin (needJ ?_ (condD (fun h5 => hbad x hx.symm (.inl ?_)) fun h5 => hnext x hx.symm ?_))) fun h4 => hnext x hx.symm ?_)))
  ·rcases Nat.eq_zero_or_pos i with z | z
   ·have := h0 z; omega
   ·have := he z; omega
  ·rw [pred64 (by unfold lim at hl; omega) (by omega)]; omega
  ·rw [pred64 (by unfold lim at hl; omega) (by omega), Int.toNat_natCast] at h5
   have := he (by omega); omega
  ·rw [pred64 (by unfold lim at hl; omega) (by omega), Int.toNat_natCast] at h5
   have := he (by omega); omega
  ·have := h0 (by omega); omega
theorem rspanCheck_spec (l : List Span) (hl : l.length ≤ lim) (H : List AObj) : ASpec Tryz.prog 42 [.sl 2 (.map encS (0, 0) l) .none] H (fun r H' => r = .bool (spanOk l) ∧ H' = H) :=
 ASpec.pureH H (ASpec.sel (s42 _ _ (rchk2 hl l.length 0 (-1) (by omega) (fun _ => rfl) (fun h => by omega) rfl))) _ _ rfl rfl
def leB (a b : List UInt8) : Bool := Op.bytesLess a b || a == b
def needsF (last : List UInt8) : List Need → Bool
 | [] => true
 | x :: r => if fitM x.1 = false ∨ leB x.1 last = true ∨ 6 < x.2.length ∨ spanOk x.2 = false then false else needsF x.1 r
def needOk (l : List Need) : Bool := needsF [] l && decide (l.length ≤ 6)
theorem fit_nil : fitM [] = false := rfl
theorem leB_nil {a : List UInt8} (h : fitM a = true) : leB a [] = false := by
 cases a with
 | nil => rw [fit_nil] at h; cases h
 | cons c a => simp [leB, Op.bytesLess]
def okN (l : List Need) : Prop := l.length ≤ lim ∧ ∀ n ∈ l, n.1.length ≤ lim ∧ n.2.length ≤ lim
theorem need3 {l : List Need} {c : Bool} (hl : okN l) : ∀ (m i : Nat) (last : List UInt8), m + i = l.length → (needsF last (l.drop i) && decide (l.length ≤ 6)) = c →
  AWP Tryz.prog 40 0 c213_3 [(0, .sl 2 (.map encN ([], []) l) .none), (3, .str (B last)), (6, .sl 2 (.map encN ([], []) l) .none), (7, .int .i64 l.length), (8, .int .i64 i)] [] (q213_2 0 (PB c)) := by
 obtain ⟨hl1, hl2⟩ := hl
 intro m
 induction m with
 | zero =>
  intro i last hm h
  refine v213_3 _ _ _ _ _ _ (condD (fun hc => by omega) fun _ => pb ?_)
  rw [List.drop_eq_nil_of_le (by omega)] at h
  simp only [needsF, Bool.true_and] at h
  rw [show decide ((l.length : Int) ≤ 6) = decide (l.length ≤ 6) from decide_eq_decide.2 (by omega)]
  exact h
 | succ m ih =>
  intro i last hm h
  have hx := hl2 _ (memD l ([], []) i (by omega))
  rw [dropD l ([], []) i (by omega)] at h
  simp only [needsF] at h
  refine v213_3 _ _ _ _ _ _ (condD (fun hc => needJ ⟨by omega, by omega⟩ ?_) fun hc => by omega)
  rw [Int.toNat_natCast]
  generalize l.getD i ([], []) = x at h hx ⊢
  have bad : ∀ {H' : List AObj}, (fitM x.1 = false ∨ leB x.1 last = true ∨ 6 < x.2.length ∨ spanOk x.2 = false) → PB c (.bool false) H' := by
   intro H' hh
   rw [if_pos hh] at h
   exact pb h
  refine ASpec.call (fit_spec (l := x.1) (by unfold big; unfold lim at hx; omega) _) (Les.refl _) ⟨_, rfl, rfl, condBn (fun h1 => bad (.inl h1)) fun h1 => ?_⟩
  rw [B_toList, B_toList]
  refine condB (fun h2 => bad (.inr (.inl h2))) fun h2 => condD (fun h3 => bad (.inr (.inr (.inl (by omega))))) fun h3 => ?_
  refine ASpec.call (spanCheck_spec x.2 hx.2 _) (Les.refl _) ⟨_, rfl, rfl, condBn (fun h4 => bad (.inr (.inr (.inr h4)))) fun h4 => ?_⟩
  have h2' : leB x.1 last = false := h2
  rw [if_neg (by rw [h1, h2', h4]; simp; omega)] at h
  rw [succ64 (by unfold lim at hl1; omega)]
  exact AWP.shape [] [(0, .sl 2 (.map encN ([], []) l) .none), (3, .str (B x.1)), (6, .sl 2 (.map encN ([], []) l) .none), (7, .int .i64 l.length), (8, .int .i64 (i + 1 : Nat))] [] Sel.none
   ⟨rfl, Le.refl _, rfl, Le.refl _, rfl, Le.refl _, rfl, Le.refl _, rfl, Le.refl _, trivial⟩ (ih (i + 1) x.1 (by omega) h)
theorem needCheck_spec (l : List Need) (hl : okN l) (H : List AObj) : ASpec Tryz.prog 213 [.sl 2 (.map encN ([], []) l) .none] H (fun r H' => r = .bool (needOk l) ∧ H' = H) :=
 ASpec.pureH H (ASpec.sel (s213 _ _ (need3 hl l.length 0 [] (by omega) rfl))) _ _ rfl rfl
theorem rneed2 {l : List Need} {c : Bool} (hl : okN l) : ∀ (m i : Nat) (last : List UInt8), m + i = l.length → (i = 0 → last = []) → (0 < i → last = (l.getD (i - 1) ([], [])).1) → (needsF last (l.drop i) && decide (l.length ≤ 6)) = c →
  AWP Tryz.prog 56 0 c10_2 [(0, .sl 2 (.map encN ([], []) l) .none), (3, .int .i64 i)] [] (q10_2 0 (PB c)) := by
 obtain ⟨hl1, hl2⟩ := hl
 intro m
 induction m with
 | zero =>
  intro i last hm _ _ h
  refine v10_2 _ _ _ _ (condD (fun hc => by omega) fun _ => pb ?_)
  rw [List.drop_eq_nil_of_le (by omega)] at h
  simp only [needsF, Bool.true_and] at h
  rw [show decide ((l.length : Int) ≤ 6) = decide (l.length ≤ 6) from decide_eq_decide.2 (by omega)]
  exact h
 | succ m ih =>
  intro i last hm h0 he h
  have hin : (0 : Int) ≤ (i : Int) ∧ (i : Int) < (l.length : Int) := ⟨by omega, by omega⟩
  have hx := hl2 _ (memD l ([], []) i (by omega))
  rw [dropD l ([], []) i (by omega)] at h
  simp only [needsF] at h
  have hnext : ¬ (fitM (l.getD i ([], [])).1 = false ∨ leB (l.getD i ([], [])).1 last = true ∨ 6 < (l.getD i ([], [])).2.length ∨ spanOk (l.getD i ([], [])).2 = false) →
    AWP Tryz.prog 56 0 c10_2 [(0, .sl 2 (.map encN ([], []) l) .none), (3, .int .i64 (IntKind.wrap .i64 ((i : Int) + 1)))] [] (q10_2 0 (PB c)) := by
   intro hn
   rw [if_neg hn] at h
   rw [succ64 (by unfold lim at hl1; omega)]
   exact ih (i + 1) _ (by omega) (fun hh => by omega) (fun _ => rfl) h
  have bad : (fitM (l.getD i ([], [])).1 = false ∨ leB (l.getD i ([], [])).1 last = true ∨ 6 < (l.getD i ([], [])).2.length ∨ spanOk (l.getD i ([], [])).2 = false) → PB c (.bool false) [] := by
   intro hh
   rw [if_pos hh] at h
   exact pb h
  refine v10_2 _ _ _ _ (condD (fun hc => needJ hin ?_) fun hc => by omega)
  rw [Int.toNat_natCast]
  clear h ih
  generalize l.getD i ([], []) = x at hx hnext bad ⊢
  refine ASpec.call (rfit_spec (l := x.1) (by unfold big; unfold lim at hx; omega) _) (Les.refl _) ⟨_, rfl, rfl, condBn (fun h1 => bad (.inl h1)) fun h1 => needJ hin ?_⟩
  refine ASpec.call (rspanCheck_spec x.2 hx.2 _) (Les.refl _) ⟨_, rfl, rfl, condBn (fun h2 => bad (.inr (.inr (.inr h2)))) fun h2 => needJ hin (condD (fun h3 => bad (.inr (.inr (.inl (by omega))))) fun h3 => condD (fun h4 => needJ hin ?_) fun h4 => hnext ?_)⟩
  ·rw [pred64 (by unfold lim at hl1; omega) (by omega), Int.toNat_natCast]
   refine needJ ⟨by omega, by omega⟩ ?_
   rw [← he (by omega), B_toList, B_toList]
   refine condB (fun h5 => bad (.inr (.inl h5))) fun h5 => hnext ?_
   have h5' : leB x.1 last = false := h5
   rw [h1, h2, h5']; simp; omega
  ·rw [h0 (by omega), h1, h2, leB_nil h1]; simp; omega
theorem rneedCheck_spec (l : List Need) (hl : okN l) (H : List AObj) : ASpec Tryz.prog 10 [.sl 2 (.map encN ([], []) l) .none] H (fun r H' => r = .bool (needOk l) ∧ H' = H) :=
 ASpec.pureH H (ASpec.sel (s10 _ _ (rneed2 hl l.length 0 [] (by omega) (fun _ => rfl) (fun h => by omega) rfl))) _ _ rfl rfl
def relF (e : Int) : List Rel → Bool
 | [] => true
 | x :: r => if x.1 ≤ e ∨ 1000000000 ≤ x.1 ∨ needOk x.2 = false then false else relF x.1 r
def manOk (m : Mani) : Bool := relF (-1) m.2 && (fitM m.1 && decide (m.2.length ≤ 8))
def okM (m : Mani) : Prop := m.1.length ≤ lim ∧ m.2.length ≤ lim ∧ ∀ r ∈ m.2, okN r.2
theorem mani3 {m : Mani} {c : Bool} (hl : okM m) : ∀ (k i : Nat) (e : Int), k + i = m.2.length → (relF e (m.2.drop i) && (fitM m.1 && decide (m.2.length ≤ 8))) = c →
  AWP Tryz.prog 40 0 c181_3 [(1, .ptr 0 0), (3, .int .i64 e), (7, .sl 2 (.map T.encR (0, []) m.2) .none), (8, .int .i64 m.2.length), (9, .int .i64 i)] [.cells (encM m)] (q181_2 0 (PB c)) := by
 obtain ⟨hl1, hl2, hl3⟩ := hl
 intro k
 induction k with
 | zero =>
  intro i e hm h
  refine v181_3 _ _ _ _ _ _ (condD (fun hc => by omega) fun _ => ?_)
  rw [List.drop_eq_nil_of_le (by omega)] at h
  simp only [relF, Bool.true_and] at h
  refine ASpec.call (fit_spec (l := m.1) (by unfold big; unfold lim at hl1; omega) _) (Les.refl _) ⟨_, rfl, rfl, condB (fun h1 => pb ?_) fun h1 => pb ?_⟩
  ·rw [h1, Bool.true_and] at h
   rw [show decide ((m.2.length : Int) ≤ 8) = decide (m.2.length ≤ 8) from decide_eq_decide.2 (by omega)]
   exact h
  ·rw [h1, Bool.false_and] at h
   exact h
 | succ k ih =>
  intro i e hm h
  have hx := hl3 _ (memD m.2 (0, []) i (by omega))
  rw [dropD m.2 (0, []) i (by omega)] at h
  simp only [relF] at h
  refine v181_3 _ _ _ _ _ _ (condD (fun hc => needJ ⟨by omega, by omega⟩ ?_) fun hc => by omega)
  rw [Int.toNat_natCast]
  generalize m.2.getD i (0, []) = x at h hx ⊢
  have bad : ∀ {H' : List AObj}, (x.1 ≤ e ∨ 1000000000 ≤ x.1 ∨ needOk x.2 = false) → PB c (.bool false) H' := by
   intro H' hh
   rw [if_pos hh] at h
   exact pb h
  refine condD (fun h1 => bad (.inl h1)) fun h1 => condD (fun h2 => bad (.inr (.inl h2))) fun h2 => ?_
  refine ASpec.call (needCheck_spec x.2 hx _) (Les.refl _) ⟨_, rfl, rfl, condBn (fun h3 => bad (.inr (.inr h3))) fun h3 => ?_⟩
  rw [if_neg (by rw [h3]; simp; omega)] at h
  rw [succ64 (by unfold lim at hl2; omega)]
  exact AWP.shape [0] [(1, .ptr 0 0), (3, .int .i64 x.1), (7, .sl 2 (.map T.encR (0, []) m.2) .none), (8, .int .i64 m.2.length), (9, .int .i64 (i + 1 : Nat))] [.cells (encM m)] (Sel.one 0 rfl rfl)
   ⟨rfl, Le.refl _, rfl, Le.refl _, rfl, Le.refl _, rfl, Le.refl _, rfl, Le.refl _, trivial⟩ (ih (i + 1) x.1 (by omega) h)
theorem maniCheck_spec (m : Mani) (hl : okM m) (H : List AObj) : ASpec Tryz.prog 181 [.agg (encM m)] H (fun r H' => r = .bool (manOk m) ∧ H' = H) :=
 ASpec.pureH H (ASpec.sel (s181 _ _ (mani3 hl m.2.length 0 (-1) (by omega) rfl))) _ _ rfl rfl
def largeNF : List Need → Bool
 | [] => false
 | x :: r => if 40 < x.2.length ∨ 100 < x.1.length then true else largeNF r
def largeN (l : List Need) : Bool := if 40 < l.length then true else largeNF l
theorem large4 {l : List Need} {c : Bool} (hl : l.length ≤ 40) : ∀ (m i : Nat), m + i = l.length → largeNF (l.drop i) = c →
  AWP Tryz.prog 29 0 c9_4 [(0, .sl 2 (.map encN ([], []) l) .none), (3, .int .i64 i)] [] (q9_2 0 (PB c)) := by
 intro m
 induction m with
 | zero =>
  intro i hm h
  refine v9_4 _ _ _ _ (condD (fun hc => by omega) fun _ => pb ?_)
  rw [List.drop_eq_nil_of_le (by omega)] at h
  exact h
 | succ m ih =>
  intro i hm h
  have hin : (0 : Int) ≤ (i : Int) ∧ (i : Int) < (l.length : Int) := ⟨by omega, by omega⟩
  rw [dropD l ([], []) i (by omega)] at h
  simp only [largeNF] at h
  refine v9_4 _ _ _ _ (condD (fun hc => needJ hin ?_) fun hc => by omega)
  rw [Int.toNat_natCast]
  generalize l.getD i ([], []) = x at h ⊢
  rw [B_size]
  refine condD (fun h1 => pb ?_) fun h1 => needJ hin (condD (fun h2 => pb ?_) fun h2 => ?_)
  ·rw [if_pos (by omega)] at h; exact h
  ·rw [if_pos (by omega)] at h; exact h
  ·rw [if_neg (by omega)] at h
   rw [succ64 (by omega)]
   exact ih (i + 1) (by omega) h
theorem largeN_spec (l : List Need) (H : List AObj) : ASpec Tryz.prog 9 [.sl 2 (.map encN ([], []) l) .none] H (fun r H' => r = .bool (largeN l) ∧ H' = H) := by
 have k : ASpec Tryz.prog 9 [.sl 2 (.map encN ([], []) l) .none] [] (fun r H' => r = .bool (largeN l) ∧ H' = []) := by
  refine ASpec.sel (s9 _ _ (condD (fun h => pb ?_) fun h => ?_))
  ·rw [largeN, if_pos (by omega)]
  ·refine large4 (by omega) l.length 0 (by omega) ?_
   rw [largeN, if_neg (by omega)]; rfl
 exact ASpec.pureH H k _ _ rfl rfl
theorem largeNF_ok : ∀ (l : List Need), largeNF l = false → ∀ n ∈ l, n.1.length ≤ 100 ∧ n.2.length ≤ 40
 | [], _, n, hn => by simp at hn
 | x :: r, h, n, hn => by
  simp only [largeNF] at h
  split at h
  ·cases h
  ·rcases List.mem_cons.1 hn with rfl | hn
   ·omega
   ·exact largeNF_ok r h n hn
theorem largeN_ok {l : List Need} (h : largeN l = false) : okN l := by
 unfold largeN at h
 split at h
 ·cases h
 ·refine ⟨by unfold lim; omega, fun n hn => ?_⟩
  have := largeNF_ok l h n hn
  unfold lim; omega
end C
end

noncomputable section
open Go Go.Ab Go.Proofs V S T C
namespace W
section
variable {Post : AV → List AObj → Prop}
abbrev sl1 (b : List UInt8) : AV := .sl 1 (.map encB 0 b) .none
abbrev slR (l : List Rel) : AV := .sl 2 (.map T.encR (0, []) l) .none
abbrev slN (l : List Need) : AV := .sl 2 (.map encN ([], []) l) .none
abbrev slS (l : List Span) : AV := .sl 2 (.map encS (0, 0) l) .none
end
end W
end

noncomputable section
open Go Go.Ab Go.Proofs V S T C
namespace W
def spanR (bs : List UInt8) (p : Nat) (e : Int) : Span × Nat × Int :=
 (((numM bs p e 1000000000).1, IntKind.wrap .i64 ((numM bs p e 1000000000).1 + (numM bs (numM bs p e 1000000000).2.1 (numM bs p e 1000000000).2.2 1000000000).1)),
  (numM bs (numM bs p e 1000000000).2.1 (numM bs p e 1000000000).2.2 1000000000).2)
def listR {α : Type} (one : Nat → Int → α × Nat × Int) : Nat → Nat → Int → List α × Nat × Int
 | 0, p, e => ([], p, e)
 | k + 1, p, e => if e = 0 then ((one p e).1 :: (listR one k (one p e).2.1 (one p e).2.2).1, (listR one k (one p e).2.1 (one p e).2.2).2) else ([], p, e)
def listM {α : Type} (one : Nat → Int → α × Nat × Int) (bs : List UInt8) (p : Nat) (e most : Int) : List α × Nat × Int :=
 listR one (numM bs p e most).1.toNat (numM bs p e most).2.1 (numM bs p e most).2.2
def needR (bs : List UInt8) (p : Nat) (e : Int) : Need × Nat × Int :=
 (((strM bs p e 24).1, (listM (spanR bs) bs (strM bs p e 24).2.1 (strM bs p e 24).2.2 6).1), (listM (spanR bs) bs (strM bs p e 24).2.1 (strM bs p e 24).2.2 6).2)
def relR (bs : List UInt8) (p : Nat) (e : Int) : Rel × Nat × Int :=
 (((numM bs p e 1000000000).1, (listM (needR bs) bs (numM bs p e 1000000000).2.1 (numM bs p e 1000000000).2.2 6).1), (listM (needR bs) bs (numM bs p e 1000000000).2.1 (numM bs p e 1000000000).2.2 6).2)
def maniR (bs : List UInt8) : Mani × Nat × Int :=
 (((strM bs 0 0 24).1, (listM (relR bs) bs (strM bs 0 0 24).2.1 (strM bs 0 0 24).2.2 8).1), (listM (relR bs) bs (strM bs 0 0 24).2.1 (strM bs 0 0 24).2.2 8).2)
def endM (m : Mani) (c : Int) : Mani × Int := if c ≠ 0 then (([], []), c) else if manOk m = true then (m, 0) else (([], []), 3)
def readM (bs : List UInt8) : Mani × Int :=
 if 8192 < bs.length then (([], []), 4) else endM (maniR bs).1 (closeM (maniR bs).2.2 (bs.length - (maniR bs).2.1))
theorem lookM_most (s : List UInt8) (most : Int) (h : 0 ≤ most) : (lookM s most).1 ≤ most := by
 cases s with
 | nil => simpa [lookM] using h
 | cons c s =>
  simp only [lookM]
  split
  ·exact h
  ·split
   ·exact h
   ·split
    ·exact h
    ·simp only; omega
theorem numM_most (bs : List UInt8) (p : Nat) (e most : Int) (h : 0 ≤ most) : 0 ≤ (numM bs p e most).1 ∧ (numM bs p e most).1 ≤ most := by
 unfold numM
 split
 ·exact ⟨Int.le_refl _, h⟩
 ·exact ⟨(lookM_le _ _).2.1, lookM_most _ _ h⟩
theorem numM_p {bs : List UInt8} {p : Nat} {e most : Int} (hp : p ≤ bs.length) : (numM bs p e most).2.1 ≤ bs.length := (num_doc bs p e most hp).2
theorem strM_p {bs : List UInt8} {p : Nat} {e most : Int} (hp : p ≤ bs.length) : (strM bs p e most).2.1 ≤ bs.length := (str_doc bs p e most hp).2
theorem strM_len (bs : List UInt8) (p : Nat) (e most : Int) (h : 0 ≤ most) : ((strM bs p e most).1.length : Int) ≤ most := by
 unfold strM
 have := lookM_most (bs.drop p) most h
 have h2 := (lookM_le (bs.drop p) most).2.1
 repeat' split
 all_goals (simp only [List.length_nil, List.length_take]; omega)
def Inside {α : Type} (bs : List UInt8) (one : Nat → Int → α × Nat × Int) : Prop := ∀ p e, p ≤ bs.length → (one p e).2.1 ≤ bs.length
theorem listR_p {α : Type} {bs : List UInt8} {one : Nat → Int → α × Nat × Int} (h : Inside bs one) : ∀ (k p : Nat) (e : Int), p ≤ bs.length → (listR one k p e).2.1 ≤ bs.length
 | 0, p, e, hp => hp
 | k + 1, p, e, hp => by
  simp only [listR]
  split
  ·exact listR_p h k _ _ (h p e hp)
  ·exact hp
theorem listM_p {α : Type} {bs : List UInt8} {one : Nat → Int → α × Nat × Int} (h : Inside bs one) {p : Nat} {e most : Int} (hp : p ≤ bs.length) : (listM one bs p e most).2.1 ≤ bs.length :=
 listR_p h _ _ _ (numM_p hp)
theorem listR_len {α : Type} (one : Nat → Int → α × Nat × Int) : ∀ (k p : Nat) (e : Int), (listR one k p e).1.length ≤ k
 | 0, p, e => by simp [listR]
 | k + 1, p, e => by
  simp only [listR]
  split
  ·have := listR_len one k (one p e).2.1 (one p e).2.2
   simp only [List.length_cons]; omega
  ·simp
theorem listM_len {α : Type} (one : Nat → Int → α × Nat × Int) (bs : List UInt8) (p : Nat) (e most : Int) (h : 0 ≤ most) : ((listM one bs p e most).1.length : Int) ≤ most := by
 have h1 := numM_most bs p e most h
 have h2 := listR_len one (numM bs p e most).1.toNat (numM bs p e most).2.1 (numM bs p e most).2.2
 unfold listM
 omega
theorem listR_all {α : Type} {one : Nat → Int → α × Nat × Int} {Q : α → Prop} (h : ∀ p e, Q (one p e).1) : ∀ (k p : Nat) (e : Int), ∀ x ∈ (listR one k p e).1, Q x
 | 0, p, e, x, hx => by simp [listR] at hx
 | k + 1, p, e, x, hx => by
  simp only [listR] at hx
  split at hx
  ·rcases List.mem_cons.1 hx with rfl | hx
   ·exact h p e
   ·exact listR_all h k _ _ x hx
  ·simp at hx
theorem spanR_p (bs : List UInt8) : Inside bs (spanR bs) := fun p e hp => numM_p (numM_p hp)
theorem needR_p (bs : List UInt8) : Inside bs (needR bs) := fun p e hp => listM_p (spanR_p bs) (strM_p hp)
theorem relR_p (bs : List UInt8) : Inside bs (relR bs) := fun p e hp => listM_p (needR_p bs) (numM_p hp)
theorem maniR_p (bs : List UInt8) : (maniR bs).2.1 ≤ bs.length := listM_p (relR_p bs) (strM_p (Nat.zero_le _))
theorem needR_ok (bs : List UInt8) (p : Nat) (e : Int) : (needR bs p e).1.1.length ≤ 24 ∧ (needR bs p e).1.2.length ≤ 6 := by
 have h1 := strM_len bs p e 24 (by omega)
 have h2 := listM_len (spanR bs) bs (strM bs p e 24).2.1 (strM bs p e 24).2.2 6 (by omega)
 simp only [needR]; omega
theorem relR_ok (bs : List UInt8) (p : Nat) (e : Int) : (relR bs p e).1.2.length ≤ 6 ∧ okN (relR bs p e).1.2 := by
 have h2 := listM_len (needR bs) bs (numM bs p e 1000000000).2.1 (numM bs p e 1000000000).2.2 6 (by omega)
 refine ⟨by simp only [relR]; omega, by simp only [relR]; unfold lim; omega, fun n hn => ?_⟩
 have := listR_all (Q := fun n : Need => n.1.length ≤ 24 ∧ n.2.length ≤ 6) (needR_ok bs) _ _ _ n hn
 unfold lim; omega
theorem maniR_ok (bs : List UInt8) : okM (maniR bs).1 := by
 have h1 := strM_len bs 0 0 24 (by omega)
 have h2 := listM_len (relR bs) bs (strM bs 0 0 24).2.1 (strM bs 0 0 24).2.2 8 (by omega)
 refine ⟨by simp only [maniR]; unfold lim; omega, by simp only [maniR]; unfold lim; omega, fun r hr => ?_⟩
 exact (listR_all (Q := fun r : Rel => r.2.length ≤ 6 ∧ okN r.2) (relR_ok bs) _ _ _ r hr).2
theorem readM_ok (bs : List UInt8) : okM (readM bs).1 := by
 have h0 : okM (([], []) : Mani) := ⟨by simp, by simp, fun r hr => by simp at hr⟩
 unfold readM
 split
 ·exact h0
 ·unfold endM
  split
  ·exact h0
  ·split
   ·exact maniR_ok bs
   ·exact h0
section
variable {bs : List UInt8} {p : Nat} {e : Int}
theorem selHR (q : List AObj) : Sel 5 [0, 1, 2, 3, 4] (HR bs p e ++ q) (HR bs p e) := by
 refine ⟨by decide, rfl, by decide, fun i hi => ?_, fun i hi => .inl ?_⟩
 ·match i, hi with
  | 0, _ | 1, _ | 2, _ | 3, _ | 4, _ => rfl
 ·match i, hi with
  | 0, _ | 1, _ | 2, _ | 3, _ | 4, _ => rfl
theorem selTokR : Sel 5 [0, 1, 2, 3, 4, 6] (HR bs p e ++ [.gone, .tok]) (HR bs p e ++ [.tok]) := by
 refine ⟨by decide, rfl, by decide, fun i hi => ?_, fun i hi => .inl ?_⟩
 ·match i, hi with
  | 0, _ | 1, _ | 2, _ | 3, _ | 4, _ => rfl
 ·match i, hi with
  | 0, _ | 1, _ | 2, _ | 3, _ | 4, _ | 5, _ => rfl
theorem subHR {f : FuncId} {args : List AV} {r0 : AV} {p' : Nat} {e' : Int} (q : List AObj) (k : ASpec Tryz.prog f args (HR bs p e) (fun r H' => r = r0 ∧ H' = HR bs p' e'))
  (ha : args.map (AV.ren (callR [0, 1, 2, 3, 4] (HR bs p e ++ q).length)) = args) (hr : AV.ren (callR [0, 1, 2, 3, 4] (HR bs p e ++ q).length) r0 = r0) :
  ASpec Tryz.prog f args (HR bs p e ++ q) (fun r H' => r = r0 ∧ H' = HR bs p' e' ++ q) := by
 refine ASpec.subH [0, 1, 2, 3, 4] _ _ k args r0 (by decide) rfl ha hr (fun i hi => ?_) ?_
 ·match i, hi with
  | 0, _ | 1, _ | 2, _ | 3, _ | 4, _ => rfl
 ·show HR bs p' e' ++ q ++ [] = _
  rw [List.append_nil]
theorem leAppT {α : Type} {en : α → List AV} {d : α} (hr : ∀ ρ x, renL ρ (en x) = en x) {acc : List α} {x : α} {sz k j : Nat} {ρ : Nat → Nat} {ex : List AV} (hx : ex = en x) (hk : ρ j = k) :
  Le (.sl sz (.app (.map en d acc) (.raw [ex])) (.tok k)) (AV.ren ρ (.sl sz (.map en d (acc ++ [x])) (.tok j))) := by
 subst hk; subst hx
 refine Le.sl (s' := Seq.ren ρ (.map en d (acc ++ [x]))) ?_ (.inl rfl) (.inl rfl)
 simp [Ab.Seq.toList, Seq.ren, hr]
theorem leNone {α : Type} {en : α → List AV} {d : α} (hr : ∀ ρ x, renL ρ (en x) = en x) {acc : List α} {sz : Nat} {tip : Tip} {ρ : Nat → Nat} :
  Le (.sl sz (.map en d acc) tip) (AV.ren ρ (.sl sz (.map en d acc) .none)) :=
 Le.sl (s' := Seq.ren ρ (.map en d acc)) (by simp [Ab.Seq.toList, Seq.ren, hr]) (.inl rfl) (.inr rfl)
theorem renS (ρ : Nat → Nat) (x : Span) : renL ρ (encS x) = encS x := rfl
theorem renN (ρ : Nat → Nat) (x : Need) : renL ρ (encN x) = encN x := rfl
theorem renR (ρ : Nat → Nat) (x : Rel) : renL ρ (T.encR x) = T.encR x := rfl
theorem name98 (hb : bs.length ≤ big) (hp : p ≤ bs.length) : ASpec Tryz.prog 171 [.ptr 1 0] (HR bs p e) (fun r H' => r = .str (B (strM bs p e 24).1) ∧ H' = HR bs (strM bs p e 24).2.1 (strM bs p e 24).2.2) :=
 s171 _ _ _ _ (ASpec.call (str_spec (H := HR bs p e) (id := 0) (bs := bs) (p := p) (e := e) 24 hb hp rfl) (Les.refl _) ⟨(B (strM bs p e 24).1, ((strM bs p e 24).2.1 : Nat), (strM bs p e 24).2.2), rfl, rfl, rfl, rfl⟩)
theorem span99 (hb : bs.length ≤ big) (hp : p ≤ bs.length) : ASpec Tryz.prog 173 [.ptr 1 0] (HR bs p e) (fun r H' => r = .agg (encS (spanR bs p e).1) ∧ H' = HR bs (spanR bs p e).2.1 (spanR bs p e).2.2) := by
 have h1 := numM_p (e := e) (most := 1000000000) hp
 refine ASpec.sel (s173 _ _ _ _ (ASpec.call (num_spec (H := HR bs p e ++ [.cells [.int .i64 0, .int .i64 0]]) (id := 0) (bs := bs) (p := p) (e := e) 1000000000 hb hp rfl) (Les.refl _) ⟨((numM bs p e 1000000000).1, ((numM bs p e 1000000000).2.1 : Nat), (numM bs p e 1000000000).2.2), rfl, rfl, ?_⟩))
 refine ASpec.call (num_spec (H := HR bs (numM bs p e 1000000000).2.1 (numM bs p e 1000000000).2.2 ++ [.cells [.int .i64 0, .int .i64 0]]) (id := 0) (bs := bs) (p := (numM bs p e 1000000000).2.1) (e := (numM bs p e 1000000000).2.2) 1000000000 hb h1 rfl) (Les.refl _)
  ⟨((numM bs (numM bs p e 1000000000).2.1 (numM bs p e 1000000000).2.2 1000000000).1, ((numM bs (numM bs p e 1000000000).2.1 (numM bs p e 1000000000).2.2 1000000000).2.1 : Nat), (numM bs (numM bs p e 1000000000).2.1 (numM bs p e 1000000000).2.2 1000000000).2.2), rfl, rfl, ?_⟩
 exact ⟨[0, 1, 2, 3, 4], HR bs (spanR bs p e).2.1 (spanR bs p e).2.2, .agg (encS (spanR bs p e).1), selHR _, Le.refl _, rfl, rfl⟩
theorem loop101 {Post : AV → List AObj → Prop} (hb : bs.length ≤ big) : ∀ (k p : Nat) (e : Int) (acc : List Span), p ≤ bs.length → acc.length + k ≤ 100 →
  Post (.sl 2 (.map encS (0, 0) (acc ++ (listR (spanR bs) k p e).1)) (.tok 5)) (HR bs (listR (spanR bs) k p e).2.1 (listR (spanR bs) k p e).2.2 ++ [.tok]) →
  AWP Tryz.prog 27 5 c176_3 [(0, .ptr 0 0), (2, .fn 173 [.ptr 1 0]), (7, .sl 2 (.map encS (0, 0) acc) (.tok 5)), (8, .int .i64 k)] (HR bs p e ++ [.tok]) (q176_2 5 Post) := by
 intro k
 induction k with
 | zero =>
  intro p e acc hp ha h
  refine v176_3 _ _ _ _ _ _ _ (condD (fun hc => by omega) fun _ => ?_)
  simp only [listR, List.append_nil] at h
  exact h
 | succ k ih =>
  intro p e acc hp ha h
  simp only [listR] at h
  refine v176_3 _ _ _ _ _ _ _ (condD (fun _ => ?_) fun hc => by omega)
  refine ASpec.call (err_spec (H := HR bs p e ++ [.tok]) (id := 0) (bs := bs) (p := p) (e := e) rfl) (Les.refl _) ⟨e, rfl, rfl, condE (fun he => ?_) fun he => ?_⟩
  ·rw [if_pos he] at h
   refine ASpec.call (subHR [.tok] (span99 (e := e) hb hp) rfl rfl) (Les.refl _) ⟨((spanR bs p e).1, ((spanR bs p e).2.1 : Nat), (spanR bs p e).2.2), rfl, rfl, needJ (by omega) ?_⟩
   rw [show IntKind.wrap .i64 (((k + 1 : Nat) : Int) - 1) = (k : Int) by rw [wrap64 (by omega) (by omega)]; omega]
   refine AWP.shape [0, 1, 2, 3, 4, 6] [(0, .ptr 0 0), (2, .fn 173 [.ptr 1 0]), (7, .sl 2 (.map encS (0, 0) (acc ++ [(spanR bs p e).1])) (.tok 5)), (8, .int .i64 k)] _ selTokR
    ⟨rfl, Le.refl _, rfl, Le.refl _, rfl, leAppT renS rfl rfl, rfl, Le.refl _, trivial⟩ (ih _ _ _ (spanR_p bs p e hp) (by simp; omega) ?_)
   simpa using h
  ·rw [if_neg he] at h
   simp only [List.append_nil] at h
   exact h
theorem list101 {most : Int} (hm : 0 ≤ most ∧ most ≤ 100) (hb : bs.length ≤ big) (hp : p ≤ bs.length) : ASpec Tryz.prog 176 [.ptr 0 0, .int .i64 most, .fn 173 [.ptr 1 0]] (HR bs p e)
  (fun r H' => r = slS (listM (spanR bs) bs p e most).1 ∧ H' = HR bs (listM (spanR bs) bs p e most).2.1 (listM (spanR bs) bs p e most).2.2) := by
 have hn := numM_most bs p e most hm.1
 refine ASpec.sel (s176 _ _ _ _ _ (ASpec.call (num_spec (H := HR bs p e) (id := 0) (bs := bs) (p := p) (e := e) most hb hp rfl) (Les.refl _) ⟨((numM bs p e most).1, ((numM bs p e most).2.1 : Nat), (numM bs p e most).2.2), rfl, rfl, ?_⟩))
 refine AWP.re (ReSt.tok (H := HR bs (numM bs p e most).2.1 (numM bs p e most).2.2) (k := 7) (q' := .map encS (0, 0) []) (sz' := 2) (s2 := [(0, .ptr 0 0), (2, .fn 173 [.ptr 1 0]), (7, .sl 2 (.map encS (0, 0) []) (.tok 5)), (8, .int .i64 (numM bs p e most).1)]) rfl (.inl rfl) rfl (.inr rfl) (fun d hd => ?_) rfl) ?_
 ·simp only [Ab.get]
  have e : Nat.beq 7 d = false := by
   cases hx : Nat.beq 7 d with
   | false => rfl
   | true => exact absurd (Nat.eq_of_beq_eq_true hx).symm hd
  rw [e]; rfl
 ·obtain ⟨k, hk⟩ := Int.eq_ofNat_of_zero_le hn.1
  rw [hk]
  refine loop101 hb k _ _ [] (numM_p hp) (by simp; omega) ?_
  have hL : listR (spanR bs) k (numM bs p e most).2.1 (numM bs p e most).2.2 = listM (spanR bs) bs p e most := by rw [listM, hk]; rfl
  rw [hL, List.nil_append]
  exact ⟨[0, 1, 2, 3, 4], _, slS (listM (spanR bs) bs p e most).1, selHR _, leNone renS, rfl, rfl⟩
theorem need100 (hb : bs.length ≤ big) (hp : p ≤ bs.length) : ASpec Tryz.prog 175 [.ptr 2 0, .ptr 1 0, .ptr 3 0] (HR bs p e) (fun r H' => r = .agg (encN (needR bs p e).1) ∧ H' = HR bs (needR bs p e).2.1 (needR bs p e).2.2) := by
 have h1 := strM_p (e := e) (most := 24) hp
 refine ASpec.sel (s175 _ _ _ _ (ASpec.call (subHR [.cells [.str ⟨#[]⟩, .sl 0 (.raw []) .nil]] (name98 (e := e) hb hp) rfl rfl) (Les.refl _) ⟨(B (strM bs p e 24).1, ((strM bs p e 24).2.1 : Nat), (strM bs p e 24).2.2), rfl, rfl, ?_⟩))
 refine ASpec.call (subHR [.cells [.str ⟨#[]⟩, .sl 0 (.raw []) .nil], .cells [.str (B (strM bs p e 24).1), .sl 0 (.raw []) .nil]] (list101 (e := (strM bs p e 24).2.2) (most := 6) (by omega) hb h1) rfl rfl) (Les.refl _)
  ⟨((listM (spanR bs) bs (strM bs p e 24).2.1 (strM bs p e 24).2.2 6).1, ((listM (spanR bs) bs (strM bs p e 24).2.1 (strM bs p e 24).2.2 6).2.1 : Nat), (listM (spanR bs) bs (strM bs p e 24).2.1 (strM bs p e 24).2.2 6).2.2), rfl, rfl, ?_⟩
 exact ⟨[0, 1, 2, 3, 4], HR bs (needR bs p e).2.1 (needR bs p e).2.2, .agg (encN (needR bs p e).1), selHR _, Le.refl _, rfl, rfl⟩
theorem loop104 {Post : AV → List AObj → Prop} (hb : bs.length ≤ big) : ∀ (k p : Nat) (e : Int) (acc : List Need), p ≤ bs.length → acc.length + k ≤ 100 →
  Post (.sl 2 (.map encN ([], []) (acc ++ (listR (needR bs) k p e).1)) (.tok 5)) (HR bs (listR (needR bs) k p e).2.1 (listR (needR bs) k p e).2.2 ++ [.tok]) →
  AWP Tryz.prog 27 5 c179_3 [(0, .ptr 0 0), (2, .fn 175 [.ptr 2 0, .ptr 1 0, .ptr 3 0]), (7, .sl 2 (.map encN ([], []) acc) (.tok 5)), (8, .int .i64 k)] (HR bs p e ++ [.tok]) (q179_2 5 Post) := by
 intro k
 induction k with
 | zero =>
  intro p e acc hp ha h
  refine v179_3 _ _ _ _ _ _ _ (condD (fun hc => by omega) fun _ => ?_)
  simp only [listR, List.append_nil] at h
  exact h
 | succ k ih =>
  intro p e acc hp ha h
  simp only [listR] at h
  refine v179_3 _ _ _ _ _ _ _ (condD (fun _ => ?_) fun hc => by omega)
  refine ASpec.call (err_spec (H := HR bs p e ++ [.tok]) (id := 0) (bs := bs) (p := p) (e := e) rfl) (Les.refl _) ⟨e, rfl, rfl, condE (fun he => ?_) fun he => ?_⟩
  ·rw [if_pos he] at h
   refine ASpec.call (subHR [.tok] (need100 (e := e) hb hp) rfl rfl) (Les.refl _) ⟨((needR bs p e).1, ((needR bs p e).2.1 : Nat), (needR bs p e).2.2), rfl, rfl, needJ (by omega) ?_⟩
   rw [show IntKind.wrap .i64 (((k + 1 : Nat) : Int) - 1) = (k : Int) by rw [wrap64 (by omega) (by omega)]; omega]
   refine AWP.shape [0, 1, 2, 3, 4, 6] [(0, .ptr 0 0), (2, .fn 175 [.ptr 2 0, .ptr 1 0, .ptr 3 0]), (7, .sl 2 (.map encN ([], []) (acc ++ [(needR bs p e).1])) (.tok 5)), (8, .int .i64 k)] _ selTokR
    ⟨rfl, Le.refl _, rfl, Le.refl _, rfl, leAppT renN rfl rfl, rfl, Le.refl _, trivial⟩ (ih _ _ _ (needR_p bs p e hp) (by simp; omega) ?_)
   simpa using h
  ·rw [if_neg he] at h
   simp only [List.append_nil] at h
   exact h
theorem list104 {most : Int} (hm : 0 ≤ most ∧ most ≤ 100) (hb : bs.length ≤ big) (hp : p ≤ bs.length) : ASpec Tryz.prog 179 [.ptr 0 0, .int .i64 most, .fn 175 [.ptr 2 0, .ptr 1 0, .ptr 3 0]] (HR bs p e)
  (fun r H' => r = slN (listM (needR bs) bs p e most).1 ∧ H' = HR bs (listM (needR bs) bs p e most).2.1 (listM (needR bs) bs p e most).2.2) := by
 have hn := numM_most bs p e most hm.1
 refine ASpec.sel (s179 _ _ _ _ _ (ASpec.call (num_spec (H := HR bs p e) (id := 0) (bs := bs) (p := p) (e := e) most hb hp rfl) (Les.refl _) ⟨((numM bs p e most).1, ((numM bs p e most).2.1 : Nat), (numM bs p e most).2.2), rfl, rfl, ?_⟩))
 refine AWP.re (ReSt.tok (H := HR bs (numM bs p e most).2.1 (numM bs p e most).2.2) (k := 7) (q' := .map encN ([], []) []) (sz' := 2) (s2 := [(0, .ptr 0 0), (2, .fn 175 [.ptr 2 0, .ptr 1 0, .ptr 3 0]), (7, .sl 2 (.map encN ([], []) []) (.tok 5)), (8, .int .i64 (numM bs p e most).1)]) rfl (.inl rfl) rfl (.inr rfl) (fun d hd => ?_) rfl) ?_
 ·simp only [Ab.get]
  have e : Nat.beq 7 d = false := by
   cases hx : Nat.beq 7 d with
   | false => rfl
   | true => exact absurd (Nat.eq_of_beq_eq_true hx).symm hd
  rw [e]; rfl
 ·obtain ⟨k, hk⟩ := Int.eq_ofNat_of_zero_le hn.1
  rw [hk]
  refine loop104 hb k _ _ [] (numM_p hp) (by simp; omega) ?_
  have hL : listR (needR bs) k (numM bs p e most).2.1 (numM bs p e most).2.2 = listM (needR bs) bs p e most := by rw [listM, hk]; rfl
  rw [hL, List.nil_append]
  exact ⟨[0, 1, 2, 3, 4], _, slN (listM (needR bs) bs p e most).1, selHR _, leNone renN, rfl, rfl⟩
theorem rel103 (hb : bs.length ≤ big) (hp : p ≤ bs.length) : ASpec Tryz.prog 178 [.ptr 1 0, .ptr 4 0] (HR bs p e) (fun r H' => r = .agg (T.encR (relR bs p e).1) ∧ H' = HR bs (relR bs p e).2.1 (relR bs p e).2.2) := by
 have h1 := numM_p (e := e) (most := 1000000000) hp
 refine ASpec.sel (s178 _ _ _ _ (ASpec.call (num_spec (H := HR bs p e ++ [.cells [.int .i64 0, .sl 0 (.raw []) .nil]]) (id := 0) (bs := bs) (p := p) (e := e) 1000000000 hb hp rfl) (Les.refl _) ⟨((numM bs p e 1000000000).1, ((numM bs p e 1000000000).2.1 : Nat), (numM bs p e 1000000000).2.2), rfl, rfl, ?_⟩))
 refine ASpec.call (subHR [.cells [.int .i64 0, .sl 0 (.raw []) .nil], .cells [.int .i64 (numM bs p e 1000000000).1, .sl 0 (.raw []) .nil]] (list104 (e := (numM bs p e 1000000000).2.2) (most := 6) (by omega) hb h1) rfl rfl) (Les.refl _)
  ⟨((listM (needR bs) bs (numM bs p e 1000000000).2.1 (numM bs p e 1000000000).2.2 6).1, ((listM (needR bs) bs (numM bs p e 1000000000).2.1 (numM bs p e 1000000000).2.2 6).2.1 : Nat), (listM (needR bs) bs (numM bs p e 1000000000).2.1 (numM bs p e 1000000000).2.2 6).2.2), rfl, rfl, ?_⟩
 exact ⟨[0, 1, 2, 3, 4], HR bs (relR bs p e).2.1 (relR bs p e).2.2, .agg (T.encR (relR bs p e).1), selHR _, Le.refl _, rfl, rfl⟩
theorem loop102 {Post : AV → List AObj → Prop} (hb : bs.length ≤ big) : ∀ (k p : Nat) (e : Int) (acc : List Rel), p ≤ bs.length → acc.length + k ≤ 100 →
  Post (.sl 2 (.map T.encR (0, []) (acc ++ (listR (relR bs) k p e).1)) (.tok 5)) (HR bs (listR (relR bs) k p e).2.1 (listR (relR bs) k p e).2.2 ++ [.tok]) →
  AWP Tryz.prog 27 5 c177_3 [(0, .ptr 0 0), (2, .fn 178 [.ptr 1 0, .ptr 4 0]), (7, .sl 2 (.map T.encR (0, []) acc) (.tok 5)), (8, .int .i64 k)] (HR bs p e ++ [.tok]) (q177_2 5 Post) := by
 intro k
 induction k with
 | zero =>
  intro p e acc hp ha h
  refine v177_3 _ _ _ _ _ _ _ (condD (fun hc => by omega) fun _ => ?_)
  simp only [listR, List.append_nil] at h
  exact h
 | succ k ih =>
  intro p e acc hp ha h
  simp only [listR] at h
  refine v177_3 _ _ _ _ _ _ _ (condD (fun _ => ?_) fun hc => by omega)
  refine ASpec.call (err_spec (H := HR bs p e ++ [.tok]) (id := 0) (bs := bs) (p := p) (e := e) rfl) (Les.refl _) ⟨e, rfl, rfl, condE (fun he => ?_) fun he => ?_⟩
  ·rw [if_pos he] at h
   refine ASpec.call (subHR [.tok] (rel103 (e := e) hb hp) rfl rfl) (Les.refl _) ⟨((relR bs p e).1, ((relR bs p e).2.1 : Nat), (relR bs p e).2.2), rfl, rfl, needJ (by omega) ?_⟩
   rw [show IntKind.wrap .i64 (((k + 1 : Nat) : Int) - 1) = (k : Int) by rw [wrap64 (by omega) (by omega)]; omega]
   refine AWP.shape [0, 1, 2, 3, 4, 6] [(0, .ptr 0 0), (2, .fn 178 [.ptr 1 0, .ptr 4 0]), (7, .sl 2 (.map T.encR (0, []) (acc ++ [(relR bs p e).1])) (.tok 5)), (8, .int .i64 k)] _ selTokR
    ⟨rfl, Le.refl _, rfl, Le.refl _, rfl, leAppT renR rfl rfl, rfl, Le.refl _, trivial⟩ (ih _ _ _ (relR_p bs p e hp) (by simp; omega) ?_)
   simpa using h
  ·rw [if_neg he] at h
   simp only [List.append_nil] at h
   exact h
theorem list102 {most : Int} (hm : 0 ≤ most ∧ most ≤ 100) (hb : bs.length ≤ big) (hp : p ≤ bs.length) : ASpec Tryz.prog 177 [.ptr 0 0, .int .i64 most, .fn 178 [.ptr 1 0, .ptr 4 0]] (HR bs p e)
  (fun r H' => r = slR (listM (relR bs) bs p e most).1 ∧ H' = HR bs (listM (relR bs) bs p e most).2.1 (listM (relR bs) bs p e most).2.2) := by
 have hn := numM_most bs p e most hm.1
 refine ASpec.sel (s177 _ _ _ _ _ (ASpec.call (num_spec (H := HR bs p e) (id := 0) (bs := bs) (p := p) (e := e) most hb hp rfl) (Les.refl _) ⟨((numM bs p e most).1, ((numM bs p e most).2.1 : Nat), (numM bs p e most).2.2), rfl, rfl, ?_⟩))
 refine AWP.re (ReSt.tok (H := HR bs (numM bs p e most).2.1 (numM bs p e most).2.2) (k := 7) (q' := .map T.encR (0, []) []) (sz' := 2) (s2 := [(0, .ptr 0 0), (2, .fn 178 [.ptr 1 0, .ptr 4 0]), (7, .sl 2 (.map T.encR (0, []) []) (.tok 5)), (8, .int .i64 (numM bs p e most).1)]) rfl (.inl rfl) rfl (.inr rfl) (fun d hd => ?_) rfl) ?_
 ·simp only [Ab.get]
  have e : Nat.beq 7 d = false := by
   cases hx : Nat.beq 7 d with
   | false => rfl
   | true => exact absurd (Nat.eq_of_beq_eq_true hx).symm hd
  rw [e]; rfl
 ·obtain ⟨k, hk⟩ := Int.eq_ofNat_of_zero_le hn.1
  rw [hk]
  refine loop102 hb k _ _ [] (numM_p hp) (by simp; omega) ?_
  have hL : listR (relR bs) k (numM bs p e most).2.1 (numM bs p e most).2.2 = listM (relR bs) bs p e most := by rw [listM, hk]; rfl
  rw [hL, List.nil_append]
  exact ⟨[0, 1, 2, 3, 4], _, slR (listM (relR bs) bs p e most).1, selHR _, leNone renR, rfl, rfl⟩
end
abbrev zM : AObj := .cells [.str ⟨#[]⟩, .sl 0 (.raw []) .nil]
theorem read_spec (bs : List UInt8) (hb : bs.length ≤ 1000000) (H : List AObj) : ASpec Tryz.prog 137 [sl1 bs] H (fun r H' => r = .tup [.agg (encM (readM bs).1), .int .i64 (readM bs).2] ∧ H' = H) := by
 have k : ASpec Tryz.prog 137 [sl1 bs] [] (fun r H' => r = .tup [.agg (encM (readM bs).1), .int .i64 (readM bs).2] ∧ H' = []) := by
  have hb' : bs.length ≤ big := by unfold big; omega
  have none_ : ∀ (c : Int) (H' : List AObj), readM bs = (([], []), c) → ∃ l H2 r2, Sel 0 l H' H2 ∧ Le (.tup [.agg [.str ⟨#[]⟩, .sl 0 (.raw []) .nil], .int .i64 c]) (AV.ren (selR l H'.length) r2) ∧
    r2 = .tup [.agg (encM (readM bs).1), .int .i64 (readM bs).2] ∧ H2 = [] := by
   intro c H' e
   rw [e]
   exact ⟨[], [], .tup [.agg (encM ([], [])), .int .i64 c], Sel.none,
    Le.tup ⟨Le.agg ⟨Le.refl _, Le.sl (s' := Seq.ren _ (.map T.encR (0, []) [])) rfl (.inr ⟨rfl, fun _ h => by cases h⟩) (.inr rfl), trivial⟩, Le.refl _, trivial⟩, rfl, rfl⟩
  refine ASpec.sel (s137 _ _ (condD (fun h => none_ 4 _ ?_) fun h => ?_))
  ·rw [readM, if_pos (by omega)]
  have hR : readM bs = endM (maniR bs).1 (closeM (maniR bs).2.2 (bs.length - (maniR bs).2.1)) := by rw [readM, if_neg (by omega)]
  refine ASpec.call (V.open_spec bs hb' [zM]) (Les.refl _) ⟨bs, rfl, rfl, ?_⟩
  have c1 : ASpec Tryz.prog 171 [.ptr 2 0] [zM, rd bs 0 0, .cells [.ptr 1 0], .cells [.fn 171 [.ptr 2 0]], .cells [.fn 173 [.ptr 2 0]], .cells [.fn 175 [.ptr 3 0, .ptr 2 0, .ptr 4 0]]]
    (fun r H' => r = .str (B (strM bs 0 0 24).1) ∧ H' = [zM, rd bs (strM bs 0 0 24).2.1 (strM bs 0 0 24).2.2, .cells [.ptr 1 0], .cells [.fn 171 [.ptr 2 0]], .cells [.fn 173 [.ptr 2 0]], .cells [.fn 175 [.ptr 3 0, .ptr 2 0, .ptr 4 0]]]) := by
   refine ASpec.subH [1, 2, 3, 4, 5] _ _ (name98 (bs := bs) (p := 0) (e := 0) hb' (by omega)) _ _ (by decide) rfl rfl rfl (fun i hi => ?_) rfl
   match i, hi with
   | 0, _ | 1, _ | 2, _ | 3, _ | 4, _ => rfl
  refine ASpec.call c1 (Les.refl _) ⟨(B (strM bs 0 0 24).1, ((strM bs 0 0 24).2.1 : Nat), (strM bs 0 0 24).2.2), rfl, rfl, ?_⟩
  have hp1 : (strM bs 0 0 24).2.1 ≤ bs.length := strM_p (by omega)
  have c2 : ASpec Tryz.prog 177 [.ptr 1 0, .int .i64 8, .fn 178 [.ptr 2 0, .ptr 5 0]] [zM, rd bs (strM bs 0 0 24).2.1 (strM bs 0 0 24).2.2, .cells [.ptr 1 0], .cells [.fn 171 [.ptr 2 0]], .cells [.fn 173 [.ptr 2 0]], .cells [.fn 175 [.ptr 3 0, .ptr 2 0, .ptr 4 0]], .cells [.str (B (strM bs 0 0 24).1), .sl 0 (.raw []) .nil]]
    (fun r H' => r = slR (maniR bs).1.2 ∧ H' = [zM, rd bs (maniR bs).2.1 (maniR bs).2.2, .cells [.ptr 1 0], .cells [.fn 171 [.ptr 2 0]], .cells [.fn 173 [.ptr 2 0]], .cells [.fn 175 [.ptr 3 0, .ptr 2 0, .ptr 4 0]], .cells [.str (B (strM bs 0 0 24).1), .sl 0 (.raw []) .nil]]) := by
   refine ASpec.subH [1, 2, 3, 4, 5] _ _ (list102 (bs := bs) (p := (strM bs 0 0 24).2.1) (e := (strM bs 0 0 24).2.2) (most := 8) (by omega) hb' hp1) _ _ (by decide) rfl rfl rfl (fun i hi => ?_) rfl
   match i, hi with
   | 0, _ | 1, _ | 2, _ | 3, _ | 4, _ => rfl
  refine ASpec.call c2 (Les.refl _) ⟨((maniR bs).1.2, ((maniR bs).2.1 : Nat), (maniR bs).2.2), rfl, rfl, ?_⟩
  refine ASpec.call (close_spec (id := 1) (bs := bs) (p := (maniR bs).2.1) (e := (maniR bs).2.2) hb' (maniR_p bs) rfl) (Les.refl _) ⟨_, rfl, rfl, ?_⟩
  generalize hc : closeM (maniR bs).2.2 (bs.length - (maniR bs).2.1) = c at hR
  refine condE (fun h0 => ?_) fun h0 => condNe (fun _ => none_ _ _ (by rw [hR, endM, if_pos h0])) fun h1 => (h0 h1).elim
  refine ASpec.call (maniCheck_spec (maniR bs).1 (maniR_ok bs) _) (Les.refl _) ⟨_, rfl, rfl, condBn (fun hm => none_ _ _ ?_) fun hm => condNe (fun h1 => (h1 h0).elim) fun _ => ?_⟩
  ·rw [hR, endM, if_neg (by simpa using h0), if_neg (by rw [hm]; simp)]
  ·rw [hR, endM, if_neg (by simpa using h0), if_pos hm]
   exact ⟨[], [], .tup [.agg (encM (maniR bs).1), .int .i64 0], Sel.none, Le.refl _, rfl, rfl⟩
 exact ASpec.pureH H k _ _ rfl rfl
end W
end

noncomputable section
open Go Go.Ab Go.Proofs V S T C
namespace W
section
variable {Post : AV → List AObj → Prop}
end
end W
end

noncomputable section
open Go Go.Ab
namespace E
abbrev PA (r0 : AV) : AV → List AObj → Prop := fun r H' => ∃ l H2 r2, Sel 0 l H' H2 ∧ Le r (AV.ren (selR l H'.length) r2) ∧ (r2 = r0 ∧ H2 = [])
theorem pa {r r0 : AV} {H' : List AObj} (h : Le r (AV.ren (selR [] H'.length) r0)) : PA r0 r H' := ⟨[], [], r0, Sel.none, h, rfl, rfl⟩
end E
end

noncomputable section
open Go Go.Ab Go.Proofs V S T C
open In
namespace Pc
abbrev slK (l : List Pk) : AV := .sl 2 (.map encPk noPk l) .none
abbrev arK (l : List Pk) : AObj := .arr 2 (.map encPk noPk l)
abbrev oneK (p : Pk) : AV := .sl 2 (.raw [encPk p]) .full
def insM (s : List Pk) (i : Nat) (p : Pk) : List Pk := s.take i ++ p :: s.drop i
theorem insM_len (s : List Pk) {i : Nat} (p : Pk) (h : i ≤ s.length) : (insM s i p).length = s.length + 1 := by simp [insM]; omega
abbrev PI (R : List Pk) : AV → List AObj → Prop := fun r H' => ∃ k q, r = .msl 2 k 0 R.length ∧ H'[k]? = some (.arr 2 q) ∧ q.toList.take R.length = R.map encPk
theorem bads_len (d : Nat) : (bads 2 d).len = d := by rw [Seq.len_eq]; simp [bads, Seq.toList]
theorem copied_map (A B : List Pk) (off : Nat) {qA qB : Ab.Seq} (hA : qA.toList = A.map encPk) (hB : qB.toList = B.map encPk) : (copied qA off qB).toList = (A.take off ++ (B ++ A.drop (off + B.length))).map encPk := by
 simp only [copied, Seq.toList, hA, hB, List.map_append, List.map_take, List.map_drop, List.length_map]
theorem cop_len {A B : List Pk} {off : Nat} (h : off + B.length ≤ A.length) : (A.take off ++ (B ++ A.drop (off + B.length))).length = A.length := by simp; omega
theorem two_copies {s A : List Pk} {i : Nat} {p : Pk} (hi : i ≤ s.length) (hA : A.length = s.length + 1) (ht : A.take i = s.take i) :
  (A.take i ++ ([p] ++ A.drop (i + 1))).take (i + 1) ++ (s.drop i ++ (A.take i ++ ([p] ++ A.drop (i + 1))).drop (i + 1 + (s.drop i).length)) = insM s i p := by
 have h1 : (A.take i ++ ([p] ++ A.drop (i + 1))).length = s.length + 1 := by simp; omega
 have h2 : (A.take i ++ ([p] ++ A.drop (i + 1))).take (i + 1) = s.take i ++ [p] := by
  rw [ht, ← List.append_assoc, List.take_append_of_le_length (by simp; omega), List.take_of_length_le (by simp; omega)]
 have h3 : (A.take i ++ ([p] ++ A.drop (i + 1))).drop (i + 1 + (s.drop i).length) = [] := List.drop_eq_nil_of_le (by rw [h1, List.length_drop]; omega)
 rw [h2, h3, List.append_nil]
 simp [insM]
theorem overl : overlapsFn Tryz.prog 183 2 := ⟨Tryz.f183, 70, 133, #[4], by kernel_rfl, by kernel_rfl, by kernel_rfl, by kernel_rfl, by kernel_rfl, by kernel_rfl, by kernel_rfl⟩
section
variable {s : List Pk} {p : Pk} {i : Nat} (hi : i ≤ s.length) (hl : s.length ≤ 1000000)
include hi hl
theorem new10 (hlt : i < s.length) : AWP Tryz.prog 95 1 c143_10 [(0, .msl 2 0 0 s.length), (1, .int .i64 i), (2, oneK p), (7, .int .i64 1), (9, .msl 2 1 0 (s.length + 1))]
  [arK s, arK (s.take i ++ List.replicate (s.length + 1 - i) noPk)] (q143_1 1 (PI (insM s i p))) := by
 have hAl : (s.take i ++ List.replicate (s.length + 1 - i) noPk).length = s.length + 1 := by simp; omega
 have hAt : (s.take i ++ List.replicate (s.length + 1 - i) noPk).take i = s.take i := by
  rw [List.take_append_of_le_length (by simp; omega), List.take_take, Nat.min_self]
 generalize s.take i ++ List.replicate (s.length + 1 - i) noPk = A at hAl hAt
 have a := v143_10 s A p i 1 (PI (insM s i p))
 rw [hAl, Int.toNat_natCast, Nat.zero_add] at a
 refine a (needJ ⟨by omega, by omega⟩ (condD (fun _ => needJ ⟨by omega, by omega⟩ ?_) fun h => absurd (by omega) h))
 refine AWP.re (ReSt.arr (id := 1) (q := _) (q' := .map encPk noPk (A.take i ++ ([p] ++ A.drop (i + 1)))) rfl (copied_map A [p] i rfl rfl).symm) ?_
 have e1 : (A.take i ++ ([p] ++ A.drop (i + 1))).length = s.length + 1 := by rw [← hAl]; exact cop_len (B := [p]) (by simp; omega)
 have b := v143_11 s (A.take i ++ ([p] ++ A.drop (i + 1))) i 1 (PI (insM s i p))
 rw [e1, succ64 (by omega), Int.toNat_natCast, Int.toNat_natCast, Nat.zero_add, Nat.zero_add] at b
 have et : List.drop i (List.take (i + (s.length - i)) s) = s.drop i := by rw [List.take_of_length_le (by omega)]
 refine b (needJ ⟨by omega, by omega⟩ (condD (fun _ => needJ ⟨by omega, by omega⟩ (condD (fun _ => needJ (by omega) (needJ (fun _ => rfl) (needJ ⟨by omega, by rw [et, List.length_drop]; omega⟩ ?_))) fun h => absurd (by omega) h)) fun h => absurd (by omega) h))
 rw [et]
 refine AWP.re (ReSt.arr (id := 1) (q := _) (q' := .map encPk noPk (insM s i p)) rfl ?_) ?_
 ·rw [copied_map (A.take i ++ ([p] ++ A.drop (i + 1))) (s.drop i) (i + 1) rfl rfl, two_copies hi hAl hAt]; rfl
 ·have c := v143_12 s (insM s i p) 1 (PI (insM s i p))
  rw [insM_len s p hi] at c
  exact c ⟨1, _, by rw [insM_len s p hi], rfl, by simp only [Seq.toList]; rw [List.take_of_length_le (by simp)]⟩
omit hl in
theorem old16 (hlt : i < s.length) {A : List Pk} (hA : A.length = s.length + 1) (ht : A.take i = s.take i) (hd : A.drop (i + 1) = s.drop i) :
  AWP Tryz.prog 95 1 c143_16 [(0, .msl 2 0 0 (s.length + 1)), (1, .int .i64 i), (2, oneK p)] [arK A] (q143_2 1 (PI (insM s i p))) := by
 have a := v143_16 A p i 1 (PI (insM s i p))
 rw [hA, Int.toNat_natCast, Nat.zero_add] at a
 refine a (needJ ⟨by omega, by omega⟩ (condD (fun _ => needJ ⟨by omega, by omega⟩ ?_) fun h => absurd (by omega) h))
 refine AWP.re (ReSt.arr (id := 0) (q := _) (q' := .map encPk noPk (insM s i p)) rfl ?_) ?_
 ·rw [copied_map A [p] i rfl rfl, ht]
  show _ = (s.take i ++ ([p] ++ A.drop (i + 1))).map encPk
  rw [hd]; rfl
 ·have c := v143_17 (insM s i p) 1 (PI (insM s i p))
  rw [insM_len s p hi] at c
  exact c ⟨0, _, by rw [insM_len s p hi], rfl, by simp only [Seq.toList]; rw [List.take_of_length_le (by simp)]⟩
theorem old14 (hlt : i < s.length) {d c : Nat} (hd : 1 ≤ d) : AWP Tryz.prog 95 1 c143_14 [(0, .msl 2 0 0 (s.length + 1)), (1, .int .i64 i), (2, oneK p), (7, .int .i64 1), (8, .int .i64 s.length)]
  [.arr 2 (.app (.map encPk noPk s) (bads 2 d)), .csz 0 2 c] (q143_0 1 (PI (insM s i p))) := by
 have a := v143_14 s p i d c 1 (PI (insM s i p))
 have em : i + min (s.length + 1 - i) (s.length + 1 - (i + 1)) = s.length := by omega
 rw [succ64 (by omega), Int.toNat_natCast, Int.toNat_natCast, Nat.zero_add, Nat.zero_add, bads_len, em, List.take_of_length_le (Nat.le_refl _)] at a
 refine a (needJ ⟨by omega, by omega⟩ (condD (fun _ => needJ overl (needJ ⟨by omega, by omega⟩ (condD (fun _ => needJ ⟨by omega, by omega⟩ (condD (fun _ => needJ (Nat.le_refl _) (needJ (fun _ => rfl) (needJ ⟨by omega, by rw [List.length_drop]; omega⟩ ?_))) fun h => absurd (by omega) h)) fun h => absurd (by omega) h))) fun h => absurd (by omega) h))
 have hA : (s.take (i + 1) ++ s.drop i).length = s.length + 1 := by simp; omega
 have e3 : (s.take (i + 1)).length = i + 1 := by simp; omega
 refine AWP.re (ReSt.arrPre (id := 0) (q := _) (k := s.length + 1) (q' := .map encPk noPk (s.take (i + 1) ++ s.drop i)) rfl ?_) ?_
 ·have hX : List.take (i + 1) (s.map encPk ++ (bads 2 d).toList) = (s.take (i + 1)).map encPk := by rw [List.take_append_of_le_length (by simp; omega), List.map_take]
  simp only [copied, Seq.toList]
  rw [hX, ← List.append_assoc, ← List.map_append, List.take_append_of_le_length (by rw [List.length_map, hA]; exact Nat.le_refl _)]
  exact (List.take_of_length_le (by rw [List.length_map, hA]; exact Nat.le_refl _)).symm
 ·refine AWP.shape [0] [(0, .msl 2 0 0 (s.length + 1)), (1, .int .i64 i), (2, oneK p)] [arK (s.take (i + 1) ++ s.drop i)]
   ⟨by decide, rfl, by decide, fun j h => by match j, h with | 0, _ => rfl, fun j h => by match j, h with | 0, _ => exact .inl rfl⟩ ⟨rfl, Le.refl _, rfl, Le.refl _, rfl, Le.refl _, trivial⟩ (old16 hi hlt hA ?_ ?_)
  ·rw [List.take_append_of_le_length (by omega), List.take_take, Nat.min_eq_left (by omega)]
  ·rw [List.drop_append_of_le_length (by omega), List.drop_eq_nil_of_le (by omega), List.nil_append]
end
theorem insert_pi (s : List Pk) (p : Pk) {i : Nat} (hi : i ≤ s.length) (hl : s.length ≤ 1000000) : ASpec Tryz.prog 143 [.msl 2 0 0 s.length, .int .i64 i, oneK p] [arK s] (PI (insM s i p)) := by
 have go : AWP Tryz.prog 95 1 c143_3 [(0, .msl 2 0 0 s.length), (1, .int .i64 i), (2, oneK p), (7, .int .i64 1)] [arK s] (q143_0 1 (PI (insM s i p))) := by
  refine v143_3 s p i 1 _ (condE (fun he => needJ ⟨rfl, by omega⟩ ?_) fun hne c hc => ?_)
  ·have he' : i = s.length := by omega
   subst he'
   exact ⟨1, _, by rw [insM_len s p hi], rfl, by
    rw [insM_len s p hi]
    simp only [Seq.toList]
    rw [List.take_of_length_le (by simp)]
    simp [insM]; rfl⟩
  ·have hlt : i < s.length := by omega
   have hcs : s.length ≤ c := hc.1
   rw [show IntKind.wrap .i64 ((s.length : Int) + 1) = ((s.length + 1 : Nat) : Int) from succ64 (by omega), wrap64 (by omega) (by omega), Nat.zero_add, Int.toNat_natCast, show ((((s.length + 1 : Nat) : Int) - i).toNat) = s.length + 1 - i by omega, bads_len, Nat.zero_add, Int.toNat_natCast]
   have hrow : (rowLen [.arr 2 (.app (.map encPk noPk s) (bads 2 (c - s.length))), .csz 0 2 c] 0 : Nat) = s.length + (c - s.length) := by
    show (Seq.app (.map encPk noPk s) (bads 2 (c - s.length))).len = _
    rw [Seq.len, bads_len]; simp [Seq.len]
   refine condD (fun hgt => needJ ⟨by omega, ?_⟩ (needJ ⟨by omega, by omega, by omega, by omega⟩ ?_)) fun hle => needJ ⟨by omega, ?_⟩ ?_
   ·rw [hrow]; omega
   ·rw [show i + (s.length + 1 - i) = s.length + 1 by omega]
    refine AWP.re (ReSt.arr (id := 2) (q := _) (q' := .map encPk noPk (s.take i ++ List.replicate (s.length + 1 - i) noPk)) rfl ?_) ?_
    ·simp only [Seq.toList, List.map_append, List.map_take, List.map_replicate, List.drop_zero]
     rw [List.take_append_of_le_length (by simp; omega)]
     rfl
    ·refine AWP.re (ReSt.arrPre (id := 0) (q := _) (k := s.length) (q' := .map encPk noPk s) rfl ?_) ?_
     ·simp only [Seq.toList]
      rw [List.take_append_of_le_length (by simp), List.take_of_length_le (by simp)]
     ·exact AWP.shape [0, 2] [(0, .msl 2 0 0 s.length), (1, .int .i64 i), (2, oneK p), (7, .int .i64 1), (9, .msl 2 1 0 (s.length + 1))] [arK s, arK (s.take i ++ List.replicate (s.length + 1 - i) noPk)]
       ⟨by decide, rfl, by decide, fun j h => by match j, h with | 0, _ => rfl, fun j h => by match j, h with | 0, _ | 1, _ => exact .inl rfl⟩ ⟨rfl, Le.refl _, rfl, Le.refl _, rfl, Le.refl _, rfl, Le.refl _, rfl, Le.refl _, trivial⟩ (new10 hi hl hlt)
   ·rw [hrow]; omega
   ·exact old14 hi hl hlt (by omega)
 exact s143 s p i _ (needJ ⟨by omega, by omega⟩ (condD (fun _ => go) fun _ => go))
end Pc
end

noncomputable section
open Go Go.Ab Go.Proofs V S T C
open E (PA pa)
open In
open Go.Proofs
namespace Pc
def bsF (p : Nat → Bool) : Nat → Nat → Nat → Nat
 | 0, lo, _ => lo
 | f + 1, lo, hi => if lo = hi then lo else if p ((lo + hi) / 2) = true then bsF p f ((lo + hi) / 2 + 1) hi else bsF p f lo ((lo + hi) / 2)
def lessAt (s : List Pk) (x : List UInt8) (k : Nat) : Bool := Op.bytesLess (s.getD k noPk).1 x
def placeM (s : List Pk) (x : List UInt8) : Nat := bsF (lessAt s x) s.length 0 s.length
theorem tdiv2 (n : Nat) : Int.tdiv (n : Int) 2 = ((n / 2 : Nat) : Int) := rfl
theorem half64 {a b : Nat} (h : a + b ≤ 1000000000) : IntKind.wrap .i64 (Int.tdiv (IntKind.wrap .i64 ((a : Int) + b)) 2) = (((a + b) / 2 : Nat) : Int) := by
 rw [show ((a : Int) + b) = ((a + b : Nat) : Int) by omega, wrap64 (x := ((a + b : Nat) : Int)) (by omega) (by omega), tdiv2, wrap64 (by omega) (by omega)]
theorem back2m {s : List Pk} {x : List UInt8} {lo hi : Int} {n : Nat} {Post : AV → List AObj → Prop}
  (h : AWP Tryz.prog 28 n c124_2 [(0, .msl 2 0 0 s.length), (1, .str ⟨x.toArray⟩), (5, .int .i64 lo), (6, .int .i64 hi)] [.arr 2 (.map encPk noPk s)] (q124_1 n Post)) :
  AWPS Tryz.prog 28 n (codeFst (codeSnd c124)) (.seq .skip c124_2) [(0, .msl 2 0 0 s.length), (1, .str ⟨x.toArray⟩), (5, .int .i64 lo), (6, .int .i64 hi)] [.arr 2 (.map encPk noPk s)] (q124_0 n Post) :=
 AWPS.of g124 (awp_sound g124 n _ _ _ _ (kc (by kernel_rfl) h))
theorem place2m {s : List Pk} {x : List UInt8} (hl : s.length ≤ 100000000) : ∀ (m lo hi : Nat), hi - lo ≤ m → lo ≤ hi → hi ≤ s.length →
  AWP Tryz.prog 28 1 c124_2 [(0, .msl 2 0 0 s.length), (1, .str (B x)), (5, .int .i64 lo), (6, .int .i64 hi)] [arK s] (q124_1 1 (fun r H' => r = .int .i64 (bsF (lessAt s x) m lo hi) ∧ H' = [arK s])) := by
 intro m
 induction m with
 | zero =>
  intro lo hi hm h1 h2
  exact v124_2m s x lo hi 1 _ (condE (fun _ => ⟨rfl, rfl⟩) fun h => absurd (by omega) h)
 | succ m ih =>
  intro lo hi hm h1 h2
  refine v124_2m s x lo hi 1 _ (condE (fun he => ⟨by rw [bsF, if_pos (by omega)], rfl⟩) fun hne => needJ (by decide) ?_)
  rw [half64 (by omega), Int.toNat_natCast, Nat.zero_add]
  refine needJ ⟨by omega, by omega⟩ (needJ (by omega) ?_)
  rw [B_toList, B_toList]
  have hlt : lo ≠ hi := by omega
  refine condB (fun hc => back2m ?_) fun hc => back2m ?_
  ·rw [bsF, if_neg hlt, if_pos (show lessAt s x ((lo + hi) / 2) = true from hc), show IntKind.wrap .i64 ((((lo + hi) / 2 : Nat) : Int) + 1) = (((lo + hi) / 2 + 1 : Nat) : Int) by rw [wrap64 (by omega) (by omega)]; omega]
   exact ih _ _ (by omega) (by omega) h2
  ·rw [bsF, if_neg hlt, if_neg (by rw [show lessAt s x ((lo + hi) / 2) = false from hc]; simp)]
   exact ih _ _ (by omega) (by omega) (by omega)
theorem place_spec (s : List Pk) (x : List UInt8) (hl : s.length ≤ 100000000) : ASpec Tryz.prog 124 [.msl 2 0 0 s.length, .str (B x)] [arK s] (fun r H' => r = .int .i64 (placeM s x) ∧ H' = [arK s]) :=
 s124m s x _ (place2m hl s.length 0 s.length (by omega) (by omega) (Nat.le_refl _))
end Pc
end

noncomputable section
open Go Go.Ab Go.Proofs V S T C
open E (PA pa)
open In
namespace Pc
theorem bsF_le (p : Nat → Bool) : ∀ (f lo hi : Nat), lo ≤ hi → lo ≤ bsF p f lo hi ∧ bsF p f lo hi ≤ hi
 | 0, lo, hi, h => ⟨Nat.le_refl _, h⟩
 | f + 1, lo, hi, h => by
  simp only [bsF]
  split
  ·exact ⟨Nat.le_refl _, h⟩
  ·split
   ·have := bsF_le p f ((lo + hi) / 2 + 1) hi (by omega); omega
   ·have := bsF_le p f lo ((lo + hi) / 2) (by omega); omega
theorem placeM_le (s : List Pk) (x : List UInt8) : placeM s x ≤ s.length := (bsF_le _ _ _ _ (Nat.zero_le _)).2
def putM (s : List Pk) (p : Pk) : List Pk :=
 if placeM s p.1 < s.length ∧ (s.getD (placeM s p.1) noPk).1 = p.1 then s.set (placeM s p.1) p else insM s (placeM s p.1) p
theorem renPk (ρ : Nat → Nat) (x : Pk) : renL ρ (encPk x) = encPk x := rfl
theorem slKLe {ρ : Nat → Nat} (l : List Pk) (tip : Tip) : Le (.sl 2 (.map encPk noPk l) tip) (AV.ren ρ (slK l)) := Le.sl (s' := Seq.ren _ (.map encPk noPk l)) (by simp [Ab.Seq.toList, Seq.ren, renPk]) (.inl rfl) (.inr rfl)
theorem insert_spec (s : List Pk) (p : Pk) {i : Nat} (hi : i ≤ s.length) (hl : s.length ≤ 1000000) : ASpec Tryz.prog 143 [.msl 2 0 0 s.length, .int .i64 i, oneK p] [arK s] (fun r H' => r = slK (insM s i p) ∧ H' = [.gone]) := by
 refine ASpec.sel (ASpec.reEnd ((insert_pi s p hi hl).mono fun r H' hh => ?_))
 obtain ⟨k, q, hr, hk, hq⟩ := hh
 subst hr
 have hkl : k < H'.length := (List.getElem?_eq_some_iff.1 hk).1
 have hql : (insM s i p).length ≤ q.toList.length := by
  have := congrArg List.length hq
  rw [List.length_take, List.length_map] at this; omega
 refine ⟨_, _, ReSt.freeze1 (q' := .map encPk noPk (insM s i p)) hk (by show 1 ≤ H'.length; omega) hql (by rw [hq]; rfl), ?_⟩
 refine ⟨[0], [.gone], slK (insM s i p), ⟨by decide, rfl, Nat.le_refl _, fun j h => by match j, h with | 0, _ => rfl, fun j h => .inr ?_⟩, slKLe _ _, rfl, rfl⟩
 match j, h with
 | 0, _ => exact ⟨rfl, by rw [List.length_set]; show 0 < H'.length; omega⟩
theorem clone_spec (s : List Pk) (hs : s ≠ []) (hl : s.length ≤ 1000000) (H : List AObj) : ASpec Tryz.prog 142 [slK s] H (fun r H' => r = .msl 2 H.length 0 s.length ∧ H' = H ++ [arK s]) := by
 have h1 : 1 ≤ s.length := by cases s with | nil => exact absurd rfl hs | cons x r => simp
 have k : ASpec Tryz.prog 142 [slK s] [] (fun r H' => r = .msl 2 0 0 s.length ∧ H' = [arK s]) := by
  refine s142s s _ fun b hb => condB (fun h => ?_) fun _ => needJ (fun _ => rfl) (needJ (by omega) (needJ h1 ⟨rfl, rfl⟩))
  have := congrArg List.length (hb h)
  simp only [Seq.toList, List.length_map, List.length_nil] at this
  omega
 exact ASpec.subH [] H _ k _ _ (by simp) rfl rfl rfl (fun i h => by simp at h) rfl
theorem put_spec1 (s : List Pk) (p : Pk) (hs : s ≠ []) (hl : s.length ≤ 1000000) (H : List AObj) : ASpec Tryz.prog 98 [slK s, .agg (encPk p)] H (fun r H' => r = slK (putM s p) ∧ H' = H) := by
 have hp := placeM_le s p.1
 have k : ASpec Tryz.prog 98 [slK s, .agg (encPk p)] [] (fun r H' => r = slK (putM s p) ∧ H' = []) := by
  refine ASpec.sel (ASpec.reEnd (s98 s p _ ((clone_spec s hs hl [.cells (encPk p)]).mono fun r H' hh => ⟨s, hh.1, hh.2, ?_⟩)))
  have pl : ASpec Tryz.prog 124 [.msl 2 1 0 s.length, .str (B p.1)] [.cells (encPk p), arK s] (fun r H' => r = .int .i64 (placeM s p.1) ∧ H' = [.cells (encPk p), arK s]) :=
   ASpec.subH [1] [.cells (encPk p), arK s] _ (place_spec s p.1 (by omega)) _ _ (by decide) rfl rfl rfl (fun i h => by match i, h with | 0, _ => rfl) rfl
  have ins : ASpec Tryz.prog 143 [.msl 2 1 0 s.length, .int .i64 (placeM s p.1), oneK p] [.cells (encPk p), arK s] (fun r H' => r = slK (insM s (placeM s p.1) p) ∧ H' = [.cells (encPk p), .gone]) :=
   ASpec.subH [1] [.cells (encPk p), arK s] _ (insert_spec s p hp hl) _ _ (by decide) rfl rfl rfl (fun i h => by match i, h with | 0, _ => rfl) rfl
  refine v98_2 s p 0 _ (pl.mono fun r H' hh => ⟨_, hh.1, hh.2, ?_⟩)
  have done : ∀ (l : List Pk), l = putM s p → ∀ H', ∃ r2 H2, ReSt 0 [(0, slK l)] H' [(0, r2)] H2 ∧ ∃ l2 H3 r3, Sel 0 l2 H2 H3 ∧ Le r2 (AV.ren (selR l2 H2.length) r3) ∧ r3 = slK (putM s p) ∧ H3 = [] := by
   intro l hl H'
   subst hl
   exact ⟨_, _, ReSt.refl _ _, [], [], _, Sel.none, slKLe _ _, rfl, rfl⟩
  refine v98_3 s p _ 0 _ (condD (fun hlt => needJ ⟨by omega, hlt⟩ (needJ (by rw [Int.toNat_natCast]; omega) ?_)) fun hge => ?_)
  ·rw [Int.toNat_natCast, Nat.zero_add]
   refine condS (fun he => needJ ⟨by omega, hlt⟩ (needJ (by omega) ?_)) fun hne => ?_
   ·have e : putM s p = s.set (placeM s p.1) p := by unfold putM; rw [if_pos ⟨by omega, he⟩]
    refine AWP.re (ReSt.arr (id := 1) (q := _) (q' := .map encPk noPk (s.set (placeM s p.1) p)) rfl (by simp only [Seq.toList, List.map_set]; rfl)) ?_
    have a := v98_5 (s.set (placeM s p.1) p) p 0 (fun r H' => ∃ r2 H2, ReSt 0 [(0, r)] H' [(0, r2)] H2 ∧ ∃ l2 H3 r3, Sel 0 l2 H2 H3 ∧ Le r2 (AV.ren (selR l2 H2.length) r3) ∧ r3 = slK (putM s p) ∧ H3 = [])
    rw [List.length_set] at a
    refine a ⟨_, _, ReSt.freeze1 (id := 1) (q' := .map encPk noPk (s.set (placeM s p.1) p)) rfl (Nat.zero_le _) (by simp [Seq.toList]) (by simp only [Seq.toList]; rw [List.take_of_length_le (by simp)]), ?_⟩
    rw [← e]
    exact ⟨[], [], _, Sel.none, slKLe _ _, rfl, rfl⟩
   ·have e : insM s (placeM s p.1) p = putM s p := by unfold putM; rw [if_neg (fun h => hne h.2)]
    exact ins.mono fun r H' hh => ⟨_, hh.1, hh.2, done _ e _⟩
  ·have e : insM s (placeM s p.1) p = putM s p := by unfold putM; rw [if_neg (fun h => hge (by omega))]
   exact ins.mono fun r H' hh => ⟨_, hh.1, hh.2, done _ e _⟩
 exact ASpec.pureH H k _ _ rfl rfl
end Pc
end

noncomputable section
open Go Go.Ab Go.Proofs V S T C
open E (PA pa)
open In (s124v v124_2v)
namespace Pc
theorem place_nil (x : List UInt8) (H : List AObj) : ASpec Tryz.prog 124 [slK [], .str (B x)] H (fun r H' => r = .int .i64 0 ∧ H' = H) :=
 ASpec.pureH (r0 := .int .i64 0) H (ASpec.sel (s124v [] x _ (v124_2v [] x 0 0 0 _ (condE (fun _ => pa (Le.refl _)) fun h => (h rfl).elim)))) _ _ rfl rfl
theorem putM_nil (p : Pk) : putM [] p = [p] := by
 unfold putM
 rw [if_neg (by simp)]
 simp [insM]
theorem ins_n (p : Pk) (H : List AObj) : ASpec Tryz.prog 143 [.sl 0 (.raw []) .nil, .int .i64 0, oneK p] H (fun r H' => r = slK [p] ∧ H' = H) := by
 have k : ASpec Tryz.prog 143 [.sl 0 (.raw []) .nil, .int .i64 0, oneK p] [] (fun r H' => r = slK [p] ∧ H' = []) :=
  ASpec.sel (Inn.s143n p _ (needJ ⟨by omega, by omega⟩ (needJ (by omega) (pa (Le.trans (Le.sl (s' := .map encPk noPk [p]) rfl (.inl rfl) (.inl rfl)) (slKLe [p] _))))))
 exact ASpec.pureH H k _ _ rfl rfl
theorem ins_t (p : Pk) : ASpec Tryz.prog 143 [.sl 2 (.map encPk noPk []) (.tok 0), .int .i64 0, oneK p] [.tok] (fun r H' => r = slK [p] ∧ H' = [.gone]) := by
 refine ASpec.sel (Inn.s143t p _ (needJ ⟨by omega, by omega⟩ (needJ (by omega) ?_)))
 refine ⟨[0], [.gone], slK [p], ⟨by decide, rfl, Nat.le_refl _, fun j h => by match j, h with | 0, _ => rfl, fun j h => by match j, h with | 0, _ => exact .inl rfl⟩, ?_, rfl, rfl⟩
 exact Le.trans (Le.sl (s' := .map encPk noPk [p]) rfl (.inl rfl) (.inl rfl)) (slKLe [p] _)
theorem put_nil (p : Pk) (H : List AObj) : ASpec Tryz.prog 98 [slK [], .agg (encPk p)] H (fun r H' => r = slK [p] ∧ H' = H) := by
 have k : ASpec Tryz.prog 98 [slK [], .agg (encPk p)] [] (fun r H' => r = slK [p] ∧ H' = []) := by
  refine ASpec.sel (Inn.s98 p _ ?_)
  have cl : ASpec Tryz.prog 142 [slK []] [] (fun r H' => (r = .sl 0 (.raw []) .nil ∧ H' = []) ∨ (r = .sl 2 (.map encPk noPk []) (.tok 0) ∧ H' = [.tok])) := by
   have a : ASpec Tryz.prog 142 [slK []] [] (fun r H' => ∃ r2 H2, ReSt 0 [(0, r)] H' [(0, r2)] H2 ∧ ((r2 = .sl 0 (.raw []) .nil ∧ H2 = []) ∨ (r2 = .sl 2 (.map encPk noPk []) (.tok 0) ∧ H2 = [.tok]))) := by
    refine Inn.s142 _ fun b _ => condB (fun _ => ⟨_, _, ReSt.refl _ _, .inl ⟨rfl, rfl⟩⟩) fun _ => needJ (fun _ => rfl) (needJ (by omega) ?_)
    refine ⟨.sl 2 (.map encPk noPk []) (.tok 0), [.tok], ?_, .inr ⟨rfl, rfl⟩⟩
    intro M loc w tmps h0 h1 h2
    obtain ⟨M2, l2, b1, b2, b3⟩ := ReSt.refl 0 [(0, .sl 2 (.app (.raw []) (.map encPk noPk [])) (.tok 0))] M loc w tmps h0 h1 h2
    refine ⟨M2, l2, b1, fun d => ?_, b3⟩
    cases d with
    | zero => exact (Le.sl (s' := .map encPk noPk []) rfl (.inl rfl) (.inl rfl) : Le (.sl 2 (.app (.raw []) (.map encPk noPk [])) (.tok 0)) _) _ _ _ _ (b2 0)
    | succ d => exact .bad _
   exact ASpec.reEnd a
  have cl2 := ASpec.graft (H := [.cells (encPk p)]) [] cl (by simp) rfl (args := [slK []]) rfl (fun i h => absurd h (Nat.not_lt_zero _))
  refine cl2.mono fun r H' hh => ?_
  obtain ⟨rl, Hl', hc, _, hr, hH⟩ := hh
  have fin : ∀ H : List AObj, ∃ l H2 r2, Sel 0 l H H2 ∧ Le (slK [p]) (AV.ren (selR l H.length) r2) ∧ r2 = slK [p] ∧ H2 = [] := fun H => ⟨[], [], _, Sel.none, slKLe _ _, rfl, rfl⟩
  rcases hc with ⟨rfl, rfl⟩ | ⟨rfl, rfl⟩
  ·refine .inl ⟨(), hr, hH, ?_⟩
   refine Inn.v98_2n p 0 _ (ASpec.call (place_nil p.1 _) ⟨Le.sl (s' := .map encPk noPk []) rfl (.inr ⟨rfl, fun _ h => by cases h⟩) (.inr rfl), Le.refl _, trivial⟩ ⟨0, rfl, rfl, ?_⟩)
   exact Inn.v98_3n p 0 0 _ (condD (fun h => absurd h (by decide)) fun _ => (ins_n p _).mono fun r H' hh => ⟨[p], hh.1, hh.2, fin _⟩)
  ·refine .inr ⟨(), hr, hH, ?_⟩
   refine Inn.v98_2t p 0 _ (ASpec.call (place_nil p.1 _) ⟨Le.sl (s' := .map encPk noPk []) rfl (.inl rfl) (.inr rfl), Le.refl _, trivial⟩ ⟨0, rfl, rfl, ?_⟩)
   have it : ASpec Tryz.prog 143 [.sl 2 (.map encPk noPk []) (.tok 1), .int .i64 0, oneK p] [.cells (encPk p), .tok] (fun r H' => r = slK [p] ∧ H' = [.cells (encPk p), .gone]) :=
    ASpec.subH [1] [.cells (encPk p), .tok] _ (ins_t p) _ _ (by decide) rfl rfl rfl (fun i h => by match i, h with | 0, _ => rfl) rfl
   exact Inn.v98_3t p 0 0 _ (condD (fun h => absurd h (by decide)) fun _ => it.mono fun r H' hh => ⟨[p], hh.1, hh.2, fin _⟩)
 exact ASpec.pureH H k _ _ rfl rfl
theorem put_spec (s : List Pk) (p : Pk) (hl : s.length ≤ 1000000) (H : List AObj) : ASpec Tryz.prog 98 [slK s, .agg (encPk p)] H (fun r H' => r = slK (putM s p) ∧ H' = H) := by
 cases s with
 | nil => rw [putM_nil]; exact put_nil p H
 | cons x r => exact put_spec1 (x :: r) p (by simp) hl H
end Pc
end

noncomputable section
open Go Go.Ab Go.Proofs V S T C
namespace Dp
theorem less_iff {a b : List UInt8} : Op.bytesLess a b = true ↔ a < b := by rw [bytesLess_eq]; simp
theorem less_trans {a b c : List UInt8} (h : Op.bytesLess a b = true) (k : Op.bytesLess b c = true) : Op.bytesLess a c = true := by
 rw [less_iff] at *; exact List.lt_trans h k
theorem less_irrefl (a : List UInt8) : Op.bytesLess a a = false := by
 rw [bytesLess_eq, decide_eq_false_iff_not]; exact List.lt_irrefl a
theorem less_tri : ∀ {a b : List UInt8}, Op.bytesLess a b = false → a ≠ b → Op.bytesLess b a = true
 | [], [], _, h => absurd rfl h
 | [], _ :: _, h, _ => by simp [Op.bytesLess] at h
 | _ :: _, [], _, _ => by simp [Op.bytesLess]
 | x :: a, y :: b, h, hne => by
  simp only [Op.bytesLess, Bool.or_eq_false_iff, decide_eq_false_iff_not, Bool.and_eq_false_iff, beq_eq_false_iff_ne] at h
  simp only [Op.bytesLess, Bool.or_eq_true, decide_eq_true_eq, Bool.and_eq_true, beq_iff_eq]
  by_cases e : x = y
  ·subst e
   rcases h.2 with h2 | h2
   ·exact absurd rfl h2
   ·exact .inr ⟨rfl, less_tri h2 (fun h3 => hne (by rw [h3]))⟩
  ·left
   have h1 := h.1
   rw [UInt8.not_lt] at h1
   exact UInt8.lt_of_le_of_ne h1 (fun h => e h.symm)
end Dp
end

noncomputable section
open Go Go.Ab Go.Proofs V S T C
namespace Pc
open Dp (less_iff less_trans less_irrefl less_tri)
abbrev Nm := List UInt8
abbrev lessN (a b : Nm) : Prop := Op.bytesLess a b = true
theorem ltn_irrefl {a : Nm} (h : lessN a a) : False := by rw [lessN, less_irrefl] at h; cases h
theorem ltn_asymm {a b : Nm} (h : lessN a b) (k : lessN b a) : False := ltn_irrefl (less_trans h k)
theorem ltn_tri (a b : Nm) : lessN a b ∨ a = b ∨ lessN b a := by
 cases h : Op.bytesLess a b with
 | true => exact .inl h
 | false =>
  by_cases e : a = b
  ·exact .inr (.inl e)
  ·exact .inr (.inr (less_tri h e))
theorem ltn_ne {a b : Nm} (h : lessN a b) : a ≠ b := by rintro rfl; exact ltn_irrefl h
theorem ltn_false {a b : Nm} (h : lessN b a) : Op.bytesLess a b = false := by
 cases hx : Op.bytesLess a b with
 | false => rfl
 | true => exact (ltn_asymm h hx).elim
theorem bsF_spec {p : Nat → Bool} {n : Nat} (hp : ∀ i j, i ≤ j → j < n → p j = true → p i = true) : ∀ (f lo hi : Nat), hi - lo ≤ f → lo ≤ hi → hi ≤ n → (∀ i, i < lo → p i = true) → (∀ i, hi ≤ i → i < n → p i = false) →
  bsF p f lo hi ≤ n ∧ (∀ i, i < bsF p f lo hi → p i = true) ∧ ∀ i, bsF p f lo hi ≤ i → i < n → p i = false
 | 0, lo, hi, h, h1, h2, h3, h4 => by
  have e : lo = hi := by omega
  subst e
  simp only [bsF]
  exact ⟨h2, h3, h4⟩
 | f + 1, lo, hi, h, h1, h2, h3, h4 => by
  simp only [bsF]
  by_cases e : lo = hi
  ·subst e
   rw [if_pos rfl]
   exact ⟨h2, h3, h4⟩
  ·rw [if_neg e]
   have hm : (lo + hi) / 2 < hi := by omega
   have hm2 : lo ≤ (lo + hi) / 2 := by omega
   by_cases hb : p ((lo + hi) / 2) = true
   ·rw [if_pos hb]
    exact bsF_spec hp f _ hi (by omega) (by omega) h2 (fun i hi' => hp i _ (by omega) (by omega) hb) h4
   ·rw [if_neg hb]
    refine bsF_spec hp f lo _ (by omega) (by omega) (by omega) h3 fun i hi' hin => ?_
    cases hx : p i with
    | false => rfl
    | true => exact (hb (hp _ i hi' hin hx)).elim
abbrev UpK (l : List Pk) : Prop := l.Pairwise fun a b => lessN a.1 b.1
theorem place_split {s : List Pk} (hu : UpK s) (x : Nm) : ∃ A B, s = A ++ B ∧ placeM s x = A.length ∧ (∀ y ∈ A, lessN y.1 x) ∧ ∀ y ∈ B, Op.bytesLess y.1 x = false := by
 have hat : ∀ i, i < s.length → s[i]? = some (s.getD i noPk) := fun i hi => by
  rw [List.getD_eq_getElem?_getD, List.getElem?_eq_getElem hi]; rfl
 have hmono : ∀ i j, i ≤ j → j < s.length → lessAt s x j = true → lessAt s x i = true := by
  intro i j hij hj h
  rcases Nat.lt_or_eq_of_le hij with hlt | rfl
  ·have := List.pairwise_iff_getElem.1 hu i j (by omega) hj hlt
   have e1 : s.getD i noPk = s[i] := by rw [List.getD_eq_getElem?_getD, List.getElem?_eq_getElem (by omega)]; rfl
   have e2 : s.getD j noPk = s[j] := by rw [List.getD_eq_getElem?_getD, List.getElem?_eq_getElem hj]; rfl
   unfold lessAt at h ⊢
   rw [e1]; rw [e2] at h
   exact less_trans this h
  ·exact h
 obtain ⟨h1, h2, h3⟩ := bsF_spec hmono s.length 0 s.length (by omega) (by omega) (Nat.le_refl _) (fun i h => absurd h (Nat.not_lt_zero _)) (fun i h k => by omega)
 refine ⟨s.take (placeM s x), s.drop (placeM s x), (List.take_append_drop _ _).symm, ?_, ?_, ?_⟩
 ·rw [List.length_take]; unfold placeM; omega
 ·intro y hy
  obtain ⟨i, hi, rfl⟩ := List.mem_iff_getElem.1 hy
  rw [List.length_take] at hi
  rw [List.getElem_take]
  have := h2 i (by unfold placeM at hi; omega)
  unfold lessAt at this
  rw [List.getD_eq_getElem?_getD, List.getElem?_eq_getElem (by omega)] at this
  exact this
 ·intro y hy
  obtain ⟨i, hi, rfl⟩ := List.mem_iff_getElem.1 hy
  rw [List.length_drop] at hi
  rw [List.getElem_drop]
  have := h3 (placeM s x + i) (by unfold placeM; omega) (by omega)
  unfold lessAt at this
  rw [List.getD_eq_getElem?_getD, List.getElem?_eq_getElem (by omega)] at this
  exact this
def getM : List Pk → Nm → Int × Bool
 | [], _ => (0, false)
 | y :: r, x => if y.1 = x then (y.2, true) else getM r x
def dropM (l : List Pk) (x : Nm) : List Pk := l.filter fun y => !(y.1 == x)
def insD (p : Pk) : List Pk → List Pk
 | [] => [p]
 | y :: r => if Op.bytesLess p.1 y.1 = true then p :: y :: r else y :: insD p r
def putD (l : List Pk) (p : Pk) : List Pk := insD p (dropM l p.1)
theorem getM_ne : ∀ {A : List Pk} {x : Nm} (B : List Pk), (∀ y ∈ A, y.1 ≠ x) → getM (A ++ B) x = getM B x
 | [], _, _, _ => rfl
 | y :: A, x, B, h => by
  simp only [List.cons_append, getM]
  rw [if_neg (h y (by simp))]
  exact getM_ne B fun z hz => h z (by simp [hz])
theorem dropM_ne {A : List Pk} {x : Nm} (h : ∀ y ∈ A, y.1 ≠ x) : dropM A x = A := by
 unfold dropM
 rw [List.filter_eq_self]
 intro y hy
 simp [h y hy]
theorem insD_less : ∀ {A : List Pk} {p : Pk} (B : List Pk), (∀ y ∈ A, lessN y.1 p.1) → insD p (A ++ B) = A ++ insD p B
 | [], _, _, _ => rfl
 | y :: A, p, B, h => by
  simp only [List.cons_append, insD]
  rw [if_neg (by rw [ltn_false (h y (by simp))]; simp), insD_less B fun z hz => h z (by simp [hz])]
theorem insD_head {p : Pk} : ∀ {B : List Pk}, (∀ y ∈ B, lessN p.1 y.1) → insD p B = p :: B
 | [], _ => rfl
 | y :: B, h => by simp only [insD]; rw [if_pos (h y (by simp))]
theorem split3 {s : List Pk} (hu : UpK s) (x : Nm) : ∃ A B, placeM s x = A.length ∧ (∀ y ∈ A, lessN y.1 x) ∧ (∀ y ∈ B, lessN x y.1) ∧ (s = A ++ B ∨ ∃ v, s = A ++ (x, v) :: B) := by
 obtain ⟨A, B, e, h1, h2, h3⟩ := place_split hu x
 subst e
 have huB : UpK B := (List.pairwise_append.1 hu).2.1
 cases B with
 | nil => exact ⟨A, [], h1, h2, by simp, .inl rfl⟩
 | cons y r =>
  have hr := (List.pairwise_cons.1 huB).1
  have hy := h3 y (by simp)
  rcases ltn_tri x y.1 with h | h | h
  ·refine ⟨A, y :: r, h1, h2, fun z hz => ?_, .inl rfl⟩
   rcases List.mem_cons.1 hz with rfl | hz
   ·exact h
   ·exact less_trans h (hr z hz)
  ·subst h
   exact ⟨A, r, h1, h2, fun z hz => hr z hz, .inr ⟨y.2, rfl⟩⟩
  ·rw [lessN, hy] at h; cases h
theorem putM_putD {s : List Pk} (hu : UpK s) (p : Pk) : putM s p = putD s p := by
 obtain ⟨A, B, h1, h2, h3, h4⟩ := split3 hu p.1
 have hA : ∀ y ∈ A, y.1 ≠ p.1 := fun y hy => ltn_ne (h2 y hy)
 have hB : ∀ y ∈ B, y.1 ≠ p.1 := fun y hy => (ltn_ne (h3 y hy)).symm
 have hd : putD s p = A ++ p :: B := by
  unfold putD
  have : dropM s p.1 = A ++ B := by
   rcases h4 with e | ⟨v, e⟩
   ·subst e
    unfold dropM; rw [List.filter_append]
    rw [show A.filter _ = A from dropM_ne hA, show B.filter _ = B from dropM_ne hB]
   ·subst e
    unfold dropM; rw [List.filter_append, List.filter_cons]
    rw [show A.filter _ = A from dropM_ne hA, show B.filter _ = B from dropM_ne hB]
    simp
  rw [this, insD_less B h2, insD_head h3]
 rw [hd]
 unfold putM
 rcases h4 with e | ⟨v, e⟩
 ·subst e
  rw [if_neg, h1]
  ·unfold insM; simp
  ·rintro ⟨k1, k2⟩
   rw [h1, List.length_append] at k1
   rw [h1] at k2
   cases B with
   | nil => simp at k1
   | cons y r =>
    rw [List.getD_eq_getElem?_getD, List.getElem?_append_right (Nat.le_refl _), Nat.sub_self] at k2
    exact hB y (by simp) k2
 ·subst e
  rw [if_pos, h1]
  ·simp
  ·rw [h1]
   refine ⟨by simp, ?_⟩
   rw [List.getD_eq_getElem?_getD, List.getElem?_append_right (Nat.le_refl _), Nat.sub_self]
   rfl
theorem put_up {s : List Pk} (hu : UpK s) (p : Pk) : UpK (putM s p) := by
 rw [putM_putD hu]
 obtain ⟨A, B, h1, h2, h3, h4⟩ := split3 hu p.1
 have hA : ∀ y ∈ A, y.1 ≠ p.1 := fun y hy => ltn_ne (h2 y hy)
 have hB : ∀ y ∈ B, y.1 ≠ p.1 := fun y hy => (ltn_ne (h3 y hy)).symm
 have hAB : UpK (A ++ B) := by
  rcases h4 with e | ⟨v, e⟩
  ·subst e; exact hu
  ·subst e
   exact hu.sublist (List.Sublist.append_left (List.sublist_cons_self _ _) _)
 have : dropM s p.1 = A ++ B := by
  rcases h4 with e | ⟨v, e⟩
  ·subst e
   unfold dropM; rw [List.filter_append]
   rw [show A.filter _ = A from dropM_ne hA, show B.filter _ = B from dropM_ne hB]
  ·subst e
   unfold dropM; rw [List.filter_append, List.filter_cons]
   rw [show A.filter _ = A from dropM_ne hA, show B.filter _ = B from dropM_ne hB]
   simp
 unfold putD
 rw [this, insD_less B h2, insD_head h3]
 obtain ⟨u1, u2, u3⟩ := List.pairwise_append.1 hAB
 refine List.pairwise_append.2 ⟨u1, List.pairwise_cons.2 ⟨fun y hy => h3 y hy, u2⟩, fun a ha b hb => ?_⟩
 rcases List.mem_cons.1 hb with rfl | hb
 ·exact h2 a ha
 ·exact u3 a ha b hb
theorem put_len (s : List Pk) (p : Pk) : (putM s p).length ≤ s.length + 1 := by
 unfold putM
 split
 ·simp
 ·unfold insM; simp; omega
end Pc
end

noncomputable section
open Go Go.Ab Go.Proofs V S T C
open E (PA pa)
open Pc (slK arK oneK slKLe renPk placeM putM getM dropM insD putD UpK lessN)
namespace Dk
abbrev Nm := List UInt8
theorem nameEq (a b : List UInt8) : ((B a).toList == (B b).toList) = decide (a = b) := by
 rw [B_toList, B_toList, Bool.eq_iff_iff]; simp
theorem getD_mem {α : Type} {l : List α} {d : α} {i : Nat} (h : i < l.length) : l.getD i d ∈ l := by
 rw [List.getD_eq_getElem?_getD, List.getElem?_eq_getElem h]; exact List.getElem_mem h
theorem rsameP4 {a b : List Pk} (hl : a.length ≤ 100000) (hab : a.length = b.length) : ∀ (m i : Nat), m + i = a.length →
  AWP Tryz.prog 26 0 c29_4 [(0, slK a), (1, slK b), (5, .int .i64 i)] [] (q29_2 0 (fun r H' => r = .bool (decide (a.drop i = b.drop i)) ∧ H' = [])) := by
 intro m
 induction m with
 | zero =>
  intro i hm
  refine v29_4 _ _ _ _ _ (condD (fun hc => by omega) fun _ => ?_)
  rw [List.drop_eq_nil_of_le (by omega), List.drop_eq_nil_of_le (by omega)]
  exact ⟨rfl, rfl⟩
 | succ m ih =>
  intro i hm
  have h := ih (i + 1) (by omega)
  refine v29_4 _ _ _ _ _ (condD (fun hc => needJ ⟨by omega, by omega⟩ (needJ ⟨by omega, by omega⟩ ?_)) fun hc => by omega)
  rw [Int.toNat_natCast, succ64 (by omega), dropD a noPk i (by omega), dropD b noPk i (by omega)]
  generalize a.getD i noPk = y
  generalize b.getD i noPk = z
  rw [nameEq, Bool.and_true]
  have e : (!(decide (y.1 = z.1) && y.2 == z.2)) = decide (y ≠ z) := by
   rw [Bool.eq_iff_iff]
   simp only [Bool.not_eq_true', Bool.and_eq_false_iff, decide_eq_false_iff_not, beq_eq_false_iff_ne, decide_eq_true_eq]
   obtain ⟨y1, y2⟩ := y
   obtain ⟨z1, z2⟩ := z
   simp only [ne_eq, Prod.mk.injEq, not_and]
   constructor
   ·rintro (h | h)
    ·exact fun h' => (h h').elim
    ·exact fun _ => h
   ·intro h
    by_cases h1 : y1 = z1
    ·exact .inr (h h1)
    ·exact .inl h1
  rw [e]
  refine condD (fun h1 => ⟨?_, rfl⟩) fun h1 => ?_
  ·rw [decide_eq_false (fun hq => h1 (List.cons.inj hq).1)]
  ·have h2 : y = z := Classical.byContradiction h1
   subst h2
   have e2 : decide (y :: a.drop (i + 1) = y :: b.drop (i + 1)) = decide (a.drop (i + 1) = b.drop (i + 1)) := by rw [decide_eq_decide]; simp
   rw [e2]; exact h
theorem rsameP_spec (a b : List Pk) (hl : a.length ≤ 100000) (H : List AObj) : ASpec Tryz.prog 29 [slK a, slK b] H (fun r H' => r = .bool (decide (a = b)) ∧ H' = H) := by
 have k : ASpec Tryz.prog 29 [slK a, slK b] [] (fun r H' => r = .bool (decide (a = b)) ∧ H' = []) := by
  refine s29 _ _ _ (condNe (fun h => ⟨?_, rfl⟩) fun h => ?_)
  ·rw [decide_eq_false (fun hq => h (by rw [hq]))]
  ·exact rsameP4 hl (by omega) a.length 0 (by omega)
 exact ASpec.pureH H k _ _ rfl rfl
def largeF : List Pk → Bool
 | [] => false
 | p :: r => if 200 < p.1.length then true else largeF r
def largeK (s : List Pk) : Bool := if 60 < s.length then true else largeF s
theorem largeF_ok : ∀ {s : List Pk}, largeF s = false → ∀ p ∈ s, p.1.length ≤ 200
 | [], _, p, hp => by simp at hp
 | x :: r, h, p, hp => by
  simp only [largeF] at h
  split at h
  ·cases h
  ·rcases List.mem_cons.1 hp with rfl | hp
   ·omega
   ·exact largeF_ok h p hp
theorem largeK_ok {s : List Pk} (h : largeK s = false) : s.length ≤ 60 ∧ ∀ p ∈ s, p.1.length ≤ 200 := by
 unfold largeK at h
 split at h
 ·cases h
 ·exact ⟨by omega, largeF_ok h⟩
theorem large4 {s : List Pk} {c : Bool} (hl : s.length ≤ 60) : ∀ (m i : Nat), m + i = s.length → largeF (s.drop i) = c →
  AWP Tryz.prog 20 0 c30_4 [(0, slK s), (3, .int .i64 i)] [] (q30_2 0 (PA (.bool c))) := by
 intro m
 induction m with
 | zero =>
  intro i hm h
  refine v30_4 _ _ _ _ (condD (fun hc => by omega) fun _ => ?_)
  rw [List.drop_eq_nil_of_le (by omega)] at h
  subst h
  exact pa (Le.refl _)
 | succ m ih =>
  intro i hm h
  rw [dropD s noPk i (by omega)] at h
  simp only [largeF] at h
  refine v30_4 _ _ _ _ (condD (fun hc => needJ ⟨by omega, by omega⟩ ?_) fun hc => by omega)
  rw [Int.toNat_natCast, succ64 (by omega)]
  generalize s.getD i noPk = p at h ⊢
  rw [B_size]
  refine condD (fun h1 => ?_) fun h1 => ?_
  ·rw [if_pos (by omega)] at h; subst h; exact pa (Le.refl _)
  ·rw [if_neg (by omega)] at h; exact ih (i + 1) (by omega) h
theorem large_spec (s : List Pk) (H : List AObj) : ASpec Tryz.prog 30 [slK s] H (fun r H' => r = .bool (largeK s) ∧ H' = H) := by
 have k : ASpec Tryz.prog 30 [slK s] [] (fun r H' => r = .bool (largeK s) ∧ H' = []) := by
  refine ASpec.sel (s30 _ _ (condD (fun h => ?_) fun h => ?_))
  ·rw [largeK, if_pos (by omega)]; exact pa (Le.refl _)
  ·refine large4 (by omega) s.length 0 (by omega) ?_
   rw [largeK, if_neg (by omega)]; rfl
 exact ASpec.pureH H k _ _ rfl rfl
def fitP (p : Pk) : Bool := fitM p.1 && decide (0 ≤ p.2 ∧ p.2 < 1000000000)
def chkF : Option Nm → List Pk → Bool
 | _, [] => true
 | o, p :: r => if fitP p = false then false else match o with
  | none => chkF (some p.1) r
  | some q => if (Op.bytesLess p.1 q || p.1 == q) = true then false else chkF (some p.1) r
def prevN (s : List Pk) : Nat → Option Nm
 | 0 => none
 | i + 1 => some (s.getD i noPk).1
theorem fitP_spec (p : Pk) (hp : p.1.length ≤ 100000) (H : List AObj) : ASpec Tryz.prog 207 [.agg (encPk p)] H (fun r H' => r = .bool (fitP p) ∧ H' = H) := by
 have k : ASpec Tryz.prog 207 [.agg (encPk p)] [] (fun r H' => r = .bool (fitP p) ∧ H' = []) := by
  refine ASpec.sel (s207 _ _ (ASpec.call (fit_spec (l := p.1) (by unfold big; omega) _) (Les.refl _) ⟨_, rfl, rfl, ?_⟩))
  unfold fitP
  refine condB (fun h => condD (fun h2 => pa ?_) fun h2 => pa ?_) fun h => pa ?_
  ·rw [h, Bool.true_and]
   have : decide (p.2 < 1000000000) = decide (0 ≤ p.2 ∧ p.2 < 1000000000) := by rw [decide_eq_decide]; omega
   rw [this]; exact Le.refl _
  ·rw [decide_eq_false (p := 0 ≤ p.2 ∧ p.2 < 1000000000) (by omega), Bool.and_false]; exact Le.refl _
  ·rw [h, Bool.false_and]; exact Le.refl _
 exact ASpec.pureH H k _ _ rfl rfl
theorem prev_some {s : List Pk} {i : Nat} (h : 0 < i) : prevN s i = some (s.getD (i - 1) noPk).1 := by
 cases i with
 | zero => omega
 | succ i => rfl
section
variable {s : List Pk} (hl : s.length ≤ 100000) (hn : ∀ p ∈ s, p.1.length ≤ 1000)
include hl hn
theorem chk2 {c : Bool} : ∀ (m i : Nat), m + i = s.length → chkF (prevN s i) (s.drop i) = c →
  AWP Tryz.prog 31 0 c159_2 [(0, slK s), (5, slK s), (6, .int .i64 s.length), (7, .int .i64 i)] [] (q159_2 0 (PA (.bool c))) := by
 intro m
 induction m with
 | zero =>
  intro i hm h
  refine v159_2 _ _ _ _ _ _ (condD (fun hc => by omega) fun _ => ?_)
  rw [List.drop_eq_nil_of_le (by omega)] at h
  have h' : true = c := by rw [← h]; cases prevN s i <;> rfl
  subst h'
  exact pa (Le.refl _)
 | succ m ih =>
  intro i hm h
  have hp := hn _ (getD_mem (d := noPk) (show i < s.length by omega))
  have hnx := ih (i + 1) (by omega)
  rw [dropD s noPk i (by omega)] at h
  have e1 : prevN s (i + 1) = some (s.getD i noPk).1 := rfl
  rw [e1] at hnx
  refine v159_2 _ _ _ _ _ _ (condD (fun hc => needJ ⟨by omega, by omega⟩ ?_) fun hc => by omega)
  rw [Int.toNat_natCast, succ64 (by omega)]
  generalize s.getD i noPk = p at h hp hnx ⊢
  refine ASpec.call (fitP_spec p (by omega) _) (Les.refl _) ⟨_, rfl, rfl, condBn (fun h1 => ?_) fun h1 => ?_⟩
  ·have : c = false := by rw [← h]; simp only [chkF, h1, if_true]
   subst this
   exact pa (Le.refl _)
  have fin : ∀ o : AObj, chkF (some p.1) (s.drop (i + 1)) = c → AWP Tryz.prog 31 0 c159_2 [(0, slK s), (5, slK s), (6, .int .i64 s.length), (7, .int .i64 ((i + 1 : Nat) : Int))] [o] (q159_2 0 (PA (.bool c))) := fun o hc =>
   AWP.shape [] [(0, slK s), (5, slK s), (6, .int .i64 s.length), (7, .int .i64 (i + 1 : Nat))] [] Sel.none ⟨rfl, slKLe _ _, rfl, slKLe _ _, rfl, Le.refl _, rfl, Le.refl _, trivial⟩ (hnx hc)
  refine condD (fun h2 => needJ ⟨?_, ?_⟩ ?_) fun h2 => fin _ ?_
  ·rw [wrap64 (by omega) (by omega)]; omega
  ·rw [wrap64 (by omega) (by omega)]; omega
  ·rw [wrap64 (by omega) (by omega), show ((i : Int) - 1).toNat = i - 1 by omega, B_toList, B_toList]
   rw [prev_some (by omega)] at h
   simp only [chkF, h1, Bool.true_eq_false, if_false] at h
   refine condB (fun h3 => ?_) fun h3 => fin _ ?_
   ·rw [if_pos h3] at h; subst h; exact pa (Le.refl _)
   ·rw [if_neg (by rw [h3]; simp)] at h; exact h
  ·have : i = 0 := by omega
   subst this
   simp only [prevN, chkF, h1, Bool.true_eq_false, if_false] at h
   exact h
theorem chk_spec (H : List AObj) : ASpec Tryz.prog 159 [slK s] H (fun r H' => r = .bool (chkF none s) ∧ H' = H) := by
 have k : ASpec Tryz.prog 159 [slK s] [] (fun r H' => r = .bool (chkF none s) ∧ H' = []) := ASpec.sel (s159 _ _ (chk2 hl hn s.length 0 (by omega) rfl))
 exact ASpec.pureH H k _ _ rfl rfl
end
theorem chk_rises : ∀ {s : List Pk} {q : Nm}, chkF (some q) s = true → (∀ y ∈ s, lessN q y.1) ∧ UpK s
 | [], q, _ => ⟨by simp, List.Pairwise.nil⟩
 | p :: r, q, h => by
  simp only [chkF] at h
  split at h
  ·cases h
  ·split at h
   ·cases h
   ·rename_i hb
    have hb : (Op.bytesLess p.1 q || p.1 == q) = false := by simpa using hb
    rw [Bool.or_eq_false_iff] at hb
    have hlt : lessN q p.1 := Dp.less_tri hb.1 (by simpa using hb.2)
    obtain ⟨h1, h2⟩ := chk_rises h
    refine ⟨fun y hy => ?_, List.pairwise_cons.2 ⟨h1, h2⟩⟩
    rcases List.mem_cons.1 hy with rfl | hy
    ·exact hlt
    ·exact Dp.less_trans hlt (h1 y hy)
theorem chk_up {s : List Pk} (h : chkF none s = true) : UpK s := by
 cases s with
 | nil => exact List.Pairwise.nil
 | cons p r =>
  simp only [chkF] at h
  split at h
  ·cases h
  ·obtain ⟨h1, h2⟩ := chk_rises h
   exact List.pairwise_cons.2 ⟨h1, h2⟩
theorem back2v {s : List Pk} {x : List UInt8} {lo hi : Int} {n : Nat} {Post : AV → List AObj → Prop}
  (h : AWP Tryz.prog 28 n In.c124_2 [(0, slK s), (1, .str ⟨x.toArray⟩), (5, .int .i64 lo), (6, .int .i64 hi)] [] (In.q124_1 n Post)) :
  AWPS Tryz.prog 28 n (codeFst (codeSnd In.c124)) (.seq .skip In.c124_2) [(0, slK s), (1, .str ⟨x.toArray⟩), (5, .int .i64 lo), (6, .int .i64 hi)] [] (In.q124_0 n Post) :=
 AWPS.of In.g124 (awp_sound In.g124 n _ _ _ _ (kc (by kernel_rfl) h))
theorem place2v {s : List Pk} {x : List UInt8} (hl : s.length ≤ 100000000) : ∀ (m lo hi : Nat), hi - lo ≤ m → lo ≤ hi → hi ≤ s.length →
  AWP Tryz.prog 28 0 In.c124_2 [(0, slK s), (1, .str (B x)), (5, .int .i64 lo), (6, .int .i64 hi)] [] (In.q124_1 0 (fun r H' => r = .int .i64 (Pc.bsF (Pc.lessAt s x) m lo hi) ∧ H' = [])) := by
 intro m
 induction m with
 | zero =>
  intro lo hi hm h1 h2
  exact In.v124_2v s x lo hi 0 _ (condE (fun _ => ⟨rfl, rfl⟩) fun h => absurd (by omega) h)
 | succ m ih =>
  intro lo hi hm h1 h2
  refine In.v124_2v s x lo hi 0 _ (condE (fun he => ⟨by rw [Pc.bsF, if_pos (by omega)], rfl⟩) fun hne => needJ (by decide) ?_)
  rw [Pc.half64 (by omega), Int.toNat_natCast]
  refine needJ ⟨by omega, by omega⟩ ?_
  rw [B_toList, B_toList]
  have hlt : lo ≠ hi := by omega
  refine condB (fun hc => back2v ?_) fun hc => back2v ?_
  ·rw [Pc.bsF, if_neg hlt, if_pos (show Pc.lessAt s x ((lo + hi) / 2) = true from hc), show IntKind.wrap .i64 ((((lo + hi) / 2 : Nat) : Int) + 1) = (((lo + hi) / 2 + 1 : Nat) : Int) by rw [wrap64 (by omega) (by omega)]; omega]
   exact ih _ _ (by omega) (by omega) h2
  ·rw [Pc.bsF, if_neg hlt, if_neg (by rw [show Pc.lessAt s x ((lo + hi) / 2) = false from hc]; simp)]
   exact ih _ _ (by omega) (by omega) (by omega)
theorem placev_spec (s : List Pk) (x : List UInt8) (hl : s.length ≤ 100000000) (H : List AObj) : ASpec Tryz.prog 124 [slK s, .str (B x)] H (fun r H' => r = .int .i64 (placeM s x) ∧ H' = H) :=
 ASpec.pureH H (In.s124v s x _ (place2v hl s.length 0 s.length (by omega) (by omega) (Nat.le_refl _))) _ _ rfl rfl
def getP (s : List Pk) (x : Nm) : Int × Bool := if placeM s x < s.length ∧ (s.getD (placeM s x) noPk).1 = x then ((s.getD (placeM s x) noPk).2, true) else (0, false)
theorem get_spec (s : List Pk) (x : Nm) (hl : s.length ≤ 100000) (H : List AObj) : ASpec Tryz.prog 76 [slK s, .str (B x)] H (fun r H' => r = .tup [.int .i64 (getP s x).1, .bool (getP s x).2] ∧ H' = H) := by
 have k : ASpec Tryz.prog 76 [slK s, .str (B x)] [] (fun r H' => r = .tup [.int .i64 (getP s x).1, .bool (getP s x).2] ∧ H' = []) := by
  have hle := Pc.placeM_le s x
  refine ASpec.sel (s76 _ _ _ (ASpec.call (placev_spec s x (by omega) _) (Les.refl _) ⟨_, rfl, rfl, condE (fun h => pa ?_) fun h => needJ ⟨by omega, by omega⟩ ?_⟩))
  ·rw [getP, if_neg (by omega)]; exact Le.refl _
  rw [Int.toNat_natCast]
  refine condSn (fun h1 => pa ?_) fun h1 => needJ ⟨by omega, by omega⟩ (pa ?_)
  ·rw [getP, if_neg (fun hh => h1 hh.2)]; exact Le.refl _
  ·rw [getP, if_pos ⟨by omega, h1⟩]; exact Le.refl _
 exact ASpec.pureH H k _ _ rfl rfl
theorem get_one {s : List Pk} (hu : UpK s) (x : Nm) : getP s x = getM s x := by
 obtain ⟨A, B', hp, hA, hB, hs⟩ := Pc.split3 hu x
 have hAne : ∀ y ∈ A, y.1 ≠ x := fun y hy => Pc.ltn_ne (hA y hy)
 have hBne : ∀ y ∈ B', y.1 ≠ x := fun y hy e => Pc.ltn_ne (hB y hy) e.symm
 rcases hs with rfl | ⟨v, rfl⟩
 ·rw [Pc.getM_ne _ hAne]
  have e0 : getM B' x = (0, false) := by
   have := Pc.getM_ne (A := B') (x := x) [] hBne
   rw [List.append_nil] at this
   rw [this]; rfl
  rw [e0, getP, if_neg]
  rintro ⟨h1, h2⟩
  rw [hp] at h1 h2
  have : (A ++ B').getD A.length noPk ∈ B' := by
   rw [List.getD_eq_getElem?_getD, List.getElem?_append_right (Nat.le_refl _), Nat.sub_self]
   cases B' with
   | nil => simp at h1
   | cons b r => simp
  exact hBne _ this h2
 ·rw [Pc.getM_ne _ hAne]
  have e0 : getM ((x, v) :: B') x = (v, true) := by simp [getM]
  have e1 : (A ++ (x, v) :: B').getD A.length noPk = (x, v) := by
   rw [List.getD_eq_getElem?_getD, List.getElem?_append_right (Nat.le_refl _), Nat.sub_self]; rfl
  rw [e0, getP, hp, e1, if_pos ⟨by simp, rfl⟩]
end Dk
end

noncomputable section
open Go Go.Ab Go.Proofs V S T C
open E (PA pa)
open Pc (slK arK oneK slKLe renPk placeM getM dropM insD putD UpK lessN)
namespace Pc
end Pc
namespace Dk
end Dk
end

noncomputable section
open Go Go.Ab Go.Proofs V S T C
namespace Sp
def inS (s : Span) (p : Int) : Bool := decide (s.1 ≤ p ∧ p < s.2)
def hasS (l : List Span) (p : Int) : Bool := l.any (fun s => inS s p)
theorem hasS_nil (p : Int) : hasS [] p = false := rfl
theorem hasS_cons (x : Span) (l : List Span) (p : Int) : hasS (x :: l) p = (inS x p || hasS l p) := rfl
theorem hasS_append (a b : List Span) (p : Int) : hasS (a ++ b) p = (hasS a p || hasS b p) := by simp [hasS]
theorem inS_iff {s : Span} {p : Int} : inS s p = true ↔ s.1 ≤ p ∧ p < s.2 := by simp [inS]
theorem inS_false {s : Span} {p : Int} : inS s p = false ↔ ¬ (s.1 ≤ p ∧ p < s.2) := by simp [inS]
theorem chkS_cons {e : Int} {x : Span} {r : List Span} (h : chkS e (x :: r) = true) : e < x.1 ∧ x.1 < x.2 ∧ x.2 ≤ 1000000000 ∧ chkS x.2 r = true := by
 simp only [chkS] at h
 split at h
 ·cases h
 ·exact ⟨by omega, by omega, by omega, h⟩
theorem chkS_mk {e : Int} {x : Span} {r : List Span} (h1 : e < x.1) (h2 : x.1 < x.2) (h3 : x.2 ≤ 1000000000) (h4 : chkS x.2 r = true) : chkS e (x :: r) = true := by
 simp only [chkS]
 rw [if_neg (by omega)]; exact h4
theorem chkS_low : ∀ {e : Int} {l : List Span} {p : Int}, chkS e l = true → p ≤ e → hasS l p = false
 | _, [], _, _, _ => rfl
 | e, x :: r, p, h, hp => by
  obtain ⟨h1, h2, h3, h4⟩ := chkS_cons h
  rw [hasS_cons, chkS_low h4 (by omega), inS_false.2 (by omega)]; rfl
theorem ext : ∀ {a b : List Span} {e e' : Int}, chkS e a = true → chkS e' b = true → (∀ p, hasS a p = hasS b p) → a = b
 | [], [], _, _, _, _, _ => rfl
 | [], y :: t, _, _, _, hb, h => by
  obtain ⟨h1, h2, h3, h4⟩ := chkS_cons hb
  have := h y.1
  rw [hasS_cons, inS_iff.2 (by omega)] at this
  cases this
 | x :: r, [], _, _, ha, _, h => by
  obtain ⟨h1, h2, h3, h4⟩ := chkS_cons ha
  have := h x.1
  rw [hasS_cons, inS_iff.2 (by omega)] at this
  cases this
 | x :: r, y :: t, e, e', ha, hb, h => by
  obtain ⟨a1, a2, a3, a4⟩ := chkS_cons ha
  obtain ⟨b1, b2, b3, b4⟩ := chkS_cons hb
  have key : ∀ p, p ≤ x.2 → p ≤ y.2 → inS x p = inS y p := by
   intro p h1 h2
   have := h p
   rw [hasS_cons, hasS_cons, chkS_low a4 h1, chkS_low b4 h2, Bool.or_false, Bool.or_false] at this
   exact this
  have f1 : x.1 = y.1 := by
   by_cases h1 : x.1 < y.1
   ·have := key x.1 (by omega) (by omega)
    rw [inS_iff.2 (by omega), eq_comm, inS_iff] at this; omega
   ·by_cases h2 : y.1 < x.1
    ·have := key y.1 (by omega) (by omega)
     rw [eq_comm, inS_iff.2 (by omega), eq_comm, inS_iff] at this; omega
    ·omega
  have f2 : x.2 = y.2 := by
   by_cases h1 : x.2 < y.2
   ·have := key x.2 (by omega) (by omega)
    rw [eq_comm, inS_iff.2 (by omega), eq_comm, inS_iff] at this; omega
   ·by_cases h2 : y.2 < x.2
    ·have := key y.2 (by omega) (by omega)
     rw [inS_iff.2 (by omega), eq_comm, inS_iff] at this; omega
    ·omega
  have hxy : x = y := Prod.ext f1 f2
  subst hxy
  rw [ext a4 b4 (fun p => ?_)]
  by_cases hp : p ≤ x.2
  ·rw [chkS_low a4 hp, chkS_low b4 hp]
  ·have := h p
   rw [hasS_cons, hasS_cons, inS_false.2 (by omega), Bool.false_or, Bool.false_or] at this
   exact this
def lastS (e : Int) : List Span → Int
 | [] => e
 | x :: r => lastS x.2 r
theorem lastS_append (e : Int) (x : Span) : ∀ (l : List Span) (e : Int), lastS e (l ++ [x]) = x.2
 | [], e => rfl
 | y :: r, e => lastS_append e x r y.2
theorem chkS_append : ∀ {l : List Span} {e : Int} {x : Span}, chkS e l = true → lastS e l < x.1 → x.1 < x.2 → x.2 ≤ 1000000000 → chkS e (l ++ [x]) = true
 | [], e, x, _, h1, h2, h3 => chkS_mk h1 h2 h3 rfl
 | y :: r, e, x, h, h1, h2, h3 => by
  obtain ⟨a1, a2, a3, a4⟩ := chkS_cons h
  exact chkS_mk a1 a2 a3 (chkS_append a4 h1 h2 h3)
theorem chkS_front : ∀ {l : List Span} {e : Int} {x : Span}, chkS e (l ++ [x]) = true → chkS e l = true ∧ lastS e l < x.1 ∧ x.1 < x.2 ∧ x.2 ≤ 1000000000
 | [], e, x, h => by
  obtain ⟨a1, a2, a3, a4⟩ := chkS_cons h
  exact ⟨rfl, a1, a2, a3⟩
 | y :: r, e, x, h => by
  obtain ⟨a1, a2, a3, a4⟩ := chkS_cons h
  obtain ⟨b1, b2, b3, b4⟩ := chkS_front a4
  exact ⟨chkS_mk a1 a2 a3 b1, b2, b3, b4⟩
def addS (l : List Span) (s : Span) : List Span :=
 if 0 < l.length ∧ s.1 ≤ (l.getD (l.length - 1) (0, 0)).2 then l.take (l.length - 1) ++ [((l.getD (l.length - 1) (0, 0)).1, max (l.getD (l.length - 1) (0, 0)).2 s.2)] else l ++ [s]
theorem split_last (l : List Span) (h : 0 < l.length) : l = l.take (l.length - 1) ++ [l.getD (l.length - 1) (0, 0)] := by
 have h1 := List.take_append_drop (l.length - 1) l
 rw [dropD l (0, 0) (l.length - 1) (by omega), List.drop_eq_nil_of_le (by omega)] at h1
 exact h1.symm
theorem addS_ok {l : List Span} {at_ to : Int} (h : chkS (-1) l = true) (he : lastS (-1) l ≤ at_) (h0 : 0 ≤ at_) (h1 : at_ < to) (h2 : to ≤ 1000000000) :
  chkS (-1) (addS l (at_, to)) = true ∧ lastS (-1) (addS l (at_, to)) = to ∧ ∀ p, hasS (addS l (at_, to)) p = (hasS l p || inS (at_, to) p) := by
 unfold addS
 split
 ·rename_i hc
  have hl := split_last l hc.1
  generalize l.take (l.length - 1) = r at hl ⊢
  generalize l.getD (l.length - 1) (0, 0) = x at hl hc ⊢
  subst hl
  rw [lastS_append (-1)] at he
  obtain ⟨a1, a2, a3, a4⟩ := chkS_front h
  have hx : max x.2 to = to := by omega
  have hxa : x.2 = at_ := by have := hc.2; simp only at this; omega
  simp only [hx]
  refine ⟨chkS_append a1 a2 (by simp only; omega) h2, lastS_append (-1) _ _ _, fun p => ?_⟩
  rw [hasS_append, hasS_append, hasS_cons, hasS_cons, hasS_nil, Bool.or_false, Bool.or_false, Bool.or_assoc]
  congr 1
  rw [Bool.eq_iff_iff, Bool.or_eq_true, inS_iff, inS_iff, inS_iff]
  simp only; omega
 ·rename_i hc
  refine ⟨chkS_append h ?_ h1 h2, lastS_append (-1) _ _ _, fun p => ?_⟩
  ·cases hz : l with
   | nil => simp only [lastS]; omega
   | cons y t =>
    have hpos : 0 < l.length := by rw [hz]; simp
    have hl := split_last l hpos
    have : lastS (-1) l = (l.getD (l.length - 1) (0, 0)).2 := by
     conv => lhs; rw [hl]
     exact lastS_append (-1) _ _ _
    rw [← hz, this]
    simp only [hpos, true_and, Int.not_le] at hc
    exact hc
  ·rw [hasS_append, hasS_cons, hasS_nil, Bool.or_false]
def aftS (p : Int) : List Span → Nat
 | [] => 0
 | x :: r => if x.2 ≤ p then aftS p r + 1 else 0
theorem aftS_le (p : Int) : ∀ l : List Span, aftS p l ≤ l.length
 | [] => Nat.le_refl _
 | x :: r => by
  simp only [aftS]
  split
  ·have := aftS_le p r; simp; omega
  ·simp
theorem aftS_lt (p : Int) : ∀ (l : List Span) (i : Nat), i < aftS p l → (l.getD i (0, 0)).2 ≤ p
 | [], i, h => by simp [aftS] at h
 | x :: r, i, h => by
  simp only [aftS] at h
  split at h
  ·rename_i hx
   match i, h with
   | 0, _ => exact hx
   | i + 1, h => exact aftS_lt p r i (by omega)
  ·omega
theorem chkS_rise : ∀ {l : List Span} {e : Int}, chkS e l = true → ∀ i, i < l.length → e < (l.getD i (0, 0)).1 ∧ (l.getD i (0, 0)).1 < (l.getD i (0, 0)).2 ∧ (l.getD i (0, 0)).2 ≤ 1000000000 ∧ ∀ j, j < i → (l.getD j (0, 0)).2 < (l.getD i (0, 0)).1
 | [], e, _, i, hi => by simp at hi
 | x :: r, e, h, i, hi => by
  obtain ⟨a1, a2, a3, a4⟩ := chkS_cons h
  match i, hi with
  | 0, _ => exact ⟨a1, a2, a3, fun j hj => by omega⟩
  | i + 1, hi =>
   obtain ⟨b1, b2, b3, b4⟩ := chkS_rise a4 i (by simpa using hi)
   simp only [List.getD_cons_succ]
   refine ⟨by omega, b2, b3, fun j hj => ?_⟩
   match j, hj with
   | 0, _ => exact b1
   | j + 1, hj => exact b4 j (by omega)
theorem aftS_at (p : Int) : ∀ (l : List Span), aftS p l < l.length → p < (l.getD (aftS p l) (0, 0)).2
 | [], h => by simp at h
 | x :: r, h => by
  simp only [aftS] at h ⊢
  split
  ·rename_i hx
   rw [if_pos hx] at h
   exact aftS_at p r (by simpa using h)
  ·rename_i hx
   simp only [List.getD_cons_zero]; omega
theorem aftS_ge {l : List Span} {e p : Int} (hs : chkS e l = true) {i : Nat} (h : aftS p l ≤ i) (hi : i < l.length) : p < (l.getD i (0, 0)).2 := by
 have h0 := aftS_at p l (by omega)
 rcases Nat.eq_or_lt_of_le h with e1 | e1
 ·rw [← e1]; exact h0
 ·obtain ⟨_, h2, _, h4⟩ := chkS_rise hs i hi
  have := h4 _ e1
  omega
theorem hasS_aft : ∀ {l : List Span} {e : Int} {p : Int}, chkS e l = true → (hasS l p = true ↔ aftS p l < l.length ∧ (l.getD (aftS p l) (0, 0)).1 ≤ p)
 | [], e, p, _ => by simp [hasS]
 | x :: r, e, p, h => by
  obtain ⟨a1, a2, a3, a4⟩ := chkS_cons h
  rw [hasS_cons, Bool.or_eq_true]
  by_cases hx : x.2 ≤ p
  ·have e1 : aftS p (x :: r) = aftS p r + 1 := by simp only [aftS, if_pos hx]
   rw [e1, hasS_aft a4, inS_iff]
   simp only [List.length_cons, List.getD_cons_succ, Nat.add_lt_add_iff_right]
   constructor
   ·rintro (h | h)
    ·omega
    ·exact h
   ·exact .inr
  ·have e1 : aftS p (x :: r) = 0 := by simp only [aftS, if_neg hx]
   rw [e1, inS_iff]
   simp only [List.length_cons, List.getD_cons_zero]
   constructor
   ·rintro (h | h)
    ·exact ⟨by omega, h.1⟩
    ·by_cases h1 : x.1 ≤ p
     ·exact ⟨by omega, h1⟩
     ·rw [chkS_low a4 (by omega)] at h; cases h
   ·rintro ⟨_, h1⟩; exact .inl ⟨h1, by omega⟩
def nextS (l : List Span) (p : Int) : Int :=
 if aftS p l = l.length then 1000000000 else if p < (l.getD (aftS p l) (0, 0)).1 then (l.getD (aftS p l) (0, 0)).1 else (l.getD (aftS p l) (0, 0)).2
theorem nextS_gt {l : List Span} {e p : Int} (hs : chkS e l = true) (hp : p < 1000000000) : p < nextS l p ∧ nextS l p ≤ 1000000000 := by
 unfold nextS
 split
 ·exact ⟨hp, Int.le_refl _⟩
 ·rename_i h
  have := aftS_le p l
  obtain ⟨h1, h2, h3, _⟩ := chkS_rise hs (aftS p l) (by omega)
  have h0 := aftS_at p l (by omega)
  split
  ·omega
  ·omega
theorem nextS_same : ∀ {l : List Span} {e p q : Int}, chkS e l = true → p ≤ q → q < nextS l p → hasS l q = hasS l p
 | [], e, p, q, _, _, _ => rfl
 | x :: r, e, p, q, h, h1, h2 => by
  obtain ⟨a1, a2, a3, a4⟩ := chkS_cons h
  rw [hasS_cons, hasS_cons]
  by_cases hx : x.2 ≤ p
  ·have e2 : nextS (x :: r) p = nextS r p := by
    simp only [nextS, aftS, if_pos hx, List.length_cons, List.getD_cons_succ, Nat.add_right_cancel_iff]
   rw [e2] at h2
   rw [nextS_same a4 h1 h2, inS_false.2 (by omega), inS_false.2 (by omega)]
  ·have e2 : nextS (x :: r) p = if p < x.1 then x.1 else x.2 := by
    simp only [nextS, aftS, if_neg hx, List.length_cons, List.getD_cons_zero]
    rw [if_neg (by omega)]
   rw [e2] at h2
   rw [chkS_low a4 (show p ≤ x.2 by omega)]
   split at h2
   ·rw [chkS_low a4 (show q ≤ x.2 by omega), inS_false.2 (by omega), inS_false.2 (by omega)]
   ·rw [chkS_low a4 (show q ≤ x.2 by omega), inS_iff.2 (by omega), inS_iff.2 (by omega)]
def Kept (f : Int → Bool) (at_ : Int) (l : List Span) : Prop := chkS (-1) l = true ∧ lastS (-1) l ≤ at_ ∧ ∀ p, hasS l p = (decide (0 ≤ p ∧ p < at_) && f p)
theorem kept_nil (f : Int → Bool) : Kept f 0 [] := ⟨rfl, by simp [lastS], fun p => by
 rw [hasS_nil, decide_eq_false (by omega)]; rfl⟩
theorem kept_put {f : Int → Bool} {at_ to : Int} {l : List Span} (h : Kept f at_ l) (h0 : 0 ≤ at_) (h1 : at_ < to) (h2 : to ≤ 1000000000) (hf : ∀ q, at_ ≤ q → q < to → f q = true) : Kept f to (addS l (at_, to)) := by
 obtain ⟨a, b, c⟩ := h
 obtain ⟨x, y, z⟩ := addS_ok a b h0 h1 h2
 refine ⟨x, by omega, fun p => ?_⟩
 rw [z, c]
 by_cases hp : at_ ≤ p ∧ p < to
 ·rw [inS_iff.2 hp, Bool.or_true, hf p hp.1 hp.2, decide_eq_true (by omega)]; rfl
 ·rw [inS_false.2 hp, Bool.or_false]
  congr 1
  rw [Bool.eq_iff_iff, decide_eq_true_iff, decide_eq_true_iff]; omega
theorem kept_skip {f : Int → Bool} {at_ to : Int} {l : List Span} (h : Kept f at_ l) (h1 : at_ ≤ to) (hf : ∀ q, at_ ≤ q → q < to → f q = false) : Kept f to l := by
 obtain ⟨a, b, c⟩ := h
 refine ⟨a, by omega, fun p => ?_⟩
 rw [c]
 by_cases hp : at_ ≤ p ∧ p < to
 ·rw [hf p hp.1 hp.2]; simp
 ·congr 1
  rw [Bool.eq_iff_iff, decide_eq_true_iff, decide_eq_true_iff]; omega
theorem kept_one {f : Int → Bool} {l l' : List Span} (h : Kept f 1000000000 l) (h' : Kept f 1000000000 l') : l = l' := ext h.1 h'.1 (fun p => by rw [h.2.2, h'.2.2])
end Sp
end

noncomputable section
open Go Go.Ab Go.Proofs V S T C
open W (sl1 slS slN slR leNone renS)
open Sp
namespace Sg
abbrev PA (r0 : AV) : AV → List AObj → Prop := fun r H' => ∃ l H2 r2, Sel 0 l H' H2 ∧ Le r (AV.ren (selR l H'.length) r2) ∧ (r2 = r0 ∧ H2 = [])
theorem pa {r r0 : AV} {H' : List AObj} (h : Le r (AV.ren (selR [] H'.length) r0)) : PA r0 r H' := ⟨[], [], r0, Sel.none, h, rfl, rfl⟩
abbrev ok (l : List Span) : Prop := chkS (-1) l = true
theorem chkS_len : ∀ {l : List Span} {e : Int}, chkS e l = true → (l.length : Int) ≤ lastS e l - e
 | [], e, _ => by simp [lastS]
 | x :: r, e, h => by
  obtain ⟨h1, h2, h3, h4⟩ := chkS_cons h
  have := chkS_len h4
  simp only [lastS, List.length_cons]; omega
theorem lastS_top : ∀ {l : List Span} {e : Int}, chkS e l = true → e ≤ 1000000000 → lastS e l ≤ 1000000000
 | [], e, _, h => h
 | x :: r, e, h, _ => by
  obtain ⟨h1, h2, h3, h4⟩ := chkS_cons h
  simp only [lastS]
  exact lastS_top h4 h3
theorem ok_len {l : List Span} (h : ok l) : l.length ≤ 1000000001 := by
 have h1 := chkS_len h
 have h2 := lastS_top h (by omega)
 omega
theorem suc64 {i : Nat} (h : i ≤ 100000000000) : IntKind.wrap .i64 ((i : Int) + 1) = ((i + 1 : Nat) : Int) := by rw [wrap64 (by omega) (by omega)]; simp
theorem pre64 {i : Nat} (h : i ≤ 100000000000) (h1 : 0 < i) : IntKind.wrap .i64 ((i : Int) - 1) = ((i - 1 : Nat) : Int) := by rw [wrap64 (by omega) (by omega)]; omega
theorem mid64 {i j : Nat} (h : i + j ≤ 100000000000) : IntKind.wrap .i64 (Int.fdiv (IntKind.wrap .u64 (IntKind.wrap .i64 ((i : Int) + j))) 2) = (((i + j) / 2 : Nat) : Int) := by
 rw [wrap64 (x := (i : Int) + j) (by omega) (by omega)]
 have e : IntKind.wrap .u64 ((i : Int) + j) = ((i + j : Nat) : Int) := by
  simp only [IntKind.wrap, IntKind.bits, IntKind.signed]
  have e : (2 : Int) ^ 64 = 18446744073709551616 := by decide
  simp only [e, Bool.false_and]
  rw [if_neg (by simp)]
  omega
 rw [e, show Int.fdiv ((i + j : Nat) : Int) 2 = (((i + j) / 2 : Nat) : Int) by rw [Int.fdiv_eq_ediv_of_nonneg _ (by omega)]; omega]
 rw [wrap64 (by omega) (by omega)]
theorem aftf_spec (x : Span) (p : Int) (H : List AObj) : ASpec Tryz.prog 186 [.agg (encS x), .int .i64 p] H (fun r H' => r = .int .i64 (if x.2 ≤ p then -1 else 1) ∧ H' = H) := by
 have k : ASpec Tryz.prog 186 [.agg (encS x), .int .i64 p] [] (fun r H' => r = .int .i64 (if x.2 ≤ p then -1 else 1) ∧ H' = []) :=
  ASpec.sel (s186 _ _ _ (condD (fun h => pa (by rw [if_pos h]; exact Le.refl _)) fun h => pa (by rw [if_neg h]; exact Le.refl _)))
 exact ASpec.pureH H k _ _ rfl rfl
theorem bsf3 {l : List Span} {p : Int} (hs : ok l) : ∀ (m i j : Nat), j - i ≤ m → i ≤ aftS p l → aftS p l ≤ j → j ≤ l.length →
  AWP Tryz.prog 49 0 c185_3 [(0, slS l), (1, .int .i64 p), (2, .fn 186 []), (8, .int .i64 l.length), (9, .int .i64 i), (10, .int .i64 j)] []
   (q185_2 0 (PA (.tup [.int .i64 (aftS p l : Nat), .bool false]))) := by
 have hl := ok_len hs
 have done : ∀ i : Nat, i = aftS p l → condP (decide ((i : Int) < (l.length : Int))) (needP (0 ≤ (i : Int) ∧ (i : Int) < (l.length : Int)) (ASpec Tryz.prog 186 [.agg (encS (l.getD (i : Int).toNat (0, 0))), .int .i64 p] []
   (fun r H' => ∃ x : Int, r = .int .i64 x ∧ H' = [] ∧ PA (.tup [.int .i64 (aftS p l : Nat), .bool false]) (.tup [.int .i64 i, .bool (x == 0)]) [])))
   (PA (.tup [.int .i64 (aftS p l : Nat), .bool false]) (.tup [.int .i64 i, .bool false]) []) := by
  rintro i rfl
  refine condD (fun h => needJ ⟨by omega, h⟩ ?_) fun h => pa (Le.refl _)
  refine ASpec.call (aftf_spec _ p _) (Les.refl _) ⟨_, rfl, rfl, pa ?_⟩
  have e : ((if (l.getD ((aftS p l : Nat) : Int).toNat (0, 0)).2 ≤ p then (-1 : Int) else 1) == 0) = false := by split <;> rfl
  rw [e]; exact Le.refl _
 intro m
 induction m with
 | zero =>
  intro i j h1 h2 h3 h4
  exact v185_3 _ _ _ _ _ _ _ (condD (fun hc => by omega) fun _ => done i (by omega))
 | succ m ih =>
  intro i j h1 h2 h3 h4
  refine v185_3 _ _ _ _ _ _ _ (condD (fun hc => needJ (by omega) ?_) fun _ => done i (by omega))
  rw [mid64 (by omega)]
  have hm1 : i ≤ (i + j) / 2 := by omega
  have hm2 : (i + j) / 2 < j := by omega
  refine needJ ⟨by omega, by omega⟩ ?_
  generalize (i + j) / 2 = h at hm1 hm2 ⊢
  rw [Int.toNat_natCast]
  refine ASpec.call (aftf_spec _ p _) (Les.refl _) ⟨_, rfl, rfl, ?_⟩
  by_cases hc : (l.getD h (0, 0)).2 ≤ p
  ·rw [if_pos hc]
   refine condD (fun _ => ?_) fun hc => by omega
   rw [suc64 (by omega)]
   refine ih (h + 1) j (by omega) ?_ h3 h4
   rcases Nat.lt_or_ge h (aftS p l) with hk | hk
   ·omega
   ·have := aftS_ge hs hk (by omega); omega
  ·rw [if_neg hc]
   refine condD (fun hc => by omega) fun _ => ?_
   refine ih i h (by omega) h2 ?_ (by omega)
   rcases Nat.lt_or_ge h (aftS p l) with hk | hk
   ·exact (hc (aftS_lt p l h hk)).elim
   ·exact hk
theorem after_spec (l : List Span) (p : Int) (hs : ok l) (H : List AObj) : ASpec Tryz.prog 144 [slS l, .int .i64 p] H (fun r H' => r = .int .i64 (aftS p l : Nat) ∧ H' = H) := by
 have k : ASpec Tryz.prog 144 [slS l, .int .i64 p] [] (fun r H' => r = .int .i64 (aftS p l : Nat) ∧ H' = []) := by
  have k2 : ASpec Tryz.prog 185 [slS l, .int .i64 p, .fn 186 []] [] (fun r H' => r = .tup [.int .i64 (aftS p l : Nat), .bool false] ∧ H' = []) :=
   ASpec.sel (s185 _ _ _ (bsf3 hs l.length 0 l.length (by omega) (by omega) (aftS_le p l) (by omega)))
  exact s144 _ _ _ (ASpec.call k2 (Les.refl _) ⟨(((aftS p l : Nat) : Int), false), rfl, rfl, rfl, rfl⟩)
 exact ASpec.pureH H k _ _ rfl rfl
theorem has_spec (l : List Span) (p : Int) (hs : ok l) (H : List AObj) : ASpec Tryz.prog 101 [slS l, .int .i64 p] H (fun r H' => r = .bool (hasS l p) ∧ H' = H) := by
 have k : ASpec Tryz.prog 101 [slS l, .int .i64 p] [] (fun r H' => r = .bool (hasS l p) ∧ H' = []) := by
  have e := hasS_aft (p := p) hs
  refine s101 _ _ _ (ASpec.call (after_spec l p hs _) (Les.refl _) ⟨_, rfl, rfl, condD (fun h => needJ ⟨by omega, h⟩ ⟨?_, rfl⟩) fun h => ⟨?_, rfl⟩⟩)
  ·rw [Int.toNat_natCast]
   congr 1
   rw [Bool.eq_iff_iff, e, decide_eq_true_iff]
   exact ⟨fun h2 => ⟨by omega, h2⟩, fun h2 => h2.2⟩
  ·congr 1
   symm
   cases hx : hasS l p with
   | false => rfl
   | true => have := (e.1 hx).1; omega
 exact ASpec.pureH H k _ _ rfl rfl
theorem next_spec (l : List Span) (p : Int) (hs : ok l) (H : List AObj) : ASpec Tryz.prog 150 [slS l, .int .i64 p] H (fun r H' => r = .int .i64 (nextS l p) ∧ H' = H) := by
 have k : ASpec Tryz.prog 150 [slS l, .int .i64 p] [] (fun r H' => r = .int .i64 (nextS l p) ∧ H' = []) := by
  have hle := aftS_le p l
  refine s150 _ _ _ (ASpec.call (after_spec l p hs _) (Les.refl _) ⟨_, rfl, rfl, condE (fun h => ⟨?_, rfl⟩) fun h => needJ ⟨by omega, by omega⟩ ?_⟩)
  ·rw [nextS, if_pos (by omega)]
  ·rw [Int.toNat_natCast]
   refine condD (fun h2 => needJ ⟨by omega, by omega⟩ ⟨?_, rfl⟩) fun h2 => needJ ⟨by omega, by omega⟩ ⟨?_, rfl⟩
   ·rw [nextS, if_neg (by omega), if_pos (by omega)]
   ·rw [nextS, if_neg (by omega), if_neg (by omega)]
 exact ASpec.pureH H k _ _ rfl rfl
abbrev arS (o : List Span) : AObj := .arr 2 (.map encS (0, 0) o)
theorem add_nil (s : Span) (H : List AObj) : ASpec Tryz.prog 151 [.sl 0 (.raw []) .nil, .agg (encS s)] H (fun r H' => r = .msl 2 H.length 0 1 ∧ H' = H ++ [arS [s]]) := by
 have k : ASpec Tryz.prog 151 [.sl 0 (.raw []) .nil, .agg (encS s)] [] (fun r H' => r = .msl 2 0 0 1 ∧ H' = [arS [s]]) := by
  refine ASpec.arrEnd (ASpec.sel (s151n _ _ (needJ (by omega) (needJ (by omega) ?_))))
  refine ⟨[1], [.arr 2 (.raw [encS s])], .msl 2 0 0 1, Sel.one 1 rfl rfl, Le.refl _, 0, 2, .raw [encS s], .map encS (0, 0) [s], rfl, rfl, rfl, rfl⟩
 exact ASpec.anyH H k _ _ _ rfl rfl rfl
theorem sel01 {a b : AObj} (h : AObj.ren (selR [0] 2) a = a := by rfl) : Sel 1 [0] [a, b] [a] := by
 refine ⟨by decide, rfl, Nat.le_refl _, fun i hi => ?_, fun i hi => .inl ?_⟩
 ·match i, hi with
  | 0, _ => rfl
 ·match i, hi with
  | 0, _ => simp [h]
theorem add_mem (o : List Span) (s : Span) (ho : o.length ≤ 2000000000) :
  ASpec Tryz.prog 151 [.msl 2 0 0 o.length, .agg (encS s)] [arS o] (fun r H' => (r = .msl 2 0 0 (addS o s).length ∧ H' = [arS (addS o s)] ∧ (addS o s).length = o.length) ∨ (r = .msl 2 1 0 (addS o s).length ∧ H' = [.gone, arS (addS o s)])) := by
 refine ASpec.sel (ASpec.arrEnd (s151m _ _ _ _ ?_))
 have app : ¬ (0 < o.length ∧ s.1 ≤ (o.getD (o.length - 1) (0, 0)).2) → ∃ id sz q q', ([.gone, .cells (encS s), .arr 2 (.app (.map encS (0, 0) o) (.raw [encS s]))] : List AObj)[id]? = some (.arr sz q) ∧ Seq.toList q' = q.toList ∧
   ∃ l H2 r2, Sel 1 l (([.gone, .cells (encS s), .arr 2 (.app (.map encS (0, 0) o) (.raw [encS s]))] : List AObj).set id (.arr sz q')) H2 ∧ Le (.msl 2 2 0 (o.length + 1)) (AV.ren (selR l (([.gone, .cells (encS s), .arr 2 (.app (.map encS (0, 0) o) (.raw [encS s]))] : List AObj).set id (.arr sz q')).length) r2) ∧
   ((r2 = .msl 2 0 0 (addS o s).length ∧ H2 = [arS (addS o s)] ∧ (addS o s).length = o.length) ∨ (r2 = .msl 2 1 0 (addS o s).length ∧ H2 = [.gone, arS (addS o s)])) := by
  intro hc
  have e : addS o s = o ++ [s] := by rw [addS, if_neg hc]
  refine ⟨2, 2, _, .map encS (0, 0) (o ++ [s]), rfl, by simp [Seq.toList], [0, 2], [.gone, arS (o ++ [s])], .msl 2 1 0 (o.length + 1), ?_, Le.refl _, .inr ⟨?_, ?_⟩⟩
  ·refine ⟨by decide, rfl, by decide, fun i hi => ?_, fun i hi => ?_⟩
   ·match i, hi with
    | 0, _ => rfl
   ·match i, hi with
    | 0, _ => exact .inl rfl
    | 1, _ => exact .inl rfl
  ·rw [e]; simp
  ·rw [e]
 refine condD (fun h => ?_) fun h => ?_
 ·by_cases hz : o.length = 0
  ·rw [hz] at h
   have : IntKind.wrap .i64 (((0 : Nat) : Int) - 1) = -1 := by rw [wrap64 (by omega) (by omega)]; rfl
   rw [this] at h; omega
  rw [pre64 (by omega) (by omega), Int.toNat_natCast, Nat.zero_add]
  refine needJ ⟨by omega, by omega⟩ (needJ (by omega) (condD (fun h2 => needJ ⟨by omega, by omega⟩ (needJ (by omega) (needJ ⟨by omega, by omega⟩ (needJ (by omega) ?_)))) fun h2 => needJ ⟨rfl, by omega⟩ (app ?_)))
  ·have e : addS o s = o.take (o.length - 1) ++ [((o.getD (o.length - 1) (0, 0)).1, max (o.getD (o.length - 1) (0, 0)).2 s.2)] := by rw [addS, if_pos ⟨by omega, h2⟩]
   have el : (addS o s).length = o.length := by rw [e]; simp; omega
   have em : (max (o.getD (o.length - 1) (0, 0)).2 s.2) = if s.2 > (o.getD (o.length - 1) (0, 0)).2 then s.2 else (o.getD (o.length - 1) (0, 0)).2 := by
    rw [Int.max_def]
    by_cases hx : s.2 > (o.getD (o.length - 1) (0, 0)).2
    ·rw [if_pos hx, if_pos (by omega)]
    ·rw [if_neg hx]
     by_cases hy : (o.getD (o.length - 1) (0, 0)).2 ≤ s.2
     ·rw [if_pos hy]; omega
     ·rw [if_neg hy]
   have es : o.set (o.length - 1) ((o.getD (o.length - 1) (0, 0)).1, max (o.getD (o.length - 1) (0, 0)).2 s.2) = addS o s := by
    rw [e, List.set_eq_take_append_cons_drop, if_pos (by omega), show o.length - 1 + 1 = o.length by omega, List.drop_length]
   refine ⟨0, 2, _, .map encS (0, 0) (addS o s), rfl, ?_, [0], [arS (addS o s)], .msl 2 0 0 o.length, sel01, Le.refl _, .inl ⟨by rw [el], rfl, el⟩⟩
   rw [← es, em]
   simp only [Seq.toList, List.map_set]
   rfl
  ·rintro ⟨_, h3⟩; exact h2 h3
 ·have hz : o.length = 0 := by
   by_cases hz : o.length = 0
   ·exact hz
   ·rw [pre64 (by omega) (by omega)] at h; omega
  exact needJ ⟨rfl, by omega⟩ (app (by omega))
abbrev andF (a b : List Span) (p : Int) : Bool := hasS a p && hasS b p
theorem and_next {a b : List Span} (ha : ok a) (hb : ok b) {p : Int} (hp : p < 1000000000) {to : Int} (ht : to = if nextS b p < nextS a p then nextS b p else nextS a p) :
  p < to ∧ to ≤ 1000000000 ∧ ∀ q, p ≤ q → q < to → andF a b q = andF a b p := by
 have h1 := nextS_gt ha hp
 have h2 := nextS_gt hb hp
 refine ⟨by rw [ht]; split <;> omega, by rw [ht]; split <;> omega, fun q hq1 hq2 => ?_⟩
 have hqa : q < nextS a p := by rw [ht] at hq2; split at hq2 <;> omega
 have hqb : q < nextS b p := by rw [ht] at hq2; split at hq2 <;> omega
 simp only [andF]
 rw [nextS_same ha hq1 hqa, nextS_same hb hq1 hqb]
theorem meet_ex {a b : List Span} (ha : ok a) (hb : ok b) : ∀ (m : Nat) (p : Int) (o : List Span), (1000000000 - p).toNat ≤ m → 0 ≤ p → p ≤ 1000000000 → Kept (andF a b) p o → ∃ o', Kept (andF a b) 1000000000 o'
 | 0, p, o, hm, h0, h1, hk => by
  have : p = 1000000000 := by omega
  subst this; exact ⟨o, hk⟩
 | m + 1, p, o, hm, h0, h1, hk => by
  by_cases hp : p < 1000000000
  ·obtain ⟨n1, n2, n3⟩ := and_next ha hb hp rfl
   by_cases hf : andF a b p = true
   ·exact meet_ex ha hb m _ _ (by omega) (by omega) n2 (kept_put hk h0 n1 n2 (fun q hq1 hq2 => by rw [n3 q hq1 hq2]; exact hf))
   ·exact meet_ex ha hb m _ _ (by omega) (by omega) n2 (kept_skip hk (by omega) (fun q hq1 hq2 => by rw [n3 q hq1 hq2]; simpa using hf))
  ·have : p = 1000000000 := by omega
   subst this; exact ⟨o, hk⟩
open Classical in
def meetS (a b : List Span) : List Span := if h : ∃ o, Kept (andF a b) 1000000000 o then choose h else []
theorem meet_eq {a b o : List Span} (h : Kept (andF a b) 1000000000 o) : meetS a b = o := by
 have hex : ∃ o, Kept (andF a b) 1000000000 o := ⟨o, h⟩
 rw [meetS, dif_pos hex]
 exact kept_one (Classical.choose_spec hex) h
theorem meet_kept {a b : List Span} (ha : ok a) (hb : ok b) : Kept (andF a b) 1000000000 (meetS a b) := by
 obtain ⟨o, h⟩ := meet_ex ha hb 1000000000 0 [] (by omega) (by omega) (by omega) (kept_nil _)
 rw [meet_eq h]; exact h
theorem meet_ok {a b : List Span} (ha : ok a) (hb : ok b) : ok (meetS a b) := (meet_kept ha hb).1
theorem freezeS {n : Nat} {k : Nat} {o : List Span} (hn : n ≤ 1) : ReSt n [(k, .msl 2 0 0 o.length)] [arS o] [(k, slS o)] [.gone] := by
 refine ReSt.freeze (H := [arS o]) (id := 0) (sz := 2) (q := .map encS (0, 0) o) rfl hn (fun d => ?_)
 by_cases hd : d = k
 ·subst hd
  refine .inr (.inr ⟨0, o.length, .map encS (0, 0) o, ?_, by simp [Seq.toList], ?_, by simp [Seq.toList, ← List.map_take]⟩)
  ·simp [Ab.get]
  ·simp [Ab.get]
 ·left
  simp only [Ab.get]
  have e : Nat.beq k d = false := by
   cases hx : Nat.beq k d with
   | false => rfl
   | true => exact absurd (Nat.eq_of_beq_eq_true hx).symm hd
  rw [e]; rfl
theorem leS0 {ρ : Nat → Nat} : Le (.sl 0 (.raw []) .nil) (AV.ren ρ (slS [])) := Le.sl (s' := Seq.ren ρ (.map encS (0, 0) [])) rfl (.inr ⟨rfl, fun _ h => by cases h⟩) (.inr rfl)
theorem and_spec (x y : Bool) (H : List AObj) : ASpec Tryz.prog 118 [.bool x, .bool y] H (fun r H' => r = .bool (x && y) ∧ H' = H) :=
 ASpec.pureH (r0 := .bool (x && y)) H (s118 x y _ (condB (fun h => by rw [h]; exact ⟨rfl, rfl⟩) fun h => by rw [h]; exact ⟨rfl, rfl⟩)) _ _ rfl rfl
section
variable {a b : List Span} (ha : ok a) (hb : ok b)
include ha hb
theorem kept3m : ∀ (m : Nat) (p : Int) (o : List Span), (1000000000 - p).toNat ≤ m → 0 ≤ p → p ≤ 1000000000 → Kept (andF a b) p o →
  AWP Tryz.prog 34 0 c117_3 [(0, slS a), (1, slS b), (2, .fn 118 []), (7, .msl 2 0 0 o.length), (8, .int .i64 p)] [arS o] (q117_2 0 (PA (slS (meetS a b)))) := by
 have done : ∀ (p : Int) (o : List Span), ¬ p < 1000000000 → p ≤ 1000000000 → Kept (andF a b) p o → AWP Tryz.prog 34 0 c117_8 [(7, .msl 2 0 0 o.length)] [arS o] (q117_0 0 (PA (slS (meetS a b)))) := by
  intro p o h1 h2 hk
  have : p = 1000000000 := by omega
  subst this
  refine AWP.re (freezeS (by omega)) (AWP.shape [] [(7, slS o)] [] Sel.none ⟨rfl, Le.refl _, trivial⟩ (v117_8s _ _ _ (pa ?_)))
  rw [meet_eq hk]; exact Le.refl _
 intro m
 induction m with
 | zero =>
  intro p o hm h0 h1 hk
  exact v117_3m _ _ _ _ _ _ _ (condD (fun h => by omega) fun h => done p o h h1 hk)
 | succ m ih =>
  intro p o hm h0 h1 hk
  have hol := ok_len hk.1
  refine v117_3m _ _ _ _ _ _ _ (condD (fun hp => ?_) fun h => done p o h h1 hk)
  obtain ⟨n1, n2, n3⟩ := and_next ha hb hp rfl
  refine ASpec.call (next_spec a p ha _) (Les.refl _) ⟨_, rfl, rfl, ?_⟩
  refine ASpec.call (next_spec b p hb _) (Les.refl _) ⟨_, rfl, rfl, ?_⟩
  refine ASpec.call (has_spec a p ha _) (Les.refl _) ⟨_, rfl, rfl, ?_⟩
  refine ASpec.call (has_spec b p hb _) (Les.refl _) ⟨_, rfl, rfl, ?_⟩
  refine ASpec.call (and_spec _ _ _) (Les.refl _) ⟨_, rfl, rfl, ?_⟩
  generalize (if nextS b p < nextS a p then nextS b p else nextS a p) = to at n1 n2 n3 ⊢
  refine condB (fun hf => ?_) fun hf => ?_
  ·have hk' := kept_put hk h0 n1 n2 (fun q hq1 hq2 => by rw [n3 q hq1 hq2]; exact hf)
   have nxt := ih to (addS o (p, to)) (by omega) (by omega) n2 hk'
   refine (add_mem o (p, to) (by omega)).mono fun r H' hh => .inr ?_
   rcases hh with ⟨e1, e2, e3⟩ | ⟨e1, e2⟩
   ·subst e1 e2
    refine .inl ⟨addS o (p, to), by rw [e3], rfl, ?_⟩
    rw [e3] at nxt; exact nxt
   ·subst e1 e2
    refine .inr ⟨addS o (p, to), rfl, rfl, ?_⟩
    exact AWP.shape [1] [(0, slS a), (1, slS b), (2, .fn 118 []), (7, .msl 2 0 0 (addS o (p, to)).length), (8, .int .i64 to)] [arS (addS o (p, to))] (Sel.one 1 rfl rfl)
     ⟨rfl, Le.refl _, rfl, Le.refl _, rfl, Le.refl _, rfl, Le.refl _, rfl, Le.refl _, trivial⟩ nxt
  ·exact ih to o (by omega) (by omega) n2 (kept_skip hk (by omega) (fun q hq1 hq2 => by rw [n3 q hq1 hq2]; exact hf))
theorem kept3n : ∀ (m : Nat) (p : Int), (1000000000 - p).toNat ≤ m → 0 ≤ p → p ≤ 1000000000 → Kept (andF a b) p [] →
  AWP Tryz.prog 34 0 c117_3 [(0, slS a), (1, slS b), (2, .fn 118 []), (7, .sl 0 (.raw []) .nil), (8, .int .i64 p)] [] (q117_2 0 (PA (slS (meetS a b)))) := by
 have done : ∀ (p : Int), ¬ p < 1000000000 → p ≤ 1000000000 → Kept (andF a b) p [] → AWP Tryz.prog 34 0 c117_8 [(7, .sl 0 (.raw []) .nil)] [] (q117_0 0 (PA (slS (meetS a b)))) := by
  intro p h1 h2 hk
  have : p = 1000000000 := by omega
  subst this
  refine v117_8n _ _ (pa ?_)
  rw [meet_eq hk]; exact leS0
 intro m
 induction m with
 | zero =>
  intro p hm h0 h1 hk
  exact v117_3n _ _ _ _ _ (condD (fun h => by omega) fun h => done p h h1 hk)
 | succ m ih =>
  intro p hm h0 h1 hk
  refine v117_3n _ _ _ _ _ (condD (fun hp => ?_) fun h => done p h h1 hk)
  obtain ⟨n1, n2, n3⟩ := and_next ha hb hp rfl
  refine ASpec.call (next_spec a p ha _) (Les.refl _) ⟨_, rfl, rfl, ?_⟩
  refine ASpec.call (next_spec b p hb _) (Les.refl _) ⟨_, rfl, rfl, ?_⟩
  refine ASpec.call (has_spec a p ha _) (Les.refl _) ⟨_, rfl, rfl, ?_⟩
  refine ASpec.call (has_spec b p hb _) (Les.refl _) ⟨_, rfl, rfl, ?_⟩
  refine ASpec.call (and_spec _ _ _) (Les.refl _) ⟨_, rfl, rfl, ?_⟩
  generalize (if nextS b p < nextS a p then nextS b p else nextS a p) = to at n1 n2 n3 ⊢
  refine condB (fun hf => ?_) fun hf => ?_
  ·have hk' := kept_put hk h0 n1 n2 (fun q hq1 hq2 => by rw [n3 q hq1 hq2]; exact hf)
   have nxt := kept3m ha hb m to (addS [] (p, to)) (by omega) (by omega) n2 hk'
   exact ASpec.call (add_nil (p, to) []) (Les.refl _) (.inl ⟨(p, to), rfl, rfl, nxt⟩)
  ·exact ih to (by omega) (by omega) n2 (kept_skip hk (by omega) (fun q hq1 hq2 => by rw [n3 q hq1 hq2]; exact hf))
theorem meet_spec (H : List AObj) : ASpec Tryz.prog 65 [slS a, slS b] H (fun r H' => r = slS (meetS a b) ∧ H' = H) := by
 have k : ASpec Tryz.prog 65 [slS a, slS b] [] (fun r H' => r = slS (meetS a b) ∧ H' = []) := by
  have k2 : ASpec Tryz.prog 117 [slS a, slS b, .fn 118 []] [] (fun r H' => r = slS (meetS a b) ∧ H' = []) :=
   ASpec.sel (s117 _ _ _ (kept3n ha hb 1000000000 0 (by omega) (by omega) (by omega) (kept_nil _)))
  exact s65 _ _ _ (ASpec.call k2 (Les.refl _) ⟨_, rfl, rfl, rfl, rfl⟩)
 exact ASpec.pureH H k _ _ rfl rfl
end
end Sg
end

noncomputable section
open Go Go.Ab Go.Proofs V S T C
open W (sl1 slS slN slR leNone renN renR readM)
namespace X
abbrev PA (r0 : AV) : AV → List AObj → Prop := fun r H' => ∃ l H2 r2, Sel 0 l H' H2 ∧ Le r (AV.ren (selR l H'.length) r2) ∧ (r2 = r0 ∧ H2 = [])
theorem pa {r r0 : AV} {H' : List AObj} (h : Le r (AV.ren (selR [] H'.length) r0)) : PA r0 r H' := ⟨[], [], r0, Sel.none, h, rfl, rfl⟩
theorem leS0 {ρ : Nat → Nat} : Le (.sl 0 (.raw []) .nil) (AV.ren ρ (slS [])) := Le.sl (s' := Seq.ren ρ (.map encS (0, 0) [])) rfl (.inr ⟨rfl, fun _ h => by cases h⟩) (.inr rfl)
theorem cloneS_spec (l : List Span) (hl : l.length ≤ lim) (H : List AObj) : ASpec Tryz.prog 104 [slS l] H (fun r H' => r = slS l ∧ H' = H) := by
 unfold lim at hl
 have k : ASpec Tryz.prog 104 [slS l] [] (fun r H' => r = slS l ∧ H' = []) := by
  refine ASpec.sel (s104 _ _ fun b hb => condB (fun h => pa ?_) fun h => needJ (fun x => rfl) (needJ (by omega) (pa ?_)))
  ·have := hb h
   simp only [Ab.Seq.toList, List.map_eq_nil_iff] at this
   subst this
   exact leS0
  ·exact Le.sl (s' := Seq.ren _ (.map encS (0, 0) l)) (by simp [Ab.Seq.toList, Seq.ren, W.renS]) (.inl rfl) (.inr rfl)
 exact ASpec.pureH H k _ _ rfl rfl
theorem cloneR3 {v : Int} {l : List Need} {R : List Need} (hl : okN l) : ∀ (m i : Nat) (acc : List Need), m + i = l.length → acc.length + m ≤ lim → acc ++ l.drop i = R →
  AWP Tryz.prog 29 0 c99_3 [(2, .ptr 0 0), (3, .ptr 1 0), (10, slN l), (11, .int .i64 l.length), (12, .int .i64 i)]
   [.cells [.int .i64 0, .sl 0 (.raw []) .nil], .cells [.int .i64 v, .sl 2 (.map encN ([], []) acc) (.tok 2)], .tok] (q99_2 0 (PA (.agg (T.encR (v, R))))) := by
 obtain ⟨hl1, hl2⟩ := hl
 unfold lim at hl1
 intro m
 induction m with
 | zero =>
  intro i acc hm ha h
  refine v99_3 _ _ _ _ _ _ _ (condD (fun hc => by omega) fun _ => pa ?_)
  rw [List.drop_eq_nil_of_le (by omega), List.append_nil] at h
  subst h
  exact Le.agg ⟨Le.refl _, leNone renN, trivial⟩
 | succ m ih =>
  intro i acc hm ha h
  unfold lim at ha
  have hx := hl2 _ (memD l ([], []) i (by omega))
  rw [dropD l ([], []) i (by omega)] at h
  refine v99_3 _ _ _ _ _ _ _ (condD (fun hc => needJ ⟨by omega, by omega⟩ ?_) fun hc => by omega)
  rw [Int.toNat_natCast]
  generalize l.getD i ([], []) = x at h hx ⊢
  refine ASpec.call (cloneS_spec x.2 hx.2 _) (Les.refl _) ⟨x.2, rfl, rfl, ⟨rfl, rfl⟩, ⟨rfl, rfl⟩, needJ (by omega) ?_⟩
  refine AWP.re (ReSt.leCell (id := 1) (cs' := [.int .i64 v, .sl 2 (.map encN ([], []) (acc ++ [x])) (.tok 4)]) rfl ⟨Le.refl _, leAppE (Les.refl _), trivial⟩) ?_
  rw [succ64 (by omega)]
  refine AWP.shape [0, 1, 4] [(2, .ptr 0 0), (3, .ptr 1 0), (10, slN l), (11, .int .i64 l.length), (12, .int .i64 (i + 1 : Nat))]
   [.cells [.int .i64 0, .sl 0 (.raw []) .nil], .cells [.int .i64 v, .sl 2 (.map encN ([], []) (acc ++ [x])) (.tok 2)], .tok] ?_
   ⟨rfl, Le.refl _, rfl, Le.refl _, rfl, Le.refl _, rfl, Le.refl _, rfl, Le.refl _, trivial⟩ (ih (i + 1) _ (by omega) (by simp; unfold lim; omega) ?_)
  ·refine ⟨by decide, rfl, by decide, fun i hi => by omega, fun i hi => .inl ?_⟩
   match i, hi with
   | 0, _ | 1, _ | 2, _ => rfl
  ·rw [← h]; simp
theorem cloneR_spec (x : Rel) (hl : okN x.2) (H : List AObj) : ASpec Tryz.prog 99 [.agg (T.encR x)] H (fun r H' => r = .agg (T.encR x) ∧ H' = H) := by
 have k : ASpec Tryz.prog 99 [.agg (T.encR x)] [] (fun r H' => r = .agg (T.encR x) ∧ H' = []) := by
  refine ASpec.sel (s99 _ _ ?_)
  refine AWP.re (ReSt.tokCell (id := 2) (j := 1) (q' := .map encN ([], []) []) (sz' := 2) rfl rfl (.inl rfl) rfl (.inr rfl)) ?_
  refine AWP.shape [1, 2, 3] [(2, .ptr 0 0), (3, .ptr 1 0), (10, slN x.2), (11, .int .i64 x.2.length), (12, .int .i64 (0 : Nat))]
   [.cells [.int .i64 0, .sl 0 (.raw []) .nil], .cells [.int .i64 x.1, .sl 2 (.map encN ([], []) []) (.tok 2)], .tok] ?_
   ⟨rfl, Le.refl _, rfl, Le.refl _, rfl, Le.refl _, rfl, Le.refl _, rfl, Le.refl _, trivial⟩ (cloneR3 hl x.2.length 0 [] (by omega) (by have := hl.1; simp; omega) rfl)
  refine ⟨by decide, rfl, by decide, fun i hi => by omega, fun i hi => .inl ?_⟩
  match i, hi with
  | 0, _ | 1, _ | 2, _ => rfl
 exact ASpec.pureH H k _ _ rfl rfl
theorem cloneM3 {s : List UInt8} {l : List Rel} {R : List Rel} (hl1 : l.length ≤ lim) (hl2 : ∀ r ∈ l, okN r.2) : ∀ (m i : Nat) (acc : List Rel), m + i = l.length → acc.length + m ≤ lim → acc ++ l.drop i = R →
  AWP Tryz.prog 25 0 c50_3 [(2, .ptr 0 0), (3, .ptr 1 0), (10, slR l), (11, .int .i64 l.length), (12, .int .i64 i)]
   [.cells [.str ⟨#[]⟩, .sl 0 (.raw []) .nil], .cells [.str (B s), .sl 2 (.map T.encR (0, []) acc) (.tok 2)], .tok] (q50_2 0 (PA (.agg (encM (s, R))))) := by
 unfold lim at hl1
 intro m
 induction m with
 | zero =>
  intro i acc hm ha h
  refine v50_3 _ _ _ _ _ _ _ (condD (fun hc => by omega) fun _ => pa ?_)
  rw [List.drop_eq_nil_of_le (by omega), List.append_nil] at h
  subst h
  exact Le.agg ⟨Le.refl _, leNone renR, trivial⟩
 | succ m ih =>
  intro i acc hm ha h
  unfold lim at ha
  have hx := hl2 _ (memD l (0, []) i (by omega))
  rw [dropD l (0, []) i (by omega)] at h
  refine v50_3 _ _ _ _ _ _ _ (condD (fun hc => needJ ⟨by omega, by omega⟩ ?_) fun hc => by omega)
  rw [Int.toNat_natCast]
  generalize l.getD i (0, []) = x at h hx ⊢
  refine ASpec.call (cloneR_spec x hx _) (Les.refl _) ⟨x, rfl, rfl, ⟨rfl, rfl⟩, needJ (by omega) ?_⟩
  refine AWP.re (ReSt.leCell (id := 1) (cs' := [.str (B s), .sl 2 (.map T.encR (0, []) (acc ++ [x])) (.tok 4)]) rfl ⟨Le.refl _, leAppE (Les.refl _), trivial⟩) ?_
  rw [succ64 (by omega)]
  refine AWP.shape [0, 1, 4] [(2, .ptr 0 0), (3, .ptr 1 0), (10, slR l), (11, .int .i64 l.length), (12, .int .i64 (i + 1 : Nat))]
   [.cells [.str ⟨#[]⟩, .sl 0 (.raw []) .nil], .cells [.str (B s), .sl 2 (.map T.encR (0, []) (acc ++ [x])) (.tok 2)], .tok] ?_
   ⟨rfl, Le.refl _, rfl, Le.refl _, rfl, Le.refl _, rfl, Le.refl _, rfl, Le.refl _, trivial⟩ (ih (i + 1) _ (by omega) (by simp; unfold lim; omega) ?_)
  ·refine ⟨by decide, rfl, by decide, fun i hi => by omega, fun i hi => .inl ?_⟩
   match i, hi with
   | 0, _ | 1, _ | 2, _ => rfl
  ·rw [← h]; simp
theorem cloneM_spec (x : Mani) (hl : okM x) (H : List AObj) : ASpec Tryz.prog 50 [.agg (encM x)] H (fun r H' => r = .agg (encM x) ∧ H' = H) := by
 have k : ASpec Tryz.prog 50 [.agg (encM x)] [] (fun r H' => r = .agg (encM x) ∧ H' = []) := by
  refine ASpec.sel (s50 _ _ ?_)
  refine AWP.re (ReSt.tokCell (id := 2) (j := 1) (q' := .map T.encR (0, []) []) (sz' := 2) rfl rfl (.inl rfl) rfl (.inr rfl)) ?_
  refine AWP.shape [1, 2, 3] [(2, .ptr 0 0), (3, .ptr 1 0), (10, slR x.2), (11, .int .i64 x.2.length), (12, .int .i64 (0 : Nat))]
   [.cells [.str ⟨#[]⟩, .sl 0 (.raw []) .nil], .cells [.str (B x.1), .sl 2 (.map T.encR (0, []) []) (.tok 2)], .tok] ?_
   ⟨rfl, Le.refl _, rfl, Le.refl _, rfl, Le.refl _, rfl, Le.refl _, rfl, Le.refl _, trivial⟩ (cloneM3 hl.2.1 hl.2.2 x.2.length 0 [] (by omega) (by have := hl.2.1; simp; omega) rfl)
  refine ⟨by decide, rfl, by decide, fun i hi => by omega, fun i hi => .inl ?_⟩
  match i, hi with
  | 0, _ | 1, _ | 2, _ => rfl
 exact ASpec.pureH H k _ _ rfl rfl
theorem EK_ren (ρ : Nat → Nat) : Enc.ren ρ EK = EK := by
 have e1 : (fun a => AV.ren ρ (EK.enc a)) = EK.enc := by funext a; cases a <;> rfl
 have e2 : (fun (a : Known) (K : AV → Prop) => EK.spl a (fun v => K (AV.ren ρ v))) = EK.spl := by funext a K; cases a <;> rfl
 unfold Enc.ren
 cases hE : EK with
 | mk enc spl ok =>
  rw [hE] at e1 e2
  simp only at e1 e2 ⊢
  simp only [e1, e2]
theorem mp_ren (ρ : Nat → Nat) (es : Kn) : AObj.ren ρ (.mp (.typed EK es)) = .mp (.typed EK es) := by
 simp only [AObj.ren, MM.ren, EK_ren]
theorem liftX {f : FuncId} {args args' : List AV} {r0 r' : AV} {es es' : Kn} (H : List AObj) (q p : Nat) (hqp : q ≠ p) (hq : H[q]? = some (.mp (.typed EK es))) (hp : H[p]? = some (.cells [.map q]))
  (k : ASpec Tryz.prog f args (HX es) (fun r H' => r = r0 ∧ H' = HX es')) (ha : args.map (AV.ren (callR [q, p] H.length)) = args') (hr : AV.ren (callR [q, p] H.length) r0 = r') :
  ASpec Tryz.prog f args' H (fun r H' => r = r' ∧ H' = H.set q (.mp (.typed EK es'))) := by
 refine ASpec.subH [q, p] H _ k args' r' (by simpa using hqp) rfl ha hr (fun i hi => ?_) ?_
 ·match i, hi with
  | 0, _ => show H[q]? = some (AObj.ren _ (.mp (.typed EK es))); rw [mp_ren]; try exact hq
  | 1, _ => exact hp
 ·have e : (H.set q (.mp (.typed EK es')))[p]? = some (.cells [.map q]) := by rw [List.getElem?_set_ne hqp]; exact hp
  have h2 : graftH (callR [q, p] H.length) [q, p] H (HX es') = (H.set q (AObj.ren (callR [q, p] H.length) (.mp (.typed EK es')))).set p (AObj.ren (callR [q, p] H.length) (.cells [.map 0])) := by
   simp [graftH, grafted, HX]
  rw [h2, mp_ren]
  exact set_same e
abbrev PX (es : Kn) (r0 : AV) : AV → List AObj → Prop := fun r H' => ∃ l H2 r2, Sel 2 l H' H2 ∧ Le r (AV.ren (selR l H'.length) r2) ∧ (r2 = r0 ∧ H2 = HX es)
theorem selX (es : Kn) (q : List AObj) : Sel 2 [0, 1] (HX es ++ q) (HX es) := by
 refine ⟨by decide, rfl, by decide, fun i hi => ?_, fun i hi => .inl ?_⟩
 ·match i, hi with
  | 0, _ | 1, _ => rfl
 ·match i, hi with
  | 0, _ => show some _ = some (AObj.ren _ (.mp (.typed EK es))); rw [mp_ren]
  | 1, _ => rfl
theorem px {es : Kn} {r r0 : AV} (q : List AObj) (h : Le r (AV.ren (selR [0, 1] (HX es ++ q).length) r0)) : PX es r0 r (HX es ++ q) := ⟨_, _, _, selX es q, h, rfl, rfl⟩
theorem new_spec (H : List AObj) : ASpec Tryz.prog 43 [] H (fun r H' => r = .ptr (H.length + 1) 0 ∧ H' = H ++ [.mp (.typed EK []), .cells [.map H.length]]) := by
 have k : ASpec Tryz.prog 43 [] [] (fun r H' => r = .ptr 1 0 ∧ H' = HX []) :=
  ASpec.outMap (s43 _ ⟨0, .nil, .typed EK [], rfl, mle_nil, rfl, rfl⟩)
 refine (ASpec.subH [] H (H ++ [.mp (.typed EK []), .cells [.map H.length]]) k [] (.ptr (H.length + 1) 0) (by simp) rfl rfl (by simp [AV.ren, callR]) (fun i hi => by cases hi) ?_)
 simp [graftH, grafted, HX, mp_ren]
 simp [AObj.ren, renL, AV.ren, callR]
def hasI (es : Kn) (k : List UInt8) : Bool := (findM es (B k)).isSome
def getM (es : Kn) (k : List UInt8) : Mani × Bool := match findM es (B k) with
 | some (some m) => (m, true)
 | _ => ((k, []), false)
def readK (k bs : List UInt8) : Known := if (readM bs).2 ≠ 0 ∨ (readM bs).1.1 ≠ k then none else some (readM bs).1
def putI (es : Kn) (k bs : List UInt8) : Int × Kn :=
 if fitM k = false ∨ 8192 < bs.length then (1, es) else if hasI es k = true then (6, es) else (0, setM es (B k) (readK k bs))
def OkX (es : Kn) : Prop := ∀ k m, findM es k = some (some m) → okM m
theorem optI {α : Type} {o : Option α} {A : α → Prop} {Z : Prop} (h1 : ∀ a, o = some a → A a) (h2 : o = none → Z) : optionP o A Z := by
 cases o with
 | none => exact h2 rfl
 | some a => exact h1 a rfl
theorem has0 (es : Kn) (k : List UInt8) : ASpec Tryz.prog 15 [.ptr 1 0, .str (B k)] (HX es) (fun r H' => r = .bool (hasI es k) ∧ H' = HX es) := by
 refine s15 _ _ _ (optI (fun a h => optI (fun m h2 => ⟨?_, rfl⟩) fun h2 => ⟨?_, rfl⟩) fun h => ⟨?_, rfl⟩) <;> (unfold hasI; rw [h]; rfl)
theorem has_spec (es : Kn) (k : List UInt8) (H : List AObj) (q p : Nat) (hqp : q ≠ p) (hq : H[q]? = some (.mp (.typed EK es))) (hp : H[p]? = some (.cells [.map q])) :
  ASpec Tryz.prog 15 [.ptr p 0, .str (B k)] H (fun r H' => r = .bool (hasI es k) ∧ H' = H) := by
 have := liftX H q p hqp hq hp (has0 es k) (args' := [.ptr p 0, .str (B k)]) rfl rfl
 rwa [set_same hq] at this
theorem good_spec (m : Mani) (H : List AObj) : ASpec Tryz.prog 240 [.agg (encM m)] H (fun r H' => r = .bool true ∧ H' = H) :=
 ASpec.pureH H (ASpec.sel (s240 _ _ (pb rfl))) _ _ rfl rfl
theorem bad_spec (H : List AObj) : ASpec Tryz.prog 241 [.agg []] H (fun r H' => r = .bool false ∧ H' = H) :=
 ASpec.pureH H (ASpec.sel (s241 _ (pb rfl))) _ _ rfl rfl
theorem get0 (es : Kn) (k : List UInt8) (hes : OkX es) : ASpec Tryz.prog 16 [.ptr 1 0, .str (B k)] (HX es) (fun r H' => r = .tup [.agg (encM (getM es k).1), .bool (getM es k).2] ∧ H' = HX es) := by
 have none : ∀ q : List AObj, getM es k = ((k, []), false) → PX es (.tup [.agg (encM (getM es k).1), .bool (getM es k).2]) (.tup [.agg [.str (B k), .sl 0 (.raw []) .nil], .bool false]) (HX es ++ q) := by
  intro q h
  rw [h]
  exact px q (Le.tup ⟨Le.agg ⟨Le.refl _, Le.sl (s' := Seq.ren _ (.map T.encR (0, []) [])) rfl (.inr ⟨rfl, fun _ h => by cases h⟩) (.inr rfl), trivial⟩, Le.refl _, trivial⟩)
 refine ASpec.sel (s16 _ _ _ (ASpec.call (has_spec es k _ 0 1 (by omega) rfl rfl) (Les.refl _) ⟨_, rfl, rfl, condBn (fun h => ?_) fun h => ?_⟩))
 ·refine none [_, _] ?_
  unfold hasI at h
  unfold getM
  cases hf : findM es (B k) with
  | none => rfl
  | some a => rw [hf] at h; cases h
 ·refine optI (fun a ha => optI (fun m hm => ?_) fun hm => ?_) fun hn => ?_
  ·subst hm
   refine ASpec.call (good_spec m _) (Les.refl _) ⟨(), rfl, rfl, optI (fun a' ha' => optI (fun m' hm' => ?_) fun hm' => ?_) fun hn => ?_⟩
   ·rw [ha] at ha'; cases ha'; cases hm'
    refine ASpec.call (cloneM_spec m (hes _ _ ha) _) (Les.refl _) ⟨m, rfl, rfl, ?_⟩
    have e : getM es k = (m, true) := by unfold getM; rw [ha]
    rw [e]
    exact px [_, _, _] (Le.refl _)
   ·rw [ha] at ha'; cases ha'; cases hm'
   ·rw [ha] at hn; cases hn
  ·subst hm
   refine ASpec.call (bad_spec _) (Les.refl _) ⟨(), rfl, rfl, none [_, _] ?_⟩
   unfold getM; rw [ha]
  ·unfold hasI at h; rw [hn] at h; cases h
theorem get_spec (es : Kn) (k : List UInt8) (hes : OkX es) (H : List AObj) (q p : Nat) (hqp : q ≠ p) (hq : H[q]? = some (.mp (.typed EK es))) (hp : H[p]? = some (.cells [.map q])) :
  ASpec Tryz.prog 16 [.ptr p 0, .str (B k)] H (fun r H' => r = .tup [.agg (encM (getM es k).1), .bool (getM es k).2] ∧ H' = H) := by
 have := liftX H q p hqp hq hp (get0 es k hes) (args' := [.ptr p 0, .str (B k)]) (r' := .tup [.agg (encM (getM es k).1), .bool (getM es k).2]) rfl rfl
 rwa [set_same hq] at this
theorem read_found {k bs : List UInt8} {m : Mani} (hb : bs.length ≤ 1000000) (h : readK k bs = some m) (H : List AObj) : ASpec Tryz.prog 90 [.str (B k), sl1 bs] H (fun r H' => r = .iface 121 (.agg (encM m)) ∧ H' = H) := by
 have hk : ASpec Tryz.prog 90 [.str (B k), sl1 bs] [] (fun r H' => r = .iface 121 (.agg (encM m)) ∧ H' = []) := by
  unfold readK at h
  split at h
  ·cases h
  ·rename_i hh
   cases h
   refine ASpec.sel (s90 _ _ _ (ASpec.call (W.read_spec bs hb _) (Les.refl _) ⟨readM bs, rfl, rfl, condNe (fun h => (hh (.inl h)).elim) fun _ => condSn (fun h => (hh (.inr h)).elim) fun _ => pa (Le.refl _)⟩))
 exact ASpec.pureH H hk _ _ rfl rfl
theorem read_broken {k bs : List UInt8} (hb : bs.length ≤ 1000000) (h : readK k bs = none) (H : List AObj) : ASpec Tryz.prog 90 [.str (B k), sl1 bs] H (fun r H' => r = .iface 203 (.agg []) ∧ H' = H) := by
 have hk : ASpec Tryz.prog 90 [.str (B k), sl1 bs] [] (fun r H' => r = .iface 203 (.agg []) ∧ H' = []) := by
  unfold readK at h
  split at h
  ·rename_i hh
   refine ASpec.sel (s90 _ _ _ (ASpec.call (W.read_spec bs hb _) (Les.refl _) ⟨readM bs, rfl, rfl, condNe (fun h => pa (Le.refl _)) fun h1 => condSn (fun h => pa (Le.refl _)) fun h2 => ?_⟩))
   rcases hh with h | h
   ·exact (h h1).elim
   ·exact (h h2).elim
  ·cases h
 exact ASpec.pureH H hk _ _ rfl rfl
theorem put0 (es : Kn) (k bs : List UInt8) (hk : k.length ≤ lim) : ASpec Tryz.prog 40 [.ptr 1 0, .str (B k), sl1 bs] (HX es) (fun r H' => r = .int .i64 (putI es k bs).1 ∧ H' = HX (putI es k bs).2) := by
 have same : ∀ e : Int, putI es k bs = (e, es) → (∃ (id : Nat) (m m' : MM), (HX es)[id]? = some (.mp m) ∧ MLe m.toList m'.toList ∧ (AV.int .i64 e = .int .i64 (putI es k bs).1 ∧ (HX es).set id (.mp m') = HX (putI es k bs).2)) := by
  intro e h
  rw [h]
  exact ⟨0, .typed EK es, .typed EK es, rfl, MLe.of_eq rfl, rfl, rfl⟩
 refine ASpec.outMap (s40 _ _ _ _ ?_)
 refine ASpec.call (fit_spec (l := k) (by unfold big; unfold lim at hk; omega) _) (Les.refl _) ⟨_, rfl, rfl, condBn (fun h1 => same 1 ?_) fun h1 => condD (fun h2 => same 1 ?_) fun h2 => ?_⟩
 ·rw [putI, if_pos (.inl h1)]
 ·rw [putI, if_pos (.inr (by omega))]
 refine ASpec.call (has_spec es k _ 0 1 (by omega) rfl rfl) (Les.refl _) ⟨_, rfl, rfl, condB (fun h3 => same 6 ?_) fun h3 => ?_⟩
 ·rw [putI, if_neg (by rw [h1]; simp; omega), if_pos h3]
 have hp : putI es k bs = (0, setM es (B k) (readK k bs)) := by rw [putI, if_neg (by rw [h1]; simp; omega), if_neg (by rw [h3]; simp)]
 rw [hp]
 cases hr : readK k bs with
 | some m =>
  refine ASpec.call (read_found (by omega) hr _) (Les.refl _) (.inl ⟨m, rfl, rfl, ⟨rfl, rfl⟩, ?_⟩)
  exact ⟨0, _, .typed EK (setM es (B k) (some m)), rfl, mle_put rfl, rfl, rfl⟩
 | none =>
  refine ASpec.call (read_broken (by omega) hr _) (Les.refl _) (.inr ⟨(), rfl, rfl, ⟨rfl, rfl⟩, ?_⟩)
  exact ⟨0, _, .typed EK (setM es (B k) none), rfl, mle_put rfl, rfl, rfl⟩
theorem put_spec (es : Kn) (k bs : List UInt8) (hk : k.length ≤ lim) (H : List AObj) (q p : Nat) (hqp : q ≠ p) (hq : H[q]? = some (.mp (.typed EK es))) (hp : H[p]? = some (.cells [.map q])) :
  ASpec Tryz.prog 40 [.ptr p 0, .str (B k), sl1 bs] H (fun r H' => r = .int .i64 (putI es k bs).1 ∧ H' = H.set q (.mp (.typed EK (putI es k bs).2))) :=
 liftX H q p hqp hq hp (put0 es k bs hk) rfl rfl
theorem okX_nil : OkX [] := fun k m h => by cases h
theorem okX_put {es : Kn} {k bs : List UInt8} (h : OkX es) : OkX (putI es k bs).2 := by
 unfold putI
 split
 ·exact h
 ·split
  ·exact h
  ·intro k' m hm
   simp only [findM_set] at hm
   split at hm
   ·have hm := Option.some.inj hm
    unfold readK at hm
    split at hm
    ·cases hm
    ·cases hm
     exact W.readM_ok bs
   ·exact h k' m hm
theorem find_none {es : Kn} {k : List UInt8} (h : hasI es k = false) : findM es (B k) = none := by
 unfold hasI at h
 cases hf : findM es (B k) with
 | none => rfl
 | some a => rw [hf] at h; cases h
abbrev slEn (l : List Ent) : AV := .sl 2 (.map encEn ([], []) l) .none
def largeF : List Ent → Bool
 | [] => false
 | x :: r => if 200 < x.1.length ∨ 9000 < x.2.length then true else largeF r
def largeD (l : List Ent) : Bool := if 30 < l.length then true else largeF l
theorem large4 {l : List Ent} {c : Bool} (hl : l.length ≤ 30) : ∀ (m i : Nat), m + i = l.length → largeF (l.drop i) = c →
  AWP Tryz.prog 29 0 c8_4 [(0, slEn l), (3, .int .i64 i)] [] (q8_2 0 (PB c)) := by
 intro m
 induction m with
 | zero =>
  intro i hm h
  refine v8_4 _ _ _ _ (condD (fun hc => by omega) fun _ => pb ?_)
  rw [List.drop_eq_nil_of_le (by omega)] at h
  exact h
 | succ m ih =>
  intro i hm h
  have hin : (0 : Int) ≤ (i : Int) ∧ (i : Int) < (l.length : Int) := ⟨by omega, by omega⟩
  rw [dropD l ([], []) i (by omega)] at h
  simp only [largeF] at h
  refine v8_4 _ _ _ _ (condD (fun hc => needJ hin ?_) fun hc => by omega)
  rw [Int.toNat_natCast]
  generalize l.getD i ([], []) = x at h ⊢
  rw [B_size]
  refine condD (fun h1 => pb ?_) fun h1 => needJ hin (condD (fun h2 => pb ?_) fun h2 => ?_)
  ·rw [if_pos (by omega)] at h; exact h
  ·rw [if_pos (by omega)] at h; exact h
  ·rw [if_neg (by omega)] at h
   rw [succ64 (by omega)]
   exact ih (i + 1) (by omega) h
theorem largeD_spec (l : List Ent) (H : List AObj) : ASpec Tryz.prog 8 [slEn l] H (fun r H' => r = .bool (largeD l) ∧ H' = H) := by
 have k : ASpec Tryz.prog 8 [slEn l] [] (fun r H' => r = .bool (largeD l) ∧ H' = []) := by
  refine ASpec.sel (s8 _ _ (condD (fun h => pb ?_) fun h => large4 (by omega) l.length 0 (by omega) ?_))
  ·rw [largeD, if_pos (by omega)]
  ·rw [largeD, if_neg (by omega)]; rfl
 exact ASpec.pureH H k _ _ rfl rfl
theorem largeF_ok : ∀ (l : List Ent), largeF l = false → ∀ x ∈ l, x.1.length ≤ 200 ∧ x.2.length ≤ 9000
 | [], _, n, hn => by simp at hn
 | x :: r, h, n, hn => by
  simp only [largeF] at h
  split at h
  ·cases h
  ·rcases List.mem_cons.1 hn with rfl | hn
   ·omega
   ·exact largeF_ok r h n hn
theorem largeD_ok {l : List Ent} (h : largeD l = false) : l.length ≤ 30 ∧ ∀ x ∈ l, x.1.length ≤ 200 ∧ x.2.length ≤ 9000 := by
 unfold largeD at h
 split at h
 ·cases h
 ·exact ⟨by omega, largeF_ok l h⟩
section
variable {l : List Ent}
end
end X
end

noncomputable section
open Go Go.Ab Go.Proofs V S T C
namespace W
section
variable {Post : AV → List AObj → Prop}
end
end W
end

noncomputable section
open Go Go.Ab Go.Proofs V S T C
open W (sl1 slS slN slR leNone renS)
open Sp
namespace Sg
structure Good (l : List Int) : Prop where
 rise : l.Pairwise (· < ·)
 low : ∀ q ∈ l, 0 ≤ q ∧ q ≤ 1000000000
 zero : (0 : Int) ∈ l
 top : (1000000000 : Int) ∈ l
def Ends (a : List Span) (l : List Int) : Prop := ∀ s ∈ a, s.1 ∈ l ∧ s.2 ∈ l
section
variable {op : Int} {a b : List Span} (ha : ok a) (hb : ok b) {l : List Int} (hg : Good l) (he : Ends a l ∧ Ends b l) (hl : l.length ≤ 10000000000)
include ha hb hg he hl
end
end Sg
end

noncomputable section
namespace Go.Ab
def opsOf : Code → Array Oper
 | .region _ ops _ => ops
 | _ => #[]
def areg (P : Program) (cfg : Cfg) (c : Code) (s : Slots) (H : List AObj) (K : Slots → List AObj → Prop) : Prop := match c with
 | .region _ ops false => aops P cfg ops (List.range ops.size) s H K
 | .region _ ops true => adraw P cfg ops s H K
 | _ => False
section
variable {P : Program} {M : Mem} {loc : Locs} {H : List AObj} {w : World}
structure Kept (cfg : Cfg) (M : Mem) (loc : Locs) (H : List AObj) (w : World) (a a' : Act) (w' : World) (s' : Slots) (H' : List AObj) (M' : Mem) (loc' : Locs) : Prop where
 rel : Rel M' loc' H' w'
 srel : SRel M' w' loc' s' a'.tmps
 size : a'.tmps.size = cfg.N
 defers : a'.defers = a.defers
 step : Step M loc H w M' loc' H' w'
theorem areg_sound {cfg : Cfg} {c : Code} {s : Slots} {a : Act} {K : Slots → List AObj → Prop} {Q : Exit → Act → World → Prop} (h : areg P cfg c s H K) (ht : Tabs P M w) (hr : Rel M loc H w) (hs : SRel M w loc s a.tmps) (hN : a.tmps.size = cfg.N)
  (hq : ∀ a' w' s' H' M' loc', K s' H' → Kept cfg M loc H w a a' w' s' H' M' loc' → Q .normal a' w') : c.wpIn (FW none) 0 P Q a w := by
 unfold areg at h
 split at h
 case h_3 => exact h.elim
 case h_1 id ops => exact wpIn_region (aops_sound _ s a _ h ht hr hs hN fun a' s' H' M' loc' w' k1 k2 k3 k4 k5 k6 => hq a' w' s' H' M' loc' k1 ⟨k2, k3, k4, k5, k6⟩)
 case h_2 id ops => exact adraw_sound (cfg := cfg) h ht hr hs hN fun a' s' H' M' loc' w' k1 k2 k3 k4 k5 k6 => hq a' w' s' H' M' loc' k1 ⟨k2, k3, k4, k5, k6⟩
end
section
variable {P : Program}
theorem wpOpsIn_value {ops : Array Oper} {Q : Exit → Act → World → Prop} {i : Nat} {rest : List Nat} {a : Act} {w : World} {o : Oper} {v : Value} (ho : ops[i]? = some o) (hg : o.guard = none)
  (he : (execOp a.eval o).run P w = .ok (.value v) w) (h : wpOpsIn (FW none) 0 P ops Q rest (a.put o.dst v) w) : wpOpsIn (FW none) 0 P ops Q (i :: rest) a w := by
 rw [wpOpsIn_cons]
 unfold wpOpIn
 rw [ho]
 have hw : Region.wanted o (yielded ops a.tmps) = true := by simp [Region.wanted, hg]
 simp only
 rw [if_pos hw]
 refine ⟨fun _ _ => trivial, ?_⟩
 rw [show (FW none).round = none from rfl, Oper.semAt_none, he]
 exact h
theorem wpOpsIn_defer {ops : Array Oper} {Q : Exit → Act → World → Prop} {i : Nat} {rest : List Nat} {a : Act} {w : World} {o : Oper} {d : Deferred} (ho : ops[i]? = some o) (hg : o.guard = none)
  (he : (execOp a.eval o).run P w = .ok (.defer d) w) (h : wpOpsIn (FW none) 0 P ops Q rest ({ a with defers := d :: a.defers }.put o.dst undef) w) : wpOpsIn (FW none) 0 P ops Q (i :: rest) a w := by
 rw [wpOpsIn_cons]
 unfold wpOpIn
 rw [ho]
 have hw : Region.wanted o (yielded ops a.tmps) = true := by simp [Region.wanted, hg]
 simp only
 rw [if_pos hw]
 refine ⟨fun _ _ => trivial, ?_⟩
 rw [show (FW none).round = none from rfl, Oper.semAt_none, he]
 exact h
theorem wpOpsSIn_value {ops : Array Oper} {n : Nat} {Q : Exit → Act → List Frame → World → Prop} {i : Nat} {rest : List Nat} {a : Act} {cs : List Frame} {w : World} {o : Oper} {v : Value} (ho : ops[i]? = some o) (hg : o.guard = none)
  (he : (execOp a.eval o).run P w = .ok (.value v) w) (h : wpOpsSIn (FW none) n P ops Q rest (a.put o.dst v) cs w) : wpOpsSIn (FW none) n P ops Q (i :: rest) a cs w := by
 simp only [wpOpsSIn, ho]
 have hw : Region.wanted o (yielded ops a.tmps) = true := by simp [Region.wanted, hg]
 rw [if_pos hw, he]
 exact ⟨fun _ _ => trivial, h⟩
def recV (u : FrameMode) : Value := match u with
 | .panicking ({ v, recovered := false, goexit := false } :: _) => v
 | _ => .nilIface
def recU (u : FrameMode) : FrameMode := match u with
 | .panicking ({ v, recovered := false, goexit := false } :: older) => .panicking ({ v, recovered := true } :: older)
 | u => u
theorem wpOpsSIn_recover {ops : Array Oper} {n : Nat} {Q : Exit → Act → List Frame → World → Prop} {i : Nat} {rest : List Nat} {a : Act} {c : Frame} {cs : List Frame} {w : World} {o : Oper} (ho : ops[i]? = some o) (hg : o.guard = none)
  (hop : o.op = .call { callee := .builtin .recover, args := #[], argTypes := #[] }) (h : wpOpsSIn (FW none) n P ops Q rest (a.put o.dst (recV c.mode)) ({ c with mode := recU c.mode } :: cs) w) : wpOpsSIn (FW none) n P ops Q (i :: rest) a (c :: cs) w := by
 have he : (execOp a.eval o).run P w = .ok .recover w := by
  simp only [execOp, hop, resolve, pure_bind, invoke, builtin, Sem.run_bind, Sem.run_pure, Result.andThen_ok]
 simp only [wpOpsSIn, ho]
 have hw : Region.wanted o (yielded ops a.tmps) = true := by simp [Region.wanted, hg]
 rw [if_pos hw, he]
 refine ⟨fun _ _ => trivial, ?_⟩
 unfold recV recU at h
 simp only [recoverD]
 split
 ·rename_i v cs' hrec
  split at hrec
  ·rename_i vv older hm
   simp only [Option.some.injEq, Prod.mk.injEq] at hrec
   obtain ⟨rfl, rfl⟩ := hrec
   simp only [hm] at h
   exact h
  ·cases hrec
 ·rename_i hrec
  split at hrec
  ·cases hrec
  ·rename_i hne
   have e1 : (match c.mode with | .panicking ({ v, recovered := false, goexit := false } :: _) => v | _ => Value.nilIface) = .nilIface := by
    split
    ·rename_i vv older hm; exact (hne _ _ hm).elim
    ·rfl
   have e2 : ({ c with mode := (match c.mode with | .panicking ({ v, recovered := false, goexit := false } :: older) => FrameMode.panicking ({ v, recovered := true } :: older) | u => u) } : Frame) = c := by
    split
    ·rename_i vv older hm; exact (hne _ _ hm).elim
    ·rfl
   rw [e1, e2] at h
   exact h
theorem wpOpsIn_callX {ops : Array Oper} {Q : Exit → Act → World → Prop} {i : Nat} {rest : List Nat} {a : Act} {M : Mem} {loc : Locs} {H : List AObj} {w : World} {s : Slots} {dst : Option Tmp} {f : Operand} {args : Array Operand} {ts : Array TypeId} {type : TypeId} {pos : String} {after : Array Edge}
  {g : FuncId} {cap : List AV} {Post PX : AV → List AObj → Prop} (ho : ops[i]? = some ⟨dst, .call ⟨.value f, args, ts⟩, type, pos, after, none⟩) (hgf : ev s f = .fn g cap) (hp : plainFn P g = true)
  (hspec : ASpecX P g (args.toList.map (ev s) ++ cap) H Post PX) (ht : Tabs P M w) (hr : Rel M loc H w) (hs : SRel M w loc s a.tmps)
  (hret : ∀ v r H' M' loc' w', Post r H' → Rel M' loc' H' w' → VRel M' w' loc' r v → Step M loc H w M' loc' H' w' → wpOpsIn (FW none) 0 P ops Q rest (a.put dst v) w')
  (hpan : ∀ v r H' M' loc' w', PX r H' → Rel M' loc' H' w' → VRel M' w' loc' r v → Step M loc H w M' loc' H' w' → Q (.panic [{ v, recovered := false }]) a w') : wpOpsIn (FW none) 0 P ops Q (i :: rest) a w := by
 rw [wpOpsIn_cons]
 unfold wpOpIn
 rw [ho]
 have hw : Region.wanted ⟨dst, .call ⟨.value f, args, ts⟩, type, pos, after, none⟩ (yielded ops a.tmps) = true := by simp [Region.wanted]
 simp only
 rw [if_pos hw]
 have hf := vrel_ev hs f
 rw [hgf] at hf
 generalize hq : a.eval f = q at hf
 cases hf with
 | fn _ _ vs hvs hvr =>
 have hall := VRels.append (vrels_ev hs args) ⟨hvs, hvr⟩
 have hcalls := hspec M loc w _ ht hr hall
 unfold plainFn at hp
 split at hp
 case h_2 => cases hp
 case h_1 fnf hfn =>
 rw [Bool.and_eq_true] at hp
 have hname : (fnf.name == "runtime.NumGoroutine") = false := by simpa using hp.2
 have hbody : fnf.body.isNone = false := by
  cases hb : fnf.body with
  | none => rw [hb] at hp; simp at hp
  | some c => rfl
 have he : (execOp a.eval ⟨dst, .call ⟨.value f, args, ts⟩, type, pos, after, none⟩).run P w = .ok (.enter g (args.map a.eval ++ vs)) w := by
  simp only [execOp, resolve, hq, Deferred.ofValue, pure_bind, invoke, callFunc, Sem.run_bind, run_program, Result.andThen_ok, hfn, hname, hbody, Bool.false_eq_true, if_false, Sem.run_pure, Array.empty_append]
 refine ⟨fun _ _ => trivial, ?_⟩
 rw [show (FW none).round = none from rfl, Oper.semAt_none, he]
 refine ⟨fun h => by simp [FW] at h, (callsW hcalls).mono fun e w2 hh => ?_⟩
 rcases hh with ⟨v, r, H2, M2, loc2, rfl, hK, r1, r2, r3⟩ | ⟨v, r, H2, M2, loc2, rfl, hK, r1, r2, r3⟩
 ·exact hret v r H2 M2 loc2 w2 hK r1 r2 r3
 ·exact hpan v r H2 M2 loc2 w2 hK r1 r2 r3
end
end Go.Ab
end

noncomputable section
open Go Go.Ab Go.Proofs
open Go.Proofs.Tryz (prog)
namespace Ps
noncomputable section
def retPs : List (Nat × Ret) := [
  (29, ⟨Bool, fun _ _ x => .bool x, fun _ H _ => H⟩),
  (30, ⟨Bool, fun _ _ x => .bool x, fun _ H _ => H⟩),
  (31, ⟨Bool, fun _ _ x => .bool x, fun _ H _ => H⟩),
  (34, ⟨Bool, fun _ _ x => .bool x, fun _ H _ => H⟩),
  (8, ⟨Bool, fun _ _ x => .bool x, fun _ H _ => H⟩),
  (9, ⟨Bool, fun _ _ x => .bool x, fun _ H _ => H⟩),
  (10, ⟨Bool, fun _ _ x => .bool x, fun _ H _ => H⟩),
  (26, ⟨Unit, fun _ _ _ => .bool true, fun _ H _ => H⟩)]
def rets : FuncId → List Ret := fun f => match lookupR retPs f with
  | [] => Pn.rets f
  | l => l
def m26 : Nat → Bool
  | 8 => true
  | 9 => true
  | 12 => true
  | 13 => true
  | _ => false
def g26 : Cfg := { N := 53, live := nol, cut := nof, mu := m26, ret := rets }
theorem s26 : ∀ (Post : PT),
  (ASpec prog 43 [] [] fun r H' => ∃ (x : Unit), r = AV.ptr 1 0 ∧ H' = [AObj.mp (.typed T.EK []), .cells [.map 0]] ∧ ASpec prog 40 [.ptr 1 0, .str ⟨#[(97 : UInt8)]⟩, .sl 1 (.raw [[.int .u8 1], [.int .u8 97], [.int .u8 2], [.int .u8 4], [.int .u8 0], [.int .u8 8], [.int .u8 1], [.int .u8 1], [.int .u8 98], [.int .u8 1], [.int .u8 0], [.int .u8 8]]) .none] [AObj.mp (.typed T.EK []), .cells [.map 0], .gone] fun r H' => ∃ (x : Int × T.Kn), r = AV.int .i64 x.1 ∧ H' = [AObj.mp (.typed T.EK x.2), .cells [.map 0], .gone] ∧ ASpec prog 40 [.ptr 1 0, .str ⟨#[(98 : UInt8)]⟩, .sl 1 (.raw [[.int .u8 1], [.int .u8 98], [.int .u8 1], [.int .u8 8], [.int .u8 0]]) .none] [AObj.mp (.typed T.EK x.2), .cells [.map 0], .gone, .gone] fun r H' => ∃ (x : Int × T.Kn), r = AV.int .i64 x.1 ∧ H' = [AObj.mp (.typed T.EK x.2), .cells [.map 0], .gone, .gone] ∧ ASpec prog 27 [.ptr 1 0, AV.sl 2 (.raw [[.str ⟨#[(97 : UInt8)]⟩, .sl 2 (.raw [[.int .i64 0, .int .i64 1000000000]]) .full], [.str ⟨#[(98 : UInt8)]⟩, .sl 2 (.raw [[.int .i64 0, .int .i64 1000000000]]) .full]]) .full, AV.int .i64 9] [AObj.mp (.typed T.EK x.2), .cells [.map 0], .gone, .gone] fun r H' => ∃ (x_1 : List T.Pk × Int × ByteArray), r = AV.tup [T.aK x_1.1, .int .i64 x_1.2.1, .str x_1.2.2] ∧ H' = [AObj.mp (.typed T.EK x.2), .cells [.map 0], .gone, .gone] ∧ condP (Prod.fst x_1.2 == (1 : Int)) (condP (ByteArray.toList x_1.2.2 == ByteArray.toList ⟨#[]⟩) (condP ((↑x_1.1.length : Int) == (2 : Int)) (needP ((0 : Int) ≤ (0 : Int) ∧ (0 : Int) < (↑x_1.1.length : Int)) (condP (ByteArray.toList ⟨(x_1.1.getD 0 T.noPk).1.toArray⟩ == ByteArray.toList ⟨#[(97 : UInt8)]⟩ && ((x_1.1.getD 0 T.noPk).2 == (4 : Int) && true)) (needP ((0 : Int) ≤ (1 : Int) ∧ (1 : Int) < (↑x_1.1.length : Int)) (Post (AV.bool (ByteArray.toList ⟨(x_1.1.getD 1 T.noPk).1.toArray⟩ == ByteArray.toList ⟨#[(98 : UInt8)]⟩ && ((x_1.1.getD 1 T.noPk).2 == (8 : Int) && true))) [AObj.mp (.typed T.EK x.2), .cells [.map 0], .gone, .gone])) (Post (.bool false) [AObj.mp (.typed T.EK x.2), .cells [.map 0], .gone, .gone]))) (Post (.bool false) [AObj.mp (.typed T.EK x.2), .cells [.map 0], .gone, .gone])) (Post (.bool false) [AObj.mp (.typed T.EK x.2), .cells [.map 0], .gone, .gone])) (Post (.bool false) [AObj.mp (.typed T.EK x.2), .cells [.map 0], .gone, .gone])) → ASpec prog 26 [] [] Post := fun Post h => ASpec.of_vc g26 Tryz.func26 (by kernel_rfl) (by kernel_rfl) (by kernel_rfl) (kc (by kernel_rfl) h)
end
end Ps
end

noncomputable section
open Go Go.Ab Go.Proofs
namespace Go.Ab
def cInt : Codec Tryz.prog 3 Int := Codec.int .i64 Tryz.underlying3
def cStr : Codec Tryz.prog 9 ByteArray := Codec.str Tryz.underlying9
def cByte : Codec Tryz.prog 5 UInt8 where
 enc b := encB b
 ok _ := True
 dflt := 0
 opens := by
  intro H e w fuel cs x h
  obtain ⟨n, h1, h2⟩ := (Codec.int .u8 Tryz.underlying5).opens e w fuel cs x h
  have hn : 0 ≤ n ∧ n ≤ 255 := by simpa [Codec.int, Lit.wf, IntKind.min, IntKind.max, IntKind.signed, IntKind.bits] using h1
  refine ⟨UInt8.ofNat n.toNat, trivial, ?_⟩
  rw [← encB_ofNat hn.1 (by omega)]
  exact h2
def cBytes : Codec Tryz.prog 91 (List UInt8) := Codec.slice (sz := 1) cByte Tryz.underlying91 (by kernel_rfl) (by omega) (fun _ => rfl)
end Go.Ab
end

noncomputable section
open Go Go.Ab Go.Proofs
namespace Go.Ab
def cName : Codec Tryz.prog 9 (List UInt8) := cStr.iso (fun s => s.data.toList) (fun l => [.str ⟨l.toArray⟩]) (fun _ => True) (fun _ => rfl) (fun _ _ => trivial)
def cSpan : Codec Tryz.prog 100 T.Span :=
 (Codec.struct (n := 2) Tryz.underlying100 (FC.cons (k := 1) (n := 1) cInt rfl (by kernel_rfl) (FC.cons (k := 1) (n := 0) cInt rfl (by kernel_rfl) FC.nil)) (by kernel_rfl)).iso (fun x => (x.1, x.2.1)) T.encS (fun _ => True) (fun _ => rfl) (fun _ _ => trivial)
def cSpans : Codec Tryz.prog 59 (List T.Span) := Codec.slice (sz := 2) cSpan Tryz.underlying59 (by kernel_rfl) (by omega) (fun _ => rfl)
def cNeed : Codec Tryz.prog 96 T.Need :=
 (Codec.struct (n := 2) Tryz.underlying96 (FC.cons (k := 1) (n := 1) cName rfl (by kernel_rfl) (FC.cons (k := 1) (n := 0) cSpans rfl (by kernel_rfl) FC.nil)) (by kernel_rfl)).iso (fun x => (x.1, x.2.1)) T.encN (fun _ => True) (fun _ => rfl) (fun _ _ => trivial)
def cNeeds : Codec Tryz.prog 23 (List T.Need) := Codec.slice (sz := 2) cNeed Tryz.underlying23 (by kernel_rfl) (by omega) (fun _ => rfl)
end Go.Ab
end

noncomputable section
open Go Go.Ab Go.Proofs
namespace Go.Ab
def cEnt : Codec Tryz.prog 93 T.Ent :=
 (Codec.struct (n := 2) Tryz.underlying93 (FC.cons (k := 1) (n := 1) cName rfl (by kernel_rfl) (FC.cons (k := 1) (n := 0) cBytes rfl (by kernel_rfl) FC.nil)) (by kernel_rfl)).iso (fun x => (x.1, x.2.1)) T.encEn (fun _ => True) (fun _ => rfl) (fun _ _ => trivial)
def cEnts : Codec Tryz.prog 22 (List T.Ent) := Codec.slice (sz := 2) cEnt Tryz.underlying22 (by kernel_rfl) (by omega) (fun _ => rfl)
end Go.Ab
end

noncomputable section
open Go Go.Ab Go.Proofs
namespace Go.Ab
def cPk : Codec Tryz.prog 133 T.Pk :=
 (Codec.struct (n := 2) Tryz.underlying133 (FC.cons (k := 1) (n := 1) cName rfl (by kernel_rfl) (FC.cons (k := 1) (n := 0) cInt rfl (by kernel_rfl) FC.nil)) (by kernel_rfl)).iso (fun x => (x.1, x.2.1)) T.encPk (fun _ => True) (fun _ => rfl) (fun _ _ => trivial)
def cPks : Codec Tryz.prog 70 (List T.Pk) := Codec.slice (sz := 2) cPk Tryz.underlying70 (by kernel_rfl) (by omega) (fun _ => rfl)
def cCh : Codec Tryz.prog 77 T.Ch :=
 (Codec.struct (n := 2) Tryz.underlying77 (FC.cons (k := 1) (n := 1) cNeeds rfl (by kernel_rfl) (FC.cons (k := 1) (n := 0) cPks rfl (by kernel_rfl) FC.nil)) (by kernel_rfl)).iso (fun x => (x.1, x.2.1)) T.encCh (fun _ => True) (fun _ => rfl) (fun _ _ => trivial)
end Go.Ab
end

noncomputable section
namespace Go.Proofs.Facts
open Go Go.Proofs
theorem andT {a b : Bool} (h : a = true) (k : b = true) : (a && b) = true := by rw [h, k]; rfl
theorem laid : laidOutB Tryz.prog = true := by kernel_rfl
theorem mapsRowed : Go.mapsRowed Tryz.prog = true := by kernel_rfl
theorem stops : (Tryz.prog.stops == []) = true := by kernel_rfl
theorem stopKnobs : (Tryz.prog.stopKnobs == []) = true := by kernel_rfl
theorem heard : Tryz.prog.stopsHeard = true := by kernel_rfl
theorem may : Tryz.prog.mayEnter = true := by kernel_rfl
theorem lifted : (false == Tryz.prog.liftsFinal) = true := by kernel_rfl
theorem plain : (true == Tryz.prog.plainKeys) = true := by kernel_rfl
theorem made : (Tryz.prog.make == some .cut) = true := by kernel_rfl
theorem own : ownKnob Tryz.prog.godebug = none := by kernel_rfl
end Go.Proofs.Facts
end
