/- own texts -/
import Derived.Test.YtkmolhmdikjmpaaGreatProg
import Derived.Test.YtkmolhmdikjmpaaGreatA3
set_option linter.unusedVariables false
set_option linter.unusedSimpArgs false
set_option linter.unusedSectionVars false
set_option maxRecDepth 100000
set_option maxHeartbeats 4000000
noncomputable section
open Go Go.Ab Go.Proofs
open Go.Proofs.Tryz (prog)
namespace V
noncomputable section
def rd (bs : List UInt8) (p e : Int) : AObj := .cells [.sl 1 (.map encB 0 bs) .none, .int .i64 p, .int .i64 e]
def upd3 (args : List AV) (H : List AObj) (p e : Int) : List AObj := match args with
  | .ptr id _ :: _ => match H[id]? with
    | some (.cells [b, _, _]) => H.set id (.cells [b, .int .i64 p, .int .i64 e])
    | _ => H
  | _ => H
def upd2 (args : List AV) (H : List AObj) (s : ByteArray) (e : Int) : List AObj := match args with
  | .ptr id _ :: _ => H.set id (.cells [.str s, .int .i64 e])
  | _ => H
def retL : List (Nat × Ret) := [
  (18016, ⟨Unit, fun _ _ _ => .bool true, fun _ H _ => H⟩),
  (9140, ⟨List UInt8, fun _ H l => .sl 1 (.map encB 0 l) (.tok H.length), fun _ H _ => H ++ [.tok]⟩),
  (9141, ⟨List UInt8, fun _ H l => .sl 1 (.map encB 0 l) (.tok H.length), fun _ H _ => H ++ [.tok]⟩),
  (18019, ⟨ByteArray, fun _ _ s => .str s, fun _ H _ => H⟩),
  (9151, ⟨ByteArray, fun _ _ s => .str s, fun _ H _ => H⟩),
  (170, ⟨List UInt8, fun _ H _ => .ptr H.length 0, fun _ H l => H ++ [rd l 0 0]⟩),
  (174, ⟨Int × Int × Int, fun _ _ x => .int .i64 x.1, fun a H x => upd3 a H x.2.1 x.2.2⟩),
  (172, ⟨ByteArray × Int × Int, fun _ _ x => .str x.1, fun a H x => upd3 a H x.2.1 x.2.2⟩),
  (211, ⟨Int, fun _ _ x => .int .i64 x, fun _ H _ => H⟩),
  (212, ⟨Int, fun _ _ x => .int .i64 x, fun _ H _ => H⟩),
  (188, ⟨Int × ByteArray × Int, fun _ _ x => .int .i64 x.1, fun a H x => upd2 a H x.2.1 x.2.2⟩),
  (187, ⟨ByteArray × ByteArray × Int, fun _ _ x => .str x.1, fun a H x => upd2 a H x.2.1 x.2.2⟩),
  (18028, ⟨Int × Int, fun _ _ x => .tup [], fun a H x => upd3 a H x.1 x.2⟩),
  (18029, ⟨ByteArray × Int, fun _ _ x => .tup [], fun a H x => upd2 a H x.1 x.2⟩),
  (180, ⟨Int, fun _ _ x => .int .i64 x, fun _ H _ => H⟩),
  (190, ⟨Int, fun _ _ x => .int .i64 x, fun _ H _ => H⟩),
  (9150, ⟨ByteArray, fun _ _ s => .str s, fun _ H _ => H⟩),
  (210, ⟨Int × Int × Int × Int, fun _ _ x => .tup [.int .i64 x.1, .int .i64 x.2.1], fun a H x => upd3 a H x.2.2.1 x.2.2.2⟩),
  (215, ⟨Int × Int × Int, fun _ _ x => .tup [.int .i64 x.1, .int .i64 x.2.1, .int .i64 x.2.2], fun _ H _ => H⟩)]
def rets : FuncId → List Ret := lookupR retL
def l170 : Nat → List Nat
  | 3 => [3]
  | _ => []
def u170 : Nat → Bool
  | 3 => true
  | _ => false
def m170 : Nat → Bool
  | _ => true
def g170 : Cfg := { N := 13, live := l170, cut := u170, mu := m170, ret := rets }
def c170 : Code := bodyOf Tryz.f170
def q170_0 (n : Nat) (Post : PT) : AQ := endQ prog (resultsOf Tryz.f170) Post
def c170_3 : Code := codeSnd (codeSnd (codeSnd c170))
theorem s170 : ∀ (bs : List UInt8) (tip : Tip) (Post : PT),
  needP ((0 : Int) ≤ (↑bs.length : Int) ∧ (↑bs.length : Int) ≤ (↑bs.length : Int) ∧ (↑bs.length : Int) ≤ (9223372036854775807 : Int) ∧ (1 : Int) * (↑bs.length : Int) ≤ (281474976710656 : Int)) (needP (∀ (x : UInt8), List.all (encB x) oneAV = true) (needP (0 + List.length bs ≤ List.length (List.replicate bs.length [AV.int .u8 0]) ∧ List.length bs ≤ List.length bs) (AWP prog 13 0 c170_3 [(3, .msl 1 0 0 bs.length)] [AObj.arr 1 (copied (.raw (List.replicate bs.length [AV.int .u8 0])) 0 (.map encB 0 bs))] (q170_0 0 Post)))) → ASpec prog 170 [.sl 1 (.map encB 0 bs) tip] [] Post := fun bs tip Post h => ASpec.of_vc g170 Tryz.func170 (by kernel_rfl) (by kernel_rfl) (by kernel_rfl) (kc (by kernel_rfl) h)
theorem v170_3 : ∀ (bs : List UInt8) (n : Nat) (Post : PT),
  Post (.ptr 0 0) [AObj.cells [.sl 1 (.map encB 0 bs) .none, .int .i64 0, .int .i64 0]] → AWP prog 13 n c170_3 [(3, .sl 1 (.map encB 0 bs) .none)] [] (q170_0 n Post) := fun bs n Post h => Go.Ab.awp_sound g170 n _ _ _ _ (kc (by kernel_rfl) h)
def g174 : Cfg := { N := 27, live := nol, cut := nof, mu := nof, ret := rets }
theorem s174 : ∀ (bs : List UInt8) (p e most : Int) (Post : PT),
  condP (e != (0 : Int)) (Post (.int .i64 0) [AObj.cells [.sl 1 (.map encB 0 bs) .none, .int .i64 p, AV.int .i64 e]]) (ASpec prog 210 [.ptr 0 0, .int .i64 most] [AObj.cells [.sl 1 (.map encB 0 bs) .none, .int .i64 p, AV.int .i64 e]] fun r H' => ∃ (x : Int × Int × Int × Int), r = AV.tup [.int .i64 x.1, .int .i64 x.2.1] ∧ H' = [AObj.cells [.sl 1 (.map encB 0 bs) .none, .int .i64 x.2.2.1, .int .i64 x.2.2.2]] ∧ Post (.int .i64 x.1) [AObj.cells [.sl 1 (.map encB 0 bs) .none, .int .i64 x.2.1, .int .i64 x.2.2.2]]) → ASpec prog 174 [.ptr 0 0, .int .i64 most] [rd bs p e] Post := fun bs p e most Post h => ASpec.of_vc g174 Tryz.func174 (by kernel_rfl) (by kernel_rfl) (by kernel_rfl) (kc (by kernel_rfl) h)
def g172 : Cfg := { N := 56, live := nol, cut := nof, mu := nof, ret := rets }
theorem s172 : ∀ (bs : List UInt8) (p e most : Int) (Post : PT),
  condP (e != (0 : Int)) (Post (.str ⟨#[]⟩) [AObj.cells [.sl 1 (.map encB 0 bs) .none, .int .i64 p, AV.int .i64 e]]) (ASpec prog 210 [.ptr 0 0, .int .i64 most] [AObj.cells [.sl 1 (.map encB 0 bs) .none, .int .i64 p, AV.int .i64 e]] fun r H' => ∃ (x : Int × Int × Int × Int), r = AV.tup [.int .i64 x.1, .int .i64 x.2.1] ∧ H' = [AObj.cells [.sl 1 (.map encB 0 bs) .none, .int .i64 x.2.2.1, .int .i64 x.2.2.2]] ∧ condP (Prod.snd x.2.2 != (0 : Int)) (Post (.str ⟨#[]⟩) [AObj.cells [.sl 1 (.map encB 0 bs) .none, .int .i64 x.2.2.1, .int .i64 x.2.2.2]]) (condP (decide (Prod.fst x > IntKind.wrap .i64 ((↑bs.length : Int) - Prod.fst x.2))) (Post (.str ⟨#[]⟩) [AObj.cells [.sl 1 (.map encB 0 bs) .none, .int .i64 x.2.2.1, .int .i64 2]]) (needP ((0 : Int) ≤ Prod.fst x.2 ∧ Prod.fst x.2 ≤ IntKind.wrap .i64 (Prod.fst x.2 + Prod.fst x) ∧ IntKind.wrap .i64 (Prod.fst x.2 + Prod.fst x) ≤ (↑bs.length : Int)) (needP (allBytes (.map encB 0 (List.drop x.2.1.toNat (List.take (Int.toNat (IntKind.wrap .i64 (Prod.fst x.2 + Prod.fst x))) bs)))) (Post (AV.str (bytesOf (.map encB 0 (List.drop x.2.1.toNat (List.take (Int.toNat (IntKind.wrap .i64 (Prod.fst x.2 + Prod.fst x))) bs))))) [AObj.cells [.sl 1 (.map encB 0 bs) .none, .int .i64 (IntKind.wrap .i64 (Prod.fst x.2 + Prod.fst x)), AV.int .i64 x.2.2.2]]))))) → ASpec prog 172 [.ptr 0 0, .int .i64 most] [rd bs p e] Post := fun bs p e most Post h => ASpec.of_vc g172 Tryz.func172 (by kernel_rfl) (by kernel_rfl) (by kernel_rfl) (kc (by kernel_rfl) h)
def g211 : Cfg := { N := 9, live := nol, cut := nof, mu := nof, ret := rets }
theorem s211 : ∀ (bs : List UInt8) (p e : Int) (Post : PT),
  Post (.int .i64 e) [AObj.cells [.sl 1 (.map encB 0 bs) .none, .int .i64 p, AV.int .i64 e]] → ASpec prog 211 [.ptr 0 0] [rd bs p e] Post := fun bs p e Post h => ASpec.of_vc g211 Tryz.func211 (by kernel_rfl) (by kernel_rfl) (by kernel_rfl) (kc (by kernel_rfl) h)
def g212 : Cfg := { N := 15, live := nol, cut := nof, mu := nof, ret := rets }
theorem s212 : ∀ (bs : List UInt8) (p e : Int) (Post : PT),
  Post (.int .i64 (IntKind.wrap .i64 ((↑bs.length : Int) - p))) [AObj.cells [AV.sl 1 (.map encB 0 bs) .none, .int .i64 p, AV.int .i64 e]] → ASpec prog 212 [.ptr 0 0] [rd bs p e] Post := fun bs p e Post h => ASpec.of_vc g212 Tryz.func212 (by kernel_rfl) (by kernel_rfl) (by kernel_rfl) (kc (by kernel_rfl) h)
def g180 : Cfg := { N := 14, live := nol, cut := nof, mu := nof, ret := rets }
abbrev hps1800 (bs : List UInt8) (p : Int) (e : Int) : List AObj := [AObj.cells [.sl 1 (.map encB 0 bs) .none, .int .i64 p, AV.int .i64 e]]
theorem s180 : ∀ (bs : List UInt8) (p e : Int) (Post : PT),
  (ASpec prog 211 [.ptr 0 0] (hps1800 bs p e) fun r H' => ∃ (x : Int), r = AV.int .i64 x ∧ H' = (hps1800 bs p e) ∧ condP (x != (0 : Int)) (Post (.int .i64 x) (hps1800 bs p e)) (ASpec prog 212 [.ptr 0 0] (hps1800 bs p e) fun r H' => ∃ (x : Int), r = AV.int .i64 x ∧ H' = (hps1800 bs p e) ∧ condP (decide (x > (0 : Int))) (Post (.int .i64 3) (hps1800 bs p e)) (Post (.int .i64 0) (hps1800 bs p e)))) → ASpec prog 180 [.ptr 0 0] [rd bs p e] Post := fun bs p e Post h => ASpec.of_vc g180 Tryz.func180 (by kernel_rfl) (by kernel_rfl) (by kernel_rfl) (kc (by kernel_rfl) h)
def l210 : Nat → List Nat
  | 9 => [0, 1, 6, 44]
  | _ => []
def g210 : Cfg := { N := 113, live := l210, cut := nof, mu := nof, ret := rets }
def c210 : Code := bodyOf Tryz.f210
def q210_0 (n : Nat) (Post : PT) : AQ := endQ prog (resultsOf Tryz.f210) Post
def q210_1 (n : Nat) (Post : PT) : AQ := seqQ (fun s' H' => awp prog g210 n (codeSnd (codeSnd (codeSnd (codeSnd (codeSnd c210))))) s' H' (q210_0 n Post)) (q210_0 n Post)
def q210_2 (n : Nat) (Post : PT) : AQ := blockQ 0 (q210_1 n Post)
def c210_9 : Code := codeFst (codeSnd (codeFst (codeSnd (codeSnd (codeSnd (codeSnd c210))))))
abbrev hps2100 (bs : List UInt8) (p : Int) : List AObj := [AObj.cells [.sl 1 (.map encB 0 bs) .none, .int .i64 p, AV.int .i64 2]]
abbrev hps2101 (bs : List UInt8) (p : Int) : List AObj := [AObj.cells [.sl 1 (.map encB 0 bs) .none, .int .i64 p, AV.int .i64 3]]
theorem s210 : ∀ (bs : List UInt8) (p e most : Int) (Post : PT),
  condP (p == (↑bs.length : Int)) ((AV.int .i64 p = AV.int .i64 p ∧ (hps2100 bs p) = (hps2100 bs p)) ∧ Post (.tup [.int .i64 0, .int .i64 p]) (hps2100 bs p)) (needP (0 ≤ p ∧ p < (↑bs.length : Int)) (condP ((↑(UInt8.toNat (bs.getD p.toNat (0 : UInt8))) : Int) == (128 : Int)) ((AV.int .i64 p = AV.int .i64 p ∧ (hps2101 bs p) = (hps2101 bs p)) ∧ Post (.tup [.int .i64 0, .int .i64 p]) (hps2101 bs p)) (AWP prog 113 1 c210_9 [(0, .ptr 0 0), (1, .int .i64 most), (6, .int .i64 0), (44, .int .i64 0)] [AObj.cells [.sl 1 (.map encB 0 bs) .none, .int .i64 p, AV.int .i64 e]] (q210_2 1 Post)))) → ASpec prog 210 [.ptr 0 0, .int .i64 most] [rd bs p e] Post := fun bs p e most Post h => ASpec.of_vc g210 Tryz.func210 (by kernel_rfl) (by kernel_rfl) (by kernel_rfl) (kc (by kernel_rfl) h)
abbrev hpv210_90 (bs : List UInt8) (p : Int) : List AObj := [AObj.cells [.sl 1 (.map encB 0 bs) .none, .int .i64 p, AV.int .i64 4]]
abbrev hpv210_91 (bs : List UInt8) (p : Int) (e : Int) : List AObj := [AObj.cells [.sl 1 (.map encB 0 bs) .none, .int .i64 p, AV.int .i64 e]]
abbrev hpv210_92 (bs : List UInt8) (p : Int) : List AObj := [AObj.cells [.sl 1 (.map encB 0 bs) .none, .int .i64 p, AV.int .i64 2]]
theorem v210_9 : ∀ (bs : List UInt8) (p e most x i : Int) (n : Nat) (Post : PT),
  condP (decide (i < (6 : Int))) (condP (IntKind.wrap .i64 (p + i) == (↑bs.length : Int)) ((AV.int .i64 p = AV.int .i64 p ∧ (hpv210_92 bs p) = (hpv210_92 bs p)) ∧ Post (.tup [.int .i64 0, .int .i64 p]) (hpv210_92 bs p)) (needP ((0 : Int) ≤ IntKind.wrap .i64 (p + i) ∧ IntKind.wrap .i64 (p + i) < (↑bs.length : Int)) (needP ((128 : Int) ≠ (0 : Int)) (condP (decide (IntKind.wrap .i64 (↑(UInt8.toNat (bs.getD (Int.toNat (IntKind.wrap .i64 (p + i))) (0 : UInt8))) : Int) ≥ (128 : Int))) (AWP prog 113 n c210_9 [(0, .ptr 0 0), (1, .int .i64 most), (6, AV.int .i64 (IntKind.wrap .i64 (IntKind.wrap .i64 (x * (128 : Int)) + Int.tmod (IntKind.wrap .i64 (↑(UInt8.toNat (bs.getD (Int.toNat (IntKind.wrap .i64 (p + i))) (0 : UInt8))) : Int)) (128 : Int)))), (44, .int .i64 (IntKind.wrap .i64 (i + (1 : Int))))] (hpv210_91 bs p e) (q210_2 n Post)) (condP (decide (IntKind.wrap .i64 (IntKind.wrap .i64 (x * (128 : Int)) + Int.tmod (IntKind.wrap .i64 (↑(UInt8.toNat (bs.getD (Int.toNat (IntKind.wrap .i64 (p + i))) (0 : UInt8))) : Int)) (128 : Int)) > if (1099511627776 : Int) < most then (1099511627776 : Int) else most)) ((AV.int .i64 p = AV.int .i64 p ∧ (hpv210_90 bs p) = (hpv210_90 bs p)) ∧ Post (.tup [.int .i64 0, .int .i64 p]) (hpv210_90 bs p)) ((AV.int .i64 p = AV.int .i64 p ∧ (hpv210_91 bs p e) = (hpv210_91 bs p e)) ∧ Post (AV.tup [.int .i64 (IntKind.wrap .i64 (IntKind.wrap .i64 (x * (128 : Int)) + Int.tmod (IntKind.wrap .i64 (↑(UInt8.toNat (bs.getD (Int.toNat (IntKind.wrap .i64 (p + i))) (0 : UInt8))) : Int)) (128 : Int))), AV.int .i64 (IntKind.wrap .i64 (IntKind.wrap .i64 (p + i) + (1 : Int)))]) (hpv210_91 bs p e))))))) ((AV.int .i64 p = AV.int .i64 p ∧ (hpv210_90 bs p) = (hpv210_90 bs p)) ∧ Post (.tup [.int .i64 0, .int .i64 p]) (hpv210_90 bs p)) → AWP prog 113 n c210_9 [(0, .ptr 0 0), (1, .int .i64 most), (6, .int .i64 x), (44, .int .i64 i)] [rd bs p e] (q210_2 n Post) := fun bs p e most x i n Post h => AWP.loop' g210 (Cfg.live g210) c210_9 (by kernel_rfl) (by kernel_rfl) (kc (by kernel_rfl) h)
end
end V
end

noncomputable section
open Go Go.Ab Go.Proofs
namespace T
abbrev Span := Int × Int
abbrev Need := List UInt8 × List Span
abbrev Rel := Int × List Need
abbrev Mani := List UInt8 × List Rel
def encS (x : Span) : List AV := [.int .i64 x.1, .int .i64 x.2]
def encN (x : Need) : List AV := [.str ⟨x.1.toArray⟩, .sl 2 (.map encS (0, 0) x.2) .none]
def encR (x : Rel) : List AV := [.int .i64 x.1, .sl 2 (.map encN ([], []) x.2) .none]
def encM (x : Mani) : List AV := [.str ⟨x.1.toArray⟩, .sl 2 (.map encR (0, []) x.2) .none]
abbrev aN (x : List Need) : AV := .sl 2 (.map encN ([], []) x) .none
abbrev aS (x : List Span) : AV := .sl 2 (.map encS (0, 0) x) .none
abbrev aR (x : List Rel) : AV := .sl 2 (.map encR (0, []) x) .none
abbrev sB (x : List UInt8) : AV := .str ⟨x.toArray⟩
end T
end

noncomputable section
open Go Go.Ab Go.Proofs
open Go.Proofs.Tryz (prog)
namespace C
noncomputable section
def retC : List (Nat × Ret) := [
  (41, ⟨Bool, fun _ _ x => .bool x, fun _ H _ => H⟩), (9066, ⟨Bool, fun _ _ x => .bool x, fun _ H _ => H⟩), (9062, ⟨Bool, fun _ _ x => .bool x, fun _ H _ => H⟩), (191, ⟨Bool, fun _ _ x => .bool x, fun _ H _ => H⟩),
  (51, ⟨Bool, fun _ _ x => .bool x, fun _ H _ => H⟩), (9, ⟨Bool, fun _ _ x => .bool x, fun _ H _ => H⟩), (181, ⟨Bool, fun _ _ x => .bool x, fun _ H _ => H⟩), (9173, ⟨Bool, fun _ _ x => .bool x, fun _ H _ => H⟩),
  (74, ⟨Bool, fun _ _ x => .bool x, fun _ H _ => H⟩), (10, ⟨Bool, fun _ _ x => .bool x, fun _ H _ => H⟩), (34, ⟨Bool, fun _ _ x => .bool x, fun _ H _ => H⟩), (213, ⟨Bool, fun _ _ x => .bool x, fun _ H _ => H⟩),
  (42, ⟨Bool, fun _ _ x => .bool x, fun _ H _ => H⟩), (139, ⟨Bool, fun _ _ x => .bool x, fun _ H _ => H⟩)]
def rets : FuncId → List Ret := lookupR (retC ++ V.retL)
def l139 : Nat → List Nat
  | 3 => [3, 6, 7, 8]
  | _ => []
def g139 : Cfg := { N := 31, live := l139, cut := nof, mu := nof, ret := rets }
def c139 : Code := bodyOf Tryz.f139
def q139_0 (n : Nat) (Post : PT) : AQ := endQ prog (resultsOf Tryz.f139) Post
def q139_1 (n : Nat) (Post : PT) : AQ := seqQ (fun s' H' => awp prog g139 n (codeSnd (codeSnd (codeSnd c139))) s' H' (q139_0 n Post)) (q139_0 n Post)
def q139_2 (n : Nat) (Post : PT) : AQ := blockQ 0 (q139_1 n Post)
def c139_3 : Code := codeFst (codeSnd (codeFst (codeSnd (codeSnd c139))))
theorem s139 : ∀ (l : List T.Span) (Post : PT),
  AWP prog 31 0 c139_3 [(3, .int .i64 (-1)), (6, T.aS l), (7, .int .i64 l.length), (8, .int .i64 0)] [] (q139_2 0 Post) → ASpec prog 139 [T.aS l] [] Post := fun l Post h => ASpec.of_vc g139 Tryz.func139 (by kernel_rfl) (by kernel_rfl) (by kernel_rfl) (kc (by kernel_rfl) h)
theorem v139_3 : ∀ (l : List T.Span) (e n i : Int) (n_1 : Nat) (Post : PT),
  condP (decide (i < n)) (needP (0 ≤ i ∧ i < (↑l.length : Int)) (condP (decide ((l.getD i.toNat ((0 : Int), (0 : Int))).1 ≤ e)) (Post (.bool false) [AObj.cells [.int .i64 (l.getD i.toNat ((0 : Int), (0 : Int))).1, .int .i64 (l.getD i.toNat ((0 : Int), (0 : Int))).2]]) (condP (decide ((l.getD i.toNat ((0 : Int), (0 : Int))).1 ≥ (l.getD i.toNat ((0 : Int), (0 : Int))).2)) (Post (.bool false) [AObj.cells [.int .i64 (l.getD i.toNat ((0 : Int), (0 : Int))).1, .int .i64 (l.getD i.toNat ((0 : Int), (0 : Int))).2]]) (condP (decide ((l.getD i.toNat ((0 : Int), (0 : Int))).2 > (1000000000 : Int))) (Post (.bool false) [AObj.cells [.int .i64 (l.getD i.toNat ((0 : Int), (0 : Int))).1, .int .i64 (l.getD i.toNat ((0 : Int), (0 : Int))).2]]) (AWP prog 31 n_1 c139_3 [(3, .int .i64 (l.getD i.toNat ((0 : Int), (0 : Int))).2), (6, T.aS l), (7, .int .i64 n), (8, .int .i64 (IntKind.wrap .i64 (i + (1 : Int))))] [AObj.cells [.int .i64 (l.getD i.toNat ((0 : Int), (0 : Int))).1, .int .i64 (l.getD i.toNat ((0 : Int), (0 : Int))).2]] (q139_2 n_1 Post)))))) (Post (.bool true) []) → AWP prog 31 n_1 c139_3 [(3, .int .i64 e), (6, T.aS l), (7, .int .i64 n), (8, .int .i64 i)] [] (q139_2 n_1 Post) := fun l e n i n Post h => AWP.loop' g139 (Cfg.live g139) c139_3 (by kernel_rfl) (by kernel_rfl) (kc (by kernel_rfl) h)
def l42 : Nat → List Nat
  | 2 => [0, 3]
  | _ => []
def g42 : Cfg := { N := 55, live := l42, cut := nof, mu := nof, ret := rets }
def c42 : Code := bodyOf Tryz.f42
def q42_0 (n : Nat) (Post : PT) : AQ := endQ prog (resultsOf Tryz.f42) Post
def q42_1 (n : Nat) (Post : PT) : AQ := seqQ (fun s' H' => awp prog g42 n (codeSnd (codeSnd c42)) s' H' (q42_0 n Post)) (q42_0 n Post)
def q42_2 (n : Nat) (Post : PT) : AQ := blockQ 0 (q42_1 n Post)
def c42_2 : Code := codeFst (codeSnd (codeFst (codeSnd c42)))
theorem s42 : ∀ (l : List T.Span) (Post : PT),
  AWP prog 55 0 c42_2 [(0, T.aS l), (3, .int .i64 0)] [] (q42_2 0 Post) → ASpec prog 42 [T.aS l] [] Post := fun l Post h => ASpec.of_vc g42 Tryz.func42 (by kernel_rfl) (by kernel_rfl) (by kernel_rfl) (kc (by kernel_rfl) h)
theorem v42_2 : ∀ (l : List T.Span) (i : Int) (n : Nat) (Post : PT),
  condP (decide (i < (↑l.length : Int))) (needP (0 ≤ i ∧ i < (↑l.length : Int)) (condP (decide ((l.getD i.toNat ((0 : Int), (0 : Int))).1 < (0 : Int))) (Post (.bool false) []) (needP (0 ≤ i ∧ i < (↑l.length : Int)) (condP (decide ((l.getD i.toNat ((0 : Int), (0 : Int))).2 > (1000000000 : Int))) (Post (.bool false) []) (needP (0 ≤ i ∧ i < (↑l.length : Int)) (needP (0 ≤ i ∧ i < (↑l.length : Int)) (condP (decide ((l.getD i.toNat ((0 : Int), (0 : Int))).1 ≥ (l.getD i.toNat ((0 : Int), (0 : Int))).2)) (Post (.bool false) []) (condP (decide (i > (0 : Int))) (needP (0 ≤ i ∧ i < (↑l.length : Int)) (needP ((0 : Int) ≤ IntKind.wrap .i64 (i - (1 : Int)) ∧ IntKind.wrap .i64 (i - (1 : Int)) < (↑l.length : Int)) (condP (decide ((l.getD i.toNat ((0 : Int), (0 : Int))).1 ≤ Prod.snd (l.getD (Int.toNat (IntKind.wrap .i64 (i - (1 : Int)))) ((0 : Int), (0 : Int))))) (Post (.bool false) []) (AWP prog 55 n c42_2 [(0, T.aS l), (3, .int .i64 (IntKind.wrap .i64 (i + (1 : Int))))] [] (q42_2 n Post))))) (AWP prog 55 n c42_2 [(0, T.aS l), (3, .int .i64 (IntKind.wrap .i64 (i + (1 : Int))))] [] (q42_2 n Post)))))))))) (Post (.bool true) []) → AWP prog 55 n c42_2 [(0, T.aS l), (3, .int .i64 i)] [] (q42_2 n Post) := fun l i n Post h => AWP.loop' g42 (Cfg.live g42) c42_2 (by kernel_rfl) (by kernel_rfl) (kc (by kernel_rfl) h)
def l213 : Nat → List Nat
  | 3 => [0, 3, 6, 7, 8]
  | _ => []
def g213 : Cfg := { N := 40, live := l213, cut := nof, mu := nof, ret := rets }
def c213 : Code := bodyOf Tryz.f213
def q213_0 (n : Nat) (Post : PT) : AQ := endQ prog (resultsOf Tryz.f213) Post
def q213_1 (n : Nat) (Post : PT) : AQ := seqQ (fun s' H' => awp prog g213 n (codeSnd (codeSnd (codeSnd c213))) s' H' (q213_0 n Post)) (q213_0 n Post)
def q213_2 (n : Nat) (Post : PT) : AQ := blockQ 0 (q213_1 n Post)
def c213_3 : Code := codeFst (codeSnd (codeFst (codeSnd (codeSnd c213))))
theorem s213 : ∀ (l : List T.Need) (Post : PT),
  AWP prog 40 0 c213_3 [(0, T.aN l), (3, .str ⟨#[]⟩), (6, T.aN l), (7, .int .i64 l.length), (8, .int .i64 0)] [] (q213_2 0 Post) → ASpec prog 213 [T.aN l] [] Post := fun l Post h => ASpec.of_vc g213 Tryz.func213 (by kernel_rfl) (by kernel_rfl) (by kernel_rfl) (kc (by kernel_rfl) h)
theorem v213_3 : ∀ (l : List T.Need) (s : ByteArray) (n i : Int) (n_1 : Nat) (Post : PT),
  condP (decide (i < n)) (needP (0 ≤ i ∧ i < (↑l.length : Int)) (ASpec prog 51 [AV.str ⟨(l.getD i.toNat ([], [])).1.toArray⟩] [AObj.cells [AV.str ⟨(l.getD i.toNat ([], [])).1.toArray⟩, .sl 2 (.map T.encS (0, 0) (l.getD i.toNat ([], [])).2) .none]] fun r H' => ∃ (x : Bool), r = AV.bool x ∧ H' = [AObj.cells [.str ⟨(l.getD i.toNat ([], [])).1.toArray⟩, .sl 2 (.map T.encS (0, 0) (l.getD i.toNat ([], [])).2) .none]] ∧ condP (!x) (Post (.bool false) [AObj.cells [.str ⟨(l.getD i.toNat ([], [])).1.toArray⟩, .sl 2 (.map T.encS (0, 0) (l.getD i.toNat ([], [])).2) .none]]) (condP (Op.bytesLess (ByteArray.toList ⟨(l.getD i.toNat ([], [])).1.toArray⟩) (ByteArray.toList s) || ByteArray.toList ⟨(l.getD i.toNat ([], [])).1.toArray⟩ == ByteArray.toList s) (Post (.bool false) [AObj.cells [.str ⟨(l.getD i.toNat ([], [])).1.toArray⟩, .sl 2 (.map T.encS (0, 0) (l.getD i.toNat ([], [])).2) .none]]) (condP (decide ((↑(List.length (l.getD i.toNat ([], [])).2) : Int) > (6 : Int))) (Post (.bool false) [AObj.cells [.str ⟨(l.getD i.toNat ([], [])).1.toArray⟩, .sl 2 (.map T.encS (0, 0) (l.getD i.toNat ([], [])).2) .none]]) (ASpec prog 139 [.sl 2 (.map T.encS (0, 0) (l.getD i.toNat ([], [])).2) .none] [AObj.cells [AV.str ⟨(l.getD i.toNat ([], [])).1.toArray⟩, .sl 2 (.map T.encS (0, 0) (l.getD i.toNat ([], [])).2) .none]] fun r H' => ∃ (x : Bool), r = AV.bool x ∧ H' = [AObj.cells [.str ⟨(l.getD i.toNat ([], [])).1.toArray⟩, .sl 2 (.map T.encS (0, 0) (l.getD i.toNat ([], [])).2) .none]] ∧ condP (!x) (Post (.bool false) [AObj.cells [.str ⟨(l.getD i.toNat ([], [])).1.toArray⟩, .sl 2 (.map T.encS (0, 0) (l.getD i.toNat ([], [])).2) .none]]) (AWP prog 40 n_1 c213_3 [(0, T.aN l), (3, .str ⟨(l.getD i.toNat ([], [])).1.toArray⟩), (6, T.aN l), (7, .int .i64 n), (8, .int .i64 (IntKind.wrap .i64 (i + (1 : Int))))] [AObj.cells [.str ⟨(l.getD i.toNat ([], [])).1.toArray⟩, .sl 2 (.map T.encS (0, 0) (l.getD i.toNat ([], [])).2) .none]] (q213_2 n_1 Post))))))) (Post (.bool (decide ((↑l.length : Int) ≤ (6 : Int)))) []) → AWP prog 40 n_1 c213_3 [(0, T.aN l), (3, .str s), (6, T.aN l), (7, .int .i64 n), (8, .int .i64 i)] [] (q213_2 n_1 Post) := fun l s n i n Post h => AWP.loop' g213 (Cfg.live g213) c213_3 (by kernel_rfl) (by kernel_rfl) (kc (by kernel_rfl) h)
def l10 : Nat → List Nat
  | 2 => [0, 3]
  | _ => []
def g10 : Cfg := { N := 56, live := l10, cut := nof, mu := nof, ret := rets }
def c10 : Code := bodyOf Tryz.f10
def q10_0 (n : Nat) (Post : PT) : AQ := endQ prog (resultsOf Tryz.f10) Post
def q10_1 (n : Nat) (Post : PT) : AQ := seqQ (fun s' H' => awp prog g10 n (codeSnd (codeSnd c10)) s' H' (q10_0 n Post)) (q10_0 n Post)
def q10_2 (n : Nat) (Post : PT) : AQ := blockQ 0 (q10_1 n Post)
def c10_2 : Code := codeFst (codeSnd (codeFst (codeSnd c10)))
theorem s10 : ∀ (l : List T.Need) (Post : PT),
  AWP prog 56 0 c10_2 [(0, T.aN l), (3, .int .i64 0)] [] (q10_2 0 Post) → ASpec prog 10 [T.aN l] [] Post := fun l Post h => ASpec.of_vc g10 Tryz.func10 (by kernel_rfl) (by kernel_rfl) (by kernel_rfl) (kc (by kernel_rfl) h)
theorem v10_2 : ∀ (l : List T.Need) (i : Int) (n : Nat) (Post : PT),
  condP (decide (i < (↑l.length : Int))) (needP (0 ≤ i ∧ i < (↑l.length : Int)) (ASpec prog 41 [AV.str ⟨(l.getD i.toNat ([], [])).1.toArray⟩] [] fun r H' => ∃ (x : Bool), r = AV.bool x ∧ H' = [] ∧ condP (!x) (Post (.bool false) []) (needP (0 ≤ i ∧ i < (↑l.length : Int)) (ASpec prog 42 [AV.sl 2 (.map T.encS (0, 0) (l.getD i.toNat ([], [])).2) .none] [] fun r H' => ∃ (x : Bool), r = AV.bool x ∧ H' = [] ∧ condP (!x) (Post (.bool false) []) (needP (0 ≤ i ∧ i < (↑l.length : Int)) (condP (decide ((↑(List.length (l.getD i.toNat ([], [])).2) : Int) > (6 : Int))) (Post (.bool false) []) (condP (decide (i > (0 : Int))) (needP (0 ≤ i ∧ i < (↑l.length : Int)) (needP ((0 : Int) ≤ IntKind.wrap .i64 (i - (1 : Int)) ∧ IntKind.wrap .i64 (i - (1 : Int)) < (↑l.length : Int)) (condP (Op.bytesLess (ByteArray.toList ⟨(l.getD i.toNat ([], [])).1.toArray⟩) (ByteArray.toList { data := List.toArray (Prod.fst (l.getD (Int.toNat (IntKind.wrap .i64 (i - (1 : Int)))) ([], []))) }) || ByteArray.toList ⟨(l.getD i.toNat ([], [])).1.toArray⟩ == ByteArray.toList { data := List.toArray (Prod.fst (l.getD (Int.toNat (IntKind.wrap .i64 (i - (1 : Int)))) ([], []))) }) (Post (.bool false) []) (AWP prog 56 n c10_2 [(0, T.aN l), (3, .int .i64 (IntKind.wrap .i64 (i + (1 : Int))))] [] (q10_2 n Post))))) (AWP prog 56 n c10_2 [(0, T.aN l), (3, .int .i64 (IntKind.wrap .i64 (i + (1 : Int))))] [] (q10_2 n Post))))))))) (Post (.bool (decide ((↑l.length : Int) ≤ (6 : Int)))) []) → AWP prog 56 n c10_2 [(0, T.aN l), (3, .int .i64 i)] [] (q10_2 n Post) := fun l i n Post h => AWP.loop' g10 (Cfg.live g10) c10_2 (by kernel_rfl) (by kernel_rfl) (kc (by kernel_rfl) h)
def l181 : Nat → List Nat
  | 3 => [1, 3, 7, 8, 9]
  | _ => []
def g181 : Cfg := { N := 40, live := l181, cut := nof, mu := nof, ret := rets }
def c181 : Code := bodyOf Tryz.f181
def q181_0 (n : Nat) (Post : PT) : AQ := endQ prog (resultsOf Tryz.f181) Post
def q181_1 (n : Nat) (Post : PT) : AQ := seqQ (fun s' H' => awp prog g181 n (codeSnd (codeSnd (codeSnd c181))) s' H' (q181_0 n Post)) (q181_0 n Post)
def q181_2 (n : Nat) (Post : PT) : AQ := blockQ 0 (q181_1 n Post)
def c181_3 : Code := codeFst (codeSnd (codeFst (codeSnd (codeSnd c181))))
theorem s181 : ∀ (m : T.Mani) (Post : PT),
  AWP prog 40 0 c181_3 [(1, .ptr 0 0), (3, .int .i64 (-1)), (7, T.aR m.2), (8, .int .i64 m.2.length), (9, .int .i64 0)] [AObj.cells [T.sB m.1, T.aR m.2]] (q181_2 0 Post) → ASpec prog 181 [.agg (T.encM m)] [] Post := fun m Post h => ASpec.of_vc g181 Tryz.func181 (by kernel_rfl) (by kernel_rfl) (by kernel_rfl) (kc (by kernel_rfl) h)
theorem v181_3 : ∀ (m : T.Mani) (e n i : Int) (n_1 : Nat) (Post : PT),
  condP (decide (i < n)) (needP (0 ≤ i ∧ i < (↑m.2.length : Int)) (condP (decide ((m.2.getD i.toNat ((0 : Int), [])).1 ≤ e)) (Post (.bool false) [AObj.cells [T.sB m.1, T.aR m.2], .cells [.int .i64 (m.2.getD i.toNat ((0 : Int), [])).1, AV.sl 2 (.map T.encN ([], []) (m.2.getD i.toNat ((0 : Int), [])).2) .none]]) (condP (decide ((m.2.getD i.toNat ((0 : Int), [])).1 ≥ (1000000000 : Int))) (Post (.bool false) [AObj.cells [T.sB m.1, T.aR m.2], .cells [.int .i64 (m.2.getD i.toNat ((0 : Int), [])).1, AV.sl 2 (.map T.encN ([], []) (m.2.getD i.toNat ((0 : Int), [])).2) .none]]) (ASpec prog 213 [.sl 2 (.map T.encN ([], []) (m.2.getD i.toNat ((0 : Int), [])).2) .none] [AObj.cells [T.sB m.1, T.aR m.2], .cells [.int .i64 (m.2.getD i.toNat ((0 : Int), [])).1, AV.sl 2 (.map T.encN ([], []) (m.2.getD i.toNat ((0 : Int), [])).2) .none]] fun r H' => ∃ (x : Bool), r = AV.bool x ∧ H' = [AObj.cells [T.sB m.1, T.aR m.2], .cells [.int .i64 (m.2.getD i.toNat ((0 : Int), [])).1, AV.sl 2 (.map T.encN ([], []) (m.2.getD i.toNat ((0 : Int), [])).2) .none]] ∧ condP (!x) (Post (.bool false) [AObj.cells [T.sB m.1, T.aR m.2], .cells [.int .i64 (m.2.getD i.toNat ((0 : Int), [])).1, AV.sl 2 (.map T.encN ([], []) (m.2.getD i.toNat ((0 : Int), [])).2) .none]]) (AWP prog 40 n_1 c181_3 [(1, .ptr 0 0), (3, .int .i64 (m.2.getD i.toNat ((0 : Int), [])).1), (7, T.aR m.2), (8, .int .i64 n), (9, .int .i64 (IntKind.wrap .i64 (i + (1 : Int))))] [AObj.cells [T.sB m.1, T.aR m.2], .cells [.int .i64 (m.2.getD i.toNat ((0 : Int), [])).1, AV.sl 2 (.map T.encN ([], []) (m.2.getD i.toNat ((0 : Int), [])).2) .none]] (q181_2 n_1 Post)))))) (ASpec prog 51 [T.sB m.1] [AObj.cells [T.sB m.1, T.aR m.2]] fun r H' => ∃ (x : Bool), r = AV.bool x ∧ H' = [AObj.cells [T.sB m.1, T.aR m.2]] ∧ condP x (Post (.bool (decide ((↑m.2.length : Int) ≤ (8 : Int)))) [AObj.cells [T.sB m.1, T.aR m.2]]) (Post (.bool false) [AObj.cells [T.sB m.1, T.aR m.2]])) → AWP prog 40 n_1 c181_3 [(1, .ptr 0 0), (3, .int .i64 e), (7, T.aR m.2), (8, .int .i64 n), (9, .int .i64 i)] [AObj.cells (T.encM m)] (q181_2 n_1 Post) := fun m e n i n Post h => AWP.loop' g181 (Cfg.live g181) c181_3 (by kernel_rfl) (by kernel_rfl) (kc (by kernel_rfl) h)
def l9 : Nat → List Nat
  | 4 => [0, 3]
  | _ => []
def g9 : Cfg := { N := 29, live := l9, cut := nof, mu := nof, ret := rets }
def c9 : Code := bodyOf Tryz.f9
def q9_0 (n : Nat) (Post : PT) : AQ := endQ prog (resultsOf Tryz.f9) Post
def q9_1 (n : Nat) (Post : PT) : AQ := seqQ (fun s' H' => awp prog g9 n (codeSnd (codeSnd (codeSnd c9))) s' H' (q9_0 n Post)) (q9_0 n Post)
def q9_2 (n : Nat) (Post : PT) : AQ := blockQ 0 (q9_1 n Post)
def c9_4 : Code := codeFst (codeSnd (codeFst (codeSnd (codeSnd c9))))
theorem s9 : ∀ (l : List T.Need) (Post : PT),
  condP (decide ((↑l.length : Int) > (40 : Int))) (Post (.bool true) []) (AWP prog 29 0 c9_4 [(0, T.aN l), (3, .int .i64 0)] [] (q9_2 0 Post)) → ASpec prog 9 [T.aN l] [] Post := fun l Post h => ASpec.of_vc g9 Tryz.func9 (by kernel_rfl) (by kernel_rfl) (by kernel_rfl) (kc (by kernel_rfl) h)
theorem v9_4 : ∀ (l : List T.Need) (i : Int) (n : Nat) (Post : PT),
  condP (decide (i < (↑l.length : Int))) (needP (0 ≤ i ∧ i < (↑l.length : Int)) (condP (decide ((↑(List.length (l.getD i.toNat ([], [])).2) : Int) > (40 : Int))) (Post (.bool true) []) (needP (0 ≤ i ∧ i < (↑l.length : Int)) (condP (decide ((↑(ByteArray.size ⟨(l.getD i.toNat ([], [])).1.toArray⟩) : Int) > (100 : Int))) (Post (.bool true) []) (AWP prog 29 n c9_4 [(0, T.aN l), (3, .int .i64 (IntKind.wrap .i64 (i + (1 : Int))))] [] (q9_2 n Post)))))) (Post (.bool false) []) → AWP prog 29 n c9_4 [(0, T.aN l), (3, .int .i64 i)] [] (q9_2 n Post) := fun l i n Post h => AWP.loop' g9 (Cfg.live g9) c9_4 (by kernel_rfl) (by kernel_rfl) (kc (by kernel_rfl) h)
end
end C
end

noncomputable section
open Go Go.Ab Go.Proofs
open Go.Proofs.Tryz (prog)
namespace W
noncomputable section
def updC (args : List AV) (H : List AObj) (p e : Int) : List AObj := match args with
  | .ptr c _ :: _ => match H[c]? with
    | some (.cells [.ptr id off]) => V.upd3 [.ptr id off] H p e
    | _ => H
  | _ => H
def tl (args : List AV) : List AV := match args with
  | _ :: r => r
  | _ => []
def HR (bs : List UInt8) (p e : Int) : List AObj := [V.rd bs p e, .cells [.ptr 0 0], .cells [.fn 171 [.ptr 1 0]], .cells [.fn 173 [.ptr 1 0]], .cells [.fn 175 [.ptr 2 0, .ptr 1 0, .ptr 3 0]]]
def retW : List (Nat × Ret) := [
  (18039, ⟨Unit, fun _ _ _ => .bool true, fun _ H _ => H⟩),
  (137, ⟨T.Mani × Int, fun _ _ x => .tup [.agg (T.encM x.1), .int .i64 x.2], fun _ H _ => H⟩),
  (146, ⟨T.Mani × Int, fun _ _ x => .tup [.agg (T.encM x.1), .int .i64 x.2], fun _ H _ => H⟩),
  (9184, ⟨List UInt8, fun _ _ x => .sl 1 (.map encB 0 x) .none, fun _ H _ => H⟩),
  (9172, ⟨ByteArray, fun _ _ x => .str x, fun _ H _ => H⟩),
  (171, ⟨ByteArray × Int × Int, fun _ _ x => .str x.1, fun a H x => updC a H x.2.1 x.2.2⟩),
  (173, ⟨T.Span × Int × Int, fun _ _ x => .agg (T.encS x.1), fun a H x => updC a H x.2.1 x.2.2⟩),
  (175, ⟨T.Need × Int × Int, fun _ _ x => .agg (T.encN x.1), fun a H x => updC (tl a) H x.2.1 x.2.2⟩),
  (178, ⟨T.Rel × Int × Int, fun _ _ x => .agg (T.encR x.1), fun a H x => updC a H x.2.1 x.2.2⟩),
  (176, ⟨List T.Span × Int × Int, fun _ _ x => T.aS x.1, fun a H x => V.upd3 a H x.2.1 x.2.2⟩),
  (179, ⟨List T.Need × Int × Int, fun _ _ x => T.aN x.1, fun a H x => V.upd3 a H x.2.1 x.2.2⟩),
  (177, ⟨List T.Rel × Int × Int, fun _ _ x => T.aR x.1, fun a H x => V.upd3 a H x.2.1 x.2.2⟩),
  (189, ⟨List T.Need × ByteArray × Int, fun _ _ x => T.aN x.1, fun a H x => V.upd2 a H x.2.1 x.2.2⟩),
  (9264, ⟨ByteArray, fun _ _ x => .str x, fun _ H _ => H⟩)]
def rets : FuncId → List Ret := lookupR (retW ++ C.retC ++ V.retL)
def g171 : Cfg := { N := 4, live := nol, cut := nof, mu := nof, ret := rets }
abbrev hps1710 (bs : List UInt8) (x : ByteArray × Int × Int) : List AObj := [AObj.cells [.sl 1 (.map encB 0 bs) .none, .int .i64 x.2.1, .int .i64 x.2.2], .cells [.ptr 0 0], .cells [.fn (171 : FuncId) [.ptr 1 0]], .cells [.fn (173 : FuncId) [.ptr 1 0]], .cells [.fn (175 : FuncId) [.ptr 2 0, .ptr 1 0, .ptr 3 0]]]
theorem s171 : ∀ (bs : List UInt8) (p e : Int) (Post : PT),
  (ASpec prog 172 [.ptr 0 0, .int .i64 24] [AObj.cells [.sl 1 (.map encB 0 bs) .none, .int .i64 p, AV.int .i64 e], .cells [.ptr 0 0], .cells [.fn (171 : FuncId) [.ptr 1 0]], .cells [.fn (173 : FuncId) [.ptr 1 0]], .cells [.fn (175 : FuncId) [.ptr 2 0, .ptr 1 0, .ptr 3 0]]] fun r H' => ∃ (x : ByteArray × Int × Int), r = AV.str x.1 ∧ H' = (hps1710 bs x) ∧ Post (.str x.1) (hps1710 bs x)) → ASpec prog 171 [.ptr 1 0] (HR bs p e) Post := fun bs p e Post h => ASpec.of_vc g171 Tryz.func171 (by kernel_rfl) (by kernel_rfl) (by kernel_rfl) (kc (by kernel_rfl) h)
def g173 : Cfg := { N := 11, live := nol, cut := nof, mu := nof, ret := rets }
abbrev hps1730 (bs : List UInt8) (x : Int × Int × Int) : List AObj := [AObj.cells [.sl 1 (.map encB 0 bs) .none, .int .i64 x.2.1, .int .i64 x.2.2], .cells [.ptr 0 0], .cells [.fn (171 : FuncId) [.ptr 1 0]], .cells [.fn (173 : FuncId) [.ptr 1 0]], .cells [.fn (175 : FuncId) [.ptr 2 0, .ptr 1 0, .ptr 3 0]], .cells [.int .i64 0, .int .i64 0]]
theorem s173 : ∀ (bs : List UInt8) (p e : Int) (Post : PT),
  (ASpec prog 174 [.ptr 0 0, .int .i64 1000000000] [AObj.cells [.sl 1 (.map encB 0 bs) .none, .int .i64 p, AV.int .i64 e], .cells [.ptr 0 0], .cells [.fn (171 : FuncId) [.ptr 1 0]], .cells [.fn (173 : FuncId) [.ptr 1 0]], .cells [.fn (175 : FuncId) [.ptr 2 0, .ptr 1 0, .ptr 3 0]], .cells [.int .i64 0, .int .i64 0]] fun r H' => ∃ (x : Int × Int × Int), r = AV.int .i64 x.1 ∧ H' = (hps1730 bs x) ∧ ASpec prog 174 [.ptr 0 0, .int .i64 1000000000] (hps1730 bs x) fun r H' => ∃ (x_1 : Int × Int × Int), r = AV.int .i64 x_1.1 ∧ H' = [AObj.cells [.sl 1 (.map encB 0 bs) .none, .int .i64 x_1.2.1, .int .i64 x_1.2.2], .cells [.ptr 0 0], .cells [.fn (171 : FuncId) [.ptr 1 0]], .cells [.fn (173 : FuncId) [.ptr 1 0]], .cells [.fn (175 : FuncId) [.ptr 2 0, .ptr 1 0, .ptr 3 0]], .cells [.int .i64 0, .int .i64 0]] ∧ Post (.agg [.int .i64 x.1, .int .i64 (IntKind.wrap .i64 (Prod.fst x + Prod.fst x_1))]) [AObj.cells [.sl 1 (.map encB 0 bs) .none, .int .i64 x_1.2.1, .int .i64 x_1.2.2], .cells [.ptr 0 0], .cells [.fn (171 : FuncId) [.ptr 1 0]], .cells [.fn (173 : FuncId) [.ptr 1 0]], .cells [.fn (175 : FuncId) [.ptr 2 0, .ptr 1 0, .ptr 3 0]], .cells [.int .i64 x.1, .int .i64 (IntKind.wrap .i64 (Prod.fst x + Prod.fst x_1))]]) → ASpec prog 173 [.ptr 1 0] (HR bs p e) Post := fun bs p e Post h => ASpec.of_vc g173 Tryz.func173 (by kernel_rfl) (by kernel_rfl) (by kernel_rfl) (kc (by kernel_rfl) h)
def l176 : Nat → List Nat
  | 3 => [0, 2, 7, 8]
  | _ => []
def g176 : Cfg := { N := 27, live := l176, cut := nof, mu := nof, ret := rets }
def c176 : Code := bodyOf Tryz.f176
def q176_0 (n : Nat) (Post : PT) : AQ := endQ prog (resultsOf Tryz.f176) Post
def q176_1 (n : Nat) (Post : PT) : AQ := seqQ (fun s' H' => awp prog g176 n (codeSnd (codeSnd (codeSnd c176))) s' H' (q176_0 n Post)) (q176_0 n Post)
def q176_2 (n : Nat) (Post : PT) : AQ := blockQ 0 (q176_1 n Post)
def c176_3 : Code := codeFst (codeSnd (codeFst (codeSnd (codeSnd c176))))
abbrev hps1760 (bs : List UInt8) (x : Int × Int × Int) : List AObj := [AObj.cells [.sl 1 (.map encB 0 bs) .none, .int .i64 x.2.1, .int .i64 x.2.2], .cells [.ptr 0 0], .cells [.fn (171 : FuncId) [.ptr 1 0]], .cells [.fn (173 : FuncId) [.ptr 1 0]], .cells [.fn (175 : FuncId) [.ptr 2 0, .ptr 1 0, .ptr 3 0]]]
theorem s176 : ∀ (bs : List UInt8) (p e most : Int) (Post : PT),
  (ASpec prog 174 [.ptr 0 0, .int .i64 most] [AObj.cells [.sl 1 (.map encB 0 bs) .none, .int .i64 p, AV.int .i64 e], .cells [.ptr 0 0], .cells [.fn (171 : FuncId) [.ptr 1 0]], .cells [.fn (173 : FuncId) [.ptr 1 0]], .cells [.fn (175 : FuncId) [.ptr 2 0, .ptr 1 0, .ptr 3 0]]] fun r H' => ∃ (x : Int × Int × Int), r = AV.int .i64 x.1 ∧ H' = (hps1760 bs x) ∧ AWP prog 27 5 c176_3 [(0, .ptr 0 0), (2, .fn (173 : FuncId) [.ptr 1 0]), (7, .sl 0 (.raw []) .nil), (8, .int .i64 x.1)] (hps1760 bs x) (q176_2 5 Post)) → ASpec prog 176 [.ptr 0 0, .int .i64 most, AV.fn (173 : FuncId) [.ptr 1 0]] (HR bs p e) Post := fun bs p e most Post h => ASpec.of_vc g176 Tryz.func176 (by kernel_rfl) (by kernel_rfl) (by kernel_rfl) (kc (by kernel_rfl) h)
abbrev hpv176_30 (bs : List UInt8) (p : Int) (e : Int) : List AObj := [AObj.cells [.sl 1 (.map encB 0 bs) .none, .int .i64 p, AV.int .i64 e], .cells [.ptr 0 0], .cells [.fn (171 : FuncId) [.ptr 1 0]], .cells [.fn (173 : FuncId) [.ptr 1 0]], .cells [.fn (175 : FuncId) [.ptr 2 0, .ptr 1 0, .ptr 3 0]], .tok]
theorem v176_3 : ∀ (bs : List UInt8) (p e : Int) (acc : List T.Span) (n : Int) (n_1 : Nat) (Post : PT),
  condP (decide (n > (0 : Int))) (ASpec prog 211 [.ptr 0 0] (hpv176_30 bs p e) fun r H' => ∃ (x : Int), r = AV.int .i64 x ∧ H' = (hpv176_30 bs p e) ∧ condP (x == (0 : Int)) (ASpec prog 173 [.ptr 1 0] (hpv176_30 bs p e) fun r H' => ∃ (x : T.Span × Int × Int), r = AV.agg [.int .i64 x.1.1, .int .i64 x.1.2] ∧ H' = [AObj.cells [.sl 1 (.map encB 0 bs) .none, .int .i64 x.2.1, .int .i64 x.2.2], .cells [.ptr 0 0], .cells [.fn (171 : FuncId) [.ptr 1 0]], .cells [.fn (173 : FuncId) [.ptr 1 0]], .cells [.fn (175 : FuncId) [.ptr 2 0, .ptr 1 0, .ptr 3 0]], .tok] ∧ needP ((List.length acc + 1) * 16 ≤ 140737488351232) (AWP prog 27 n_1 c176_3 [(0, .ptr 0 0), (2, .fn (173 : FuncId) [.ptr 1 0]), (7, AV.sl 2 (.app (.map T.encS (0, 0) acc) (.raw [[.int .i64 x.1.1, .int .i64 x.1.2]])) (.tok 6)), (8, .int .i64 (IntKind.wrap .i64 (n - (1 : Int))))] [AObj.cells [.sl 1 (.map encB 0 bs) .none, .int .i64 x.2.1, .int .i64 x.2.2], .cells [.ptr 0 0], .cells [.fn (171 : FuncId) [.ptr 1 0]], .cells [.fn (173 : FuncId) [.ptr 1 0]], .cells [.fn (175 : FuncId) [.ptr 2 0, .ptr 1 0, .ptr 3 0]], .gone, .tok] (q176_2 n_1 Post))) (Post (.sl 2 (.map T.encS (0, 0) acc) (.tok 5)) (hpv176_30 bs p e))) (Post (.sl 2 (.map T.encS (0, 0) acc) (.tok 5)) (hpv176_30 bs p e)) → AWP prog 27 n_1 c176_3 [(0, .ptr 0 0), (2, .fn (173 : FuncId) [.ptr 1 0]), (7, .sl 2 (.map T.encS (0, 0) acc) (.tok 5)), (8, .int .i64 n)] (HR bs p e ++ [AObj.tok]) (q176_2 n_1 Post) := fun bs p e acc n n Post h => AWP.loop' g176 (Cfg.live g176) c176_3 (by kernel_rfl) (by kernel_rfl) (kc (by kernel_rfl) h)
def g175 : Cfg := { N := 13, live := nol, cut := nof, mu := nof, ret := rets }
theorem s175 : ∀ (bs : List UInt8) (p e : Int) (Post : PT),
  (ASpec prog 171 [.ptr 1 0] [AObj.cells [.sl 1 (.map encB 0 bs) .none, .int .i64 p, AV.int .i64 e], .cells [.ptr 0 0], .cells [.fn (171 : FuncId) [.ptr 1 0]], .cells [.fn (173 : FuncId) [.ptr 1 0]], .cells [.fn (175 : FuncId) [.ptr 2 0, .ptr 1 0, .ptr 3 0]], .cells [.str ⟨#[]⟩, .sl 0 (.raw []) .nil]] fun r H' => ∃ (x : ByteArray × Int × Int), r = AV.str x.1 ∧ H' = [AObj.cells [.sl 1 (.map encB 0 bs) .none, .int .i64 x.2.1, .int .i64 x.2.2], .cells [.ptr 0 0], .cells [.fn (171 : FuncId) [.ptr 1 0]], .cells [.fn (173 : FuncId) [.ptr 1 0]], .cells [.fn (175 : FuncId) [.ptr 2 0, .ptr 1 0, .ptr 3 0]], .cells [.str ⟨#[]⟩, .sl 0 (.raw []) .nil]] ∧ ASpec prog 176 [.ptr 0 0, .int .i64 6, .fn (173 : FuncId) [.ptr 1 0]] [AObj.cells [.sl 1 (.map encB 0 bs) .none, .int .i64 x.2.1, .int .i64 x.2.2], .cells [.ptr 0 0], .cells [.fn (171 : FuncId) [.ptr 1 0]], .cells [.fn (173 : FuncId) [.ptr 1 0]], .cells [.fn (175 : FuncId) [.ptr 2 0, .ptr 1 0, .ptr 3 0]], .cells [.str ⟨#[]⟩, .sl 0 (.raw []) .nil], .cells [.str x.1, .sl 0 (.raw []) .nil]] fun r H' => ∃ (x_1 : List T.Span × Int × Int), r = T.aS x_1.1 ∧ H' = [AObj.cells [.sl 1 (.map encB 0 bs) .none, .int .i64 x_1.2.1, .int .i64 x_1.2.2], .cells [.ptr 0 0], .cells [.fn (171 : FuncId) [.ptr 1 0]], .cells [.fn (173 : FuncId) [.ptr 1 0]], .cells [.fn (175 : FuncId) [.ptr 2 0, .ptr 1 0, .ptr 3 0]], .cells [.str ⟨#[]⟩, .sl 0 (.raw []) .nil], .cells [.str x.1, .sl 0 (.raw []) .nil]] ∧ Post (.agg [.str x.1, T.aS x_1.1]) [AObj.cells [.sl 1 (.map encB 0 bs) .none, .int .i64 x_1.2.1, .int .i64 x_1.2.2], .cells [.ptr 0 0], .cells [.fn (171 : FuncId) [.ptr 1 0]], .cells [.fn (173 : FuncId) [.ptr 1 0]], .cells [.fn (175 : FuncId) [.ptr 2 0, .ptr 1 0, .ptr 3 0]], .cells [.str x.1, T.aS x_1.1], .cells [.str x.1, T.aS x_1.1]]) → ASpec prog 175 [.ptr 2 0, .ptr 1 0, .ptr 3 0] (HR bs p e) Post := fun bs p e Post h => ASpec.of_vc g175 Tryz.func175 (by kernel_rfl) (by kernel_rfl) (by kernel_rfl) (kc (by kernel_rfl) h)
def l179 : Nat → List Nat
  | 3 => [0, 2, 7, 8]
  | _ => []
def g179 : Cfg := { N := 27, live := l179, cut := nof, mu := nof, ret := rets }
def c179 : Code := bodyOf Tryz.f179
def q179_0 (n : Nat) (Post : PT) : AQ := endQ prog (resultsOf Tryz.f179) Post
def q179_1 (n : Nat) (Post : PT) : AQ := seqQ (fun s' H' => awp prog g179 n (codeSnd (codeSnd (codeSnd c179))) s' H' (q179_0 n Post)) (q179_0 n Post)
def q179_2 (n : Nat) (Post : PT) : AQ := blockQ 0 (q179_1 n Post)
def c179_3 : Code := codeFst (codeSnd (codeFst (codeSnd (codeSnd c179))))
abbrev hps1790 (bs : List UInt8) (x : Int × Int × Int) : List AObj := [AObj.cells [.sl 1 (.map encB 0 bs) .none, .int .i64 x.2.1, .int .i64 x.2.2], .cells [.ptr 0 0], .cells [.fn (171 : FuncId) [.ptr 1 0]], .cells [.fn (173 : FuncId) [.ptr 1 0]], .cells [.fn (175 : FuncId) [.ptr 2 0, .ptr 1 0, .ptr 3 0]]]
theorem s179 : ∀ (bs : List UInt8) (p e most : Int) (Post : PT),
  (ASpec prog 174 [.ptr 0 0, .int .i64 most] [AObj.cells [.sl 1 (.map encB 0 bs) .none, .int .i64 p, AV.int .i64 e], .cells [.ptr 0 0], .cells [.fn (171 : FuncId) [.ptr 1 0]], .cells [.fn (173 : FuncId) [.ptr 1 0]], .cells [.fn (175 : FuncId) [.ptr 2 0, .ptr 1 0, .ptr 3 0]]] fun r H' => ∃ (x : Int × Int × Int), r = AV.int .i64 x.1 ∧ H' = (hps1790 bs x) ∧ AWP prog 27 5 c179_3 [(0, .ptr 0 0), (2, .fn (175 : FuncId) [.ptr 2 0, .ptr 1 0, .ptr 3 0]), (7, .sl 0 (.raw []) .nil), (8, .int .i64 x.1)] (hps1790 bs x) (q179_2 5 Post)) → ASpec prog 179 [.ptr 0 0, .int .i64 most, AV.fn (175 : FuncId) [.ptr 2 0, .ptr 1 0, .ptr 3 0]] (HR bs p e) Post := fun bs p e most Post h => ASpec.of_vc g179 Tryz.func179 (by kernel_rfl) (by kernel_rfl) (by kernel_rfl) (kc (by kernel_rfl) h)
abbrev hpv179_30 (bs : List UInt8) (p : Int) (e : Int) : List AObj := [AObj.cells [.sl 1 (.map encB 0 bs) .none, .int .i64 p, AV.int .i64 e], .cells [.ptr 0 0], .cells [.fn (171 : FuncId) [.ptr 1 0]], .cells [.fn (173 : FuncId) [.ptr 1 0]], .cells [.fn (175 : FuncId) [.ptr 2 0, .ptr 1 0, .ptr 3 0]], .tok]
theorem v179_3 : ∀ (bs : List UInt8) (p e : Int) (acc : List T.Need) (n : Int) (n_1 : Nat) (Post : PT),
  condP (decide (n > (0 : Int))) (ASpec prog 211 [.ptr 0 0] (hpv179_30 bs p e) fun r H' => ∃ (x : Int), r = AV.int .i64 x ∧ H' = (hpv179_30 bs p e) ∧ condP (x == (0 : Int)) (ASpec prog 175 [.ptr 2 0, .ptr 1 0, .ptr 3 0] (hpv179_30 bs p e) fun r H' => ∃ (x : T.Need × Int × Int), r = AV.agg [T.sB x.1.1, T.aS x.1.2] ∧ H' = [AObj.cells [.sl 1 (.map encB 0 bs) .none, .int .i64 x.2.1, .int .i64 x.2.2], .cells [.ptr 0 0], .cells [.fn (171 : FuncId) [.ptr 1 0]], .cells [.fn (173 : FuncId) [.ptr 1 0]], .cells [.fn (175 : FuncId) [.ptr 2 0, .ptr 1 0, .ptr 3 0]], .tok] ∧ needP ((List.length acc + 1) * 40 ≤ 140737488351232) (AWP prog 27 n_1 c179_3 [(0, .ptr 0 0), (2, .fn (175 : FuncId) [.ptr 2 0, .ptr 1 0, .ptr 3 0]), (7, AV.sl 2 (.app (.map T.encN ([], []) acc) (.raw [[T.sB x.1.1, T.aS x.1.2]])) (.tok 6)), (8, .int .i64 (IntKind.wrap .i64 (n - (1 : Int))))] [AObj.cells [.sl 1 (.map encB 0 bs) .none, .int .i64 x.2.1, .int .i64 x.2.2], .cells [.ptr 0 0], .cells [.fn (171 : FuncId) [.ptr 1 0]], .cells [.fn (173 : FuncId) [.ptr 1 0]], .cells [.fn (175 : FuncId) [.ptr 2 0, .ptr 1 0, .ptr 3 0]], .gone, .tok] (q179_2 n_1 Post))) (Post (.sl 2 (.map T.encN ([], []) acc) (.tok 5)) (hpv179_30 bs p e))) (Post (.sl 2 (.map T.encN ([], []) acc) (.tok 5)) (hpv179_30 bs p e)) → AWP prog 27 n_1 c179_3 [(0, .ptr 0 0), (2, .fn (175 : FuncId) [.ptr 2 0, .ptr 1 0, .ptr 3 0]), (7, .sl 2 (.map T.encN ([], []) acc) (.tok 5)), (8, .int .i64 n)] (HR bs p e ++ [AObj.tok]) (q179_2 n_1 Post) := fun bs p e acc n n Post h => AWP.loop' g179 (Cfg.live g179) c179_3 (by kernel_rfl) (by kernel_rfl) (kc (by kernel_rfl) h)
def g178 : Cfg := { N := 12, live := nol, cut := nof, mu := nof, ret := rets }
theorem s178 : ∀ (bs : List UInt8) (p e : Int) (Post : PT),
  (ASpec prog 174 [.ptr 0 0, .int .i64 1000000000] [AObj.cells [.sl 1 (.map encB 0 bs) .none, .int .i64 p, AV.int .i64 e], .cells [.ptr 0 0], .cells [.fn (171 : FuncId) [.ptr 1 0]], .cells [.fn (173 : FuncId) [.ptr 1 0]], .cells [.fn (175 : FuncId) [.ptr 2 0, .ptr 1 0, .ptr 3 0]], .cells [.int .i64 0, .sl 0 (.raw []) .nil]] fun r H' => ∃ (x : Int × Int × Int), r = AV.int .i64 x.1 ∧ H' = [AObj.cells [.sl 1 (.map encB 0 bs) .none, .int .i64 x.2.1, .int .i64 x.2.2], .cells [.ptr 0 0], .cells [.fn (171 : FuncId) [.ptr 1 0]], .cells [.fn (173 : FuncId) [.ptr 1 0]], .cells [.fn (175 : FuncId) [.ptr 2 0, .ptr 1 0, .ptr 3 0]], .cells [.int .i64 0, .sl 0 (.raw []) .nil]] ∧ ASpec prog 179 [.ptr 0 0, .int .i64 6, .fn (175 : FuncId) [.ptr 2 0, .ptr 1 0, .ptr 3 0]] [AObj.cells [.sl 1 (.map encB 0 bs) .none, .int .i64 x.2.1, .int .i64 x.2.2], .cells [.ptr 0 0], .cells [.fn (171 : FuncId) [.ptr 1 0]], .cells [.fn (173 : FuncId) [.ptr 1 0]], .cells [.fn (175 : FuncId) [.ptr 2 0, .ptr 1 0, .ptr 3 0]], .cells [.int .i64 0, .sl 0 (.raw []) .nil], .cells [.int .i64 x.1, .sl 0 (.raw []) .nil]] fun r H' => ∃ (x_1 : List T.Need × Int × Int), r = T.aN x_1.1 ∧ H' = [AObj.cells [.sl 1 (.map encB 0 bs) .none, .int .i64 x_1.2.1, .int .i64 x_1.2.2], .cells [.ptr 0 0], .cells [.fn (171 : FuncId) [.ptr 1 0]], .cells [.fn (173 : FuncId) [.ptr 1 0]], .cells [.fn (175 : FuncId) [.ptr 2 0, .ptr 1 0, .ptr 3 0]], .cells [.int .i64 0, .sl 0 (.raw []) .nil], .cells [.int .i64 x.1, .sl 0 (.raw []) .nil]] ∧ Post (.agg [.int .i64 x.1, T.aN x_1.1]) [AObj.cells [.sl 1 (.map encB 0 bs) .none, .int .i64 x_1.2.1, .int .i64 x_1.2.2], .cells [.ptr 0 0], .cells [.fn (171 : FuncId) [.ptr 1 0]], .cells [.fn (173 : FuncId) [.ptr 1 0]], .cells [.fn (175 : FuncId) [.ptr 2 0, .ptr 1 0, .ptr 3 0]], .cells [.int .i64 x.1, T.aN x_1.1], .cells [.int .i64 x.1, T.aN x_1.1]]) → ASpec prog 178 [.ptr 1 0, .ptr 4 0] (HR bs p e) Post := fun bs p e Post h => ASpec.of_vc g178 Tryz.func178 (by kernel_rfl) (by kernel_rfl) (by kernel_rfl) (kc (by kernel_rfl) h)
def l177 : Nat → List Nat
  | 3 => [0, 2, 7, 8]
  | _ => []
def g177 : Cfg := { N := 27, live := l177, cut := nof, mu := nof, ret := rets }
def c177 : Code := bodyOf Tryz.f177
def q177_0 (n : Nat) (Post : PT) : AQ := endQ prog (resultsOf Tryz.f177) Post
def q177_1 (n : Nat) (Post : PT) : AQ := seqQ (fun s' H' => awp prog g177 n (codeSnd (codeSnd (codeSnd c177))) s' H' (q177_0 n Post)) (q177_0 n Post)
def q177_2 (n : Nat) (Post : PT) : AQ := blockQ 0 (q177_1 n Post)
def c177_3 : Code := codeFst (codeSnd (codeFst (codeSnd (codeSnd c177))))
abbrev hps1770 (bs : List UInt8) (x : Int × Int × Int) : List AObj := [AObj.cells [.sl 1 (.map encB 0 bs) .none, .int .i64 x.2.1, .int .i64 x.2.2], .cells [.ptr 0 0], .cells [.fn (171 : FuncId) [.ptr 1 0]], .cells [.fn (173 : FuncId) [.ptr 1 0]], .cells [.fn (175 : FuncId) [.ptr 2 0, .ptr 1 0, .ptr 3 0]]]
theorem s177 : ∀ (bs : List UInt8) (p e most : Int) (Post : PT),
  (ASpec prog 174 [.ptr 0 0, .int .i64 most] [AObj.cells [.sl 1 (.map encB 0 bs) .none, .int .i64 p, AV.int .i64 e], .cells [.ptr 0 0], .cells [.fn (171 : FuncId) [.ptr 1 0]], .cells [.fn (173 : FuncId) [.ptr 1 0]], .cells [.fn (175 : FuncId) [.ptr 2 0, .ptr 1 0, .ptr 3 0]]] fun r H' => ∃ (x : Int × Int × Int), r = AV.int .i64 x.1 ∧ H' = (hps1770 bs x) ∧ AWP prog 27 5 c177_3 [(0, .ptr 0 0), (2, .fn (178 : FuncId) [.ptr 1 0, .ptr 4 0]), (7, .sl 0 (.raw []) .nil), (8, .int .i64 x.1)] (hps1770 bs x) (q177_2 5 Post)) → ASpec prog 177 [.ptr 0 0, .int .i64 most, AV.fn (178 : FuncId) [.ptr 1 0, .ptr 4 0]] (HR bs p e) Post := fun bs p e most Post h => ASpec.of_vc g177 Tryz.func177 (by kernel_rfl) (by kernel_rfl) (by kernel_rfl) (kc (by kernel_rfl) h)
abbrev hpv177_30 (bs : List UInt8) (p : Int) (e : Int) : List AObj := [AObj.cells [.sl 1 (.map encB 0 bs) .none, .int .i64 p, AV.int .i64 e], .cells [.ptr 0 0], .cells [.fn (171 : FuncId) [.ptr 1 0]], .cells [.fn (173 : FuncId) [.ptr 1 0]], .cells [.fn (175 : FuncId) [.ptr 2 0, .ptr 1 0, .ptr 3 0]], .tok]
theorem v177_3 : ∀ (bs : List UInt8) (p e : Int) (acc : List T.Rel) (n : Int) (n_1 : Nat) (Post : PT),
  condP (decide (n > (0 : Int))) (ASpec prog 211 [.ptr 0 0] (hpv177_30 bs p e) fun r H' => ∃ (x : Int), r = AV.int .i64 x ∧ H' = (hpv177_30 bs p e) ∧ condP (x == (0 : Int)) (ASpec prog 178 [.ptr 1 0, .ptr 4 0] (hpv177_30 bs p e) fun r H' => ∃ (x : T.Rel × Int × Int), r = AV.agg [.int .i64 x.1.1, T.aN x.1.2] ∧ H' = [AObj.cells [.sl 1 (.map encB 0 bs) .none, .int .i64 x.2.1, .int .i64 x.2.2], .cells [.ptr 0 0], .cells [.fn (171 : FuncId) [.ptr 1 0]], .cells [.fn (173 : FuncId) [.ptr 1 0]], .cells [.fn (175 : FuncId) [.ptr 2 0, .ptr 1 0, .ptr 3 0]], .tok] ∧ needP ((List.length acc + 1) * 32 ≤ 140737488351232) (AWP prog 27 n_1 c177_3 [(0, .ptr 0 0), (2, .fn (178 : FuncId) [.ptr 1 0, .ptr 4 0]), (7, AV.sl 2 (.app (.map T.encR (0, []) acc) (.raw [[.int .i64 x.1.1, T.aN x.1.2]])) (.tok 6)), (8, .int .i64 (IntKind.wrap .i64 (n - (1 : Int))))] [AObj.cells [.sl 1 (.map encB 0 bs) .none, .int .i64 x.2.1, .int .i64 x.2.2], .cells [.ptr 0 0], .cells [.fn (171 : FuncId) [.ptr 1 0]], .cells [.fn (173 : FuncId) [.ptr 1 0]], .cells [.fn (175 : FuncId) [.ptr 2 0, .ptr 1 0, .ptr 3 0]], .gone, .tok] (q177_2 n_1 Post))) (Post (.sl 2 (.map T.encR (0, []) acc) (.tok 5)) (hpv177_30 bs p e))) (Post (.sl 2 (.map T.encR (0, []) acc) (.tok 5)) (hpv177_30 bs p e)) → AWP prog 27 n_1 c177_3 [(0, .ptr 0 0), (2, .fn (178 : FuncId) [.ptr 1 0, .ptr 4 0]), (7, .sl 2 (.map T.encR (0, []) acc) (.tok 5)), (8, .int .i64 n)] (HR bs p e ++ [AObj.tok]) (q177_2 n_1 Post) := fun bs p e acc n n Post h => AWP.loop' g177 (Cfg.live g177) c177_3 (by kernel_rfl) (by kernel_rfl) (kc (by kernel_rfl) h)
def g137 : Cfg := { N := 40, live := nol, cut := nof, mu := nof, ret := rets }
abbrev hps1370 (x : List UInt8) (x_2 : List T.Rel × Int × Int) (x_1 : ByteArray × Int × Int) : List AObj := [AObj.cells [.str ⟨#[]⟩, .sl 0 (.raw []) .nil], .cells [.sl 1 (.map encB 0 x) .none, .int .i64 x_2.2.1, .int .i64 x_2.2.2], .cells [.ptr 1 0], .cells [.fn 171 [.ptr 2 0]], .cells [.fn 173 [.ptr 2 0]], .cells [.fn 175 [.ptr 3 0, .ptr 2 0, .ptr 4 0]], .cells [.str x_1.1, T.aR x_2.1]]
abbrev hps1371 (x : List UInt8) (x_2 : List T.Rel × Int × Int) (x_1 : ByteArray × Int × Int) : List AObj := [AObj.cells [.str ⟨#[]⟩, .sl 0 (.raw []) .nil], .cells [.sl 1 (.map encB 0 x) .none, .int .i64 x_2.2.1, AV.int .i64 x_2.2.2], .cells [.ptr 1 0], .cells [.fn 171 [.ptr 2 0]], .cells [.fn 173 [.ptr 2 0]], .cells [.fn 175 [.ptr 3 0, .ptr 2 0, .ptr 4 0]], .cells [.str x_1.1, T.aR x_2.1]]
theorem s137 : ∀ (bs : List UInt8) (Post : PT),
  condP (decide ((↑bs.length : Int) > (8192 : Int))) (Post (.tup [AV.agg [AV.str ⟨#[]⟩, .sl 0 (.raw []) .nil], .int .i64 4]) [AObj.cells [.str ⟨#[]⟩, .sl 0 (.raw []) .nil]]) (ASpec prog 170 [.sl 1 (.map encB 0 bs) .none] [AObj.cells [.str ⟨#[]⟩, .sl 0 (.raw []) .nil]] fun r H' => ∃ (x : List UInt8), r = AV.ptr 1 0 ∧ H' = [AObj.cells [.str ⟨#[]⟩, .sl 0 (.raw []) .nil], .cells [.sl 1 (.map encB 0 x) .none, .int .i64 0, .int .i64 0]] ∧ ASpec prog 171 [.ptr 2 0] [AObj.cells [.str ⟨#[]⟩, .sl 0 (.raw []) .nil], .cells [.sl 1 (.map encB 0 x) .none, .int .i64 0, .int .i64 0], .cells [.ptr 1 0], .cells [.fn 171 [.ptr 2 0]], .cells [.fn 173 [.ptr 2 0]], .cells [.fn 175 [.ptr 3 0, .ptr 2 0, .ptr 4 0]]] fun r H' => ∃ (x_1 : ByteArray × Int × Int), r = AV.str x_1.1 ∧ H' = [AObj.cells [.str ⟨#[]⟩, .sl 0 (.raw []) .nil], .cells [.sl 1 (.map encB 0 x) .none, .int .i64 x_1.2.1, .int .i64 x_1.2.2], .cells [.ptr 1 0], .cells [.fn 171 [.ptr 2 0]], .cells [.fn 173 [.ptr 2 0]], .cells [.fn 175 [.ptr 3 0, .ptr 2 0, .ptr 4 0]]] ∧ ASpec prog 177 [.ptr 1 0, .int .i64 8, .fn 178 [.ptr 2 0, .ptr 5 0]] [AObj.cells [.str ⟨#[]⟩, .sl 0 (.raw []) .nil], .cells [.sl 1 (.map encB 0 x) .none, .int .i64 x_1.2.1, .int .i64 x_1.2.2], .cells [.ptr 1 0], .cells [.fn 171 [.ptr 2 0]], .cells [.fn 173 [.ptr 2 0]], .cells [.fn 175 [.ptr 3 0, .ptr 2 0, .ptr 4 0]], .cells [.str x_1.1, .sl 0 (.raw []) .nil]] fun r H' => ∃ (x_2 : List T.Rel × Int × Int), r = T.aR x_2.1 ∧ H' = [AObj.cells [.str ⟨#[]⟩, .sl 0 (.raw []) .nil], .cells [.sl 1 (.map encB 0 x) .none, .int .i64 x_2.2.1, .int .i64 x_2.2.2], .cells [.ptr 1 0], .cells [.fn 171 [.ptr 2 0]], .cells [.fn 173 [.ptr 2 0]], .cells [.fn 175 [.ptr 3 0, .ptr 2 0, .ptr 4 0]], .cells [.str x_1.1, .sl 0 (.raw []) .nil]] ∧ ASpec prog 180 [.ptr 1 0] (hps1370 x x_2 x_1) fun r H' => ∃ (x_3 : Int), r = AV.int .i64 x_3 ∧ H' = (hps1370 x x_2 x_1) ∧ condP (x_3 == (0 : Int)) (ASpec prog 181 [.agg [.str x_1.1, T.aR x_2.1]] (hps1370 x x_2 x_1) fun r H' => ∃ (x_4 : Bool), r = AV.bool x_4 ∧ H' = (hps1371 x x_2 x_1) ∧ condP (!x_4) (Post (.tup [.agg [.str ⟨#[]⟩, .sl 0 (.raw []) .nil], .int .i64 3]) (hps1371 x x_2 x_1)) (condP (x_3 != (0 : Int)) (Post (.tup [.agg [.str ⟨#[]⟩, .sl 0 (.raw []) .nil], .int .i64 x_3]) (hps1371 x x_2 x_1)) (Post (AV.tup [.agg [.str x_1.1, T.aR x_2.1], .int .i64 0]) [AObj.cells [.str x_1.1, T.aR x_2.1], .cells [.sl 1 (.map encB 0 x) .none, .int .i64 x_2.2.1, AV.int .i64 x_2.2.2], .cells [.ptr 1 0], .cells [.fn 171 [.ptr 2 0]], .cells [.fn 173 [.ptr 2 0]], .cells [.fn 175 [.ptr 3 0, .ptr 2 0, .ptr 4 0]], .cells [.str x_1.1, T.aR x_2.1]]))) (condP (x_3 != (0 : Int)) (Post (.tup [.agg [.str ⟨#[]⟩, .sl 0 (.raw []) .nil], .int .i64 x_3]) (hps1370 x x_2 x_1)) (Post (.tup [.agg [.str x_1.1, T.aR x_2.1], .int .i64 0]) [AObj.cells [.str x_1.1, T.aR x_2.1], .cells [.sl 1 (.map encB 0 x) .none, .int .i64 x_2.2.1, .int .i64 x_2.2.2], .cells [.ptr 1 0], .cells [.fn 171 [.ptr 2 0]], .cells [.fn 173 [.ptr 2 0]], .cells [.fn 175 [.ptr 3 0, .ptr 2 0, .ptr 4 0]], .cells [.str x_1.1, T.aR x_2.1]]))) → ASpec prog 137 [.sl 1 (.map encB 0 bs) .none] [] Post := fun bs Post h => ASpec.of_vc g137 Tryz.func137 (by kernel_rfl) (by kernel_rfl) (by kernel_rfl) (kc (by kernel_rfl) h)
end
end W
end

noncomputable section
open Go Go.Ab Go.Proofs
namespace T
abbrev Ent := List UInt8 × List UInt8
def encEn (x : Ent) : List AV := [.str ⟨x.1.toArray⟩, .sl 1 (.map encB 0 x.2) .none]
abbrev Known := Option Mani
def encK : Known → AV
 | some m => .iface 121 (.agg (encM m))
 | none => .iface 203 (.agg [])
def EK : Enc Known := ⟨encK, fun a K => optionP a (fun m => K (.iface 121 (.agg (encM m)))) (K (.iface 203 (.agg []))), fun a K h => by cases a <;> exact h⟩
abbrev Kn := List (ByteArray × Known)
def HX (es : Kn) : List AObj := [.mp (.typed EK es), .cells [.map 0]]
abbrev mX (es : Kn) : AObj := .mp (.typed EK es)
abbrev m0 : AObj := .cells [.map 0]
end T
end

noncomputable section
open Go Go.Ab Go.Proofs
open Go.Proofs.Tryz (prog)
namespace X
noncomputable section
def updI (args : List AV) (H : List AObj) (es : T.Kn) : List AObj := match args with
  | .ptr p _ :: _ => match H[p]? with
    | some (.cells [.map q]) => H.set q (.mp (.typed T.EK es))
    | _ => H
  | _ => H
def retX : List (Nat × Ret) := [
  (8, ⟨Bool, fun _ _ x => .bool x, fun _ H _ => H⟩), (15, ⟨Bool, fun _ _ x => .bool x, fun _ H _ => H⟩),
  (9111, ⟨Unit, fun _ _ _ => .bool true, fun _ H _ => H⟩),
  (240, ⟨Unit, fun _ _ _ => .bool true, fun _ H _ => H⟩),
  (241, ⟨Unit, fun _ _ _ => .bool false, fun _ H _ => H⟩),
  (43, ⟨Unit, fun _ H _ => .ptr (H.length + 1) 0, fun _ H _ => H ++ [.mp (.typed T.EK []), .cells [.map H.length]]⟩),
  (16, ⟨T.Mani × Bool, fun _ _ x => .tup [.agg (T.encM x.1), .bool x.2], fun _ H _ => H⟩),
  (239, ⟨Int, fun _ _ x => .int .i64 x, fun _ H _ => H⟩),
  (40, ⟨Int × T.Kn, fun _ _ x => .int .i64 x.1, fun a H x => updI a H x.2⟩),
  (50, ⟨T.Mani, fun _ _ x => .agg (T.encM x), fun _ H _ => H⟩),
  (99, ⟨T.Rel, fun _ _ x => .agg (T.encR x), fun _ H _ => H⟩),
  (104, ⟨List T.Span, fun _ _ x => T.aS x, fun _ H _ => H⟩),
  (90, ⟨T.Mani, fun _ _ x => .iface 121 (.agg (T.encM x)), fun _ H _ => H⟩),
  (90, ⟨Unit, fun _ _ _ => .iface 203 (.agg []), fun _ H _ => H⟩)]
def rets : FuncId → List Ret := lookupR (retX ++ W.retW ++ C.retC ++ V.retL)
def l8 : Nat → List Nat
  | 4 => [0, 3]
  | _ => []
def g8 : Cfg := { N := 29, live := l8, cut := nof, mu := nof, ret := rets }
def c8 : Code := bodyOf Tryz.f8
def q8_0 (n : Nat) (Post : PT) : AQ := endQ prog (resultsOf Tryz.f8) Post
def q8_1 (n : Nat) (Post : PT) : AQ := seqQ (fun s' H' => awp prog g8 n (codeSnd (codeSnd (codeSnd c8))) s' H' (q8_0 n Post)) (q8_0 n Post)
def q8_2 (n : Nat) (Post : PT) : AQ := blockQ 0 (q8_1 n Post)
def c8_4 : Code := codeFst (codeSnd (codeFst (codeSnd (codeSnd c8))))
theorem s8 : ∀ (l : List T.Ent) (Post : PT),
  condP (decide ((↑l.length : Int) > (30 : Int))) (Post (.bool true) []) (AWP prog 29 0 c8_4 [(0, .sl 2 (.map T.encEn ([], []) l) .none), (3, .int .i64 0)] [] (q8_2 0 Post)) → ASpec prog 8 [.sl 2 (.map T.encEn ([], []) l) .none] [] Post := fun l Post h => ASpec.of_vc g8 Tryz.func8 (by kernel_rfl) (by kernel_rfl) (by kernel_rfl) (kc (by kernel_rfl) h)
theorem v8_4 : ∀ (l : List T.Ent) (i : Int) (n : Nat) (Post : PT),
  condP (decide (i < (↑l.length : Int))) (needP (0 ≤ i ∧ i < (↑l.length : Int)) (condP (decide ((↑(ByteArray.size ⟨(l.getD i.toNat ([], [])).1.toArray⟩) : Int) > (200 : Int))) (Post (.bool true) []) (needP (0 ≤ i ∧ i < (↑l.length : Int)) (condP (decide ((↑(List.length (l.getD i.toNat ([], [])).2) : Int) > (9000 : Int))) (Post (.bool true) []) (AWP prog 29 n c8_4 [(0, .sl 2 (.map T.encEn ([], []) l) .none), (3, .int .i64 (IntKind.wrap .i64 (i + (1 : Int))))] [] (q8_2 n Post)))))) (Post (.bool false) []) → AWP prog 29 n c8_4 [(0, .sl 2 (.map T.encEn ([], []) l) .none), (3, .int .i64 i)] [] (q8_2 n Post) := fun l i n Post h => AWP.loop' g8 (Cfg.live g8) c8_4 (by kernel_rfl) (by kernel_rfl) (kc (by kernel_rfl) h)
def g43 : Cfg := { N := 4, live := nol, cut := nof, mu := nof, ret := rets }
theorem s43 : ∀ (Post : PT), Post (.ptr 1 0) [AObj.mp MM.nil, .cells [.map 0]] → ASpec prog 43 [] [] Post := fun Post h => ASpec.of_vc g43 Tryz.func43 (by kernel_rfl) (by kernel_rfl) (by kernel_rfl) (kc (by kernel_rfl) h)
def g15 : Cfg := { N := 19, live := nol, cut := nof, mu := nof, ret := rets }
theorem s15 : ∀ (es : T.Kn) (s : ByteArray) (Post : PT),
  optionP (findM es s) (fun (x : T.Known) => optionP x (fun (x : T.Mani) => Post (.bool true) [T.mX es, T.m0]) (Post (.bool true) [T.mX es, T.m0])) (Post (.bool false) [T.mX es, T.m0]) → ASpec prog 15 [.ptr 1 0, .str s] (T.HX es) Post := fun es s Post h => ASpec.of_vc g15 Tryz.func15 (by kernel_rfl) (by kernel_rfl) (by kernel_rfl) (kc (by kernel_rfl) h)
def g16 : Cfg := { N := 35, live := nol, cut := nof, mu := nof, ret := rets }
theorem s16 : ∀ (es : T.Kn) (s : ByteArray) (Post : PT),
  (ASpec prog 15 [.ptr 1 0, .str s] [T.mX es, T.m0, .cells [.str ⟨#[]⟩, .sl 0 (.raw []) .nil], .cells [.str s, AV.sl 0 (.raw []) .nil]] fun r H' => ∃ (x : Bool), r = AV.bool x ∧ H' = [T.mX es, T.m0, .cells [.str ⟨#[]⟩, .sl 0 (.raw []) .nil], .cells [.str s, AV.sl 0 (.raw []) .nil]] ∧ condP (!x) (Post (.tup [.agg [.str s, AV.sl 0 (.raw []) .nil], .bool false]) [T.mX es, T.m0, .cells [.str s, AV.sl 0 (.raw []) .nil], .cells [.str s, AV.sl 0 (.raw []) .nil]]) (optionP (findM es s) (fun (x : T.Known) => optionP x (fun (x : T.Mani) => ASpec prog 240 [.agg [T.sB x.1, T.aR x.2]] [T.mX es, T.m0, .cells [.str ⟨#[]⟩, .sl 0 (.raw []) .nil], .cells [.str s, AV.sl 0 (.raw []) .nil]] fun r H' => ∃ (x : Unit), r = AV.bool true ∧ H' = [T.mX es, T.m0, .cells [.str ⟨#[]⟩, .sl 0 (.raw []) .nil], .cells [.str s, AV.sl 0 (.raw []) .nil]] ∧ optionP (findM es s) (fun (x : T.Known) => optionP x (fun (x : T.Mani) => ASpec prog 50 [.agg [T.sB x.1, T.aR x.2]] [T.mX es, T.m0, .cells [.str ⟨#[]⟩, .sl 0 (.raw []) .nil], .cells [.str s, AV.sl 0 (.raw []) .nil], .cells [T.sB x.1, T.aR x.2]] fun r H' => ∃ (x_1 : List UInt8 × List T.Rel), r = AV.agg [T.sB x_1.1, T.aR x_1.2] ∧ H' = [T.mX es, T.m0, .cells [.str ⟨#[]⟩, .sl 0 (.raw []) .nil], .cells [.str s, AV.sl 0 (.raw []) .nil], .cells [T.sB x.1, T.aR x.2]] ∧ Post (AV.tup [.agg [T.sB x_1.1, T.aR x_1.2], .bool true]) [T.mX es, T.m0, .cells [T.sB x_1.1, T.aR x_1.2], .cells [.str s, AV.sl 0 (.raw []) .nil], .cells [T.sB x.1, T.aR x.2]]) False) False) (ASpec prog 241 [.agg []] [T.mX es, T.m0, .cells [.str ⟨#[]⟩, .sl 0 (.raw []) .nil], .cells [.str s, AV.sl 0 (.raw []) .nil]] fun r H' => ∃ (x : Unit), r = AV.bool false ∧ H' = [T.mX es, T.m0, .cells [.str ⟨#[]⟩, .sl 0 (.raw []) .nil], .cells [.str s, AV.sl 0 (.raw []) .nil]] ∧ Post (.tup [.agg [.str s, AV.sl 0 (.raw []) .nil], .bool false]) [T.mX es, T.m0, .cells [.str s, AV.sl 0 (.raw []) .nil], .cells [.str s, AV.sl 0 (.raw []) .nil]])) False)) → ASpec prog 16 [.ptr 1 0, .str s] (T.HX es) Post := fun es s Post h => ASpec.of_vc g16 Tryz.func16 (by kernel_rfl) (by kernel_rfl) (by kernel_rfl) (kc (by kernel_rfl) h)
def g40 : Cfg := { N := 32, live := nol, cut := nof, mu := nof, ret := rets }
theorem s40 : ∀ (es : T.Kn) (s : ByteArray) (bs : List UInt8) (Post : PT),
  (ASpec prog 51 [.str s] [T.mX es, T.m0] fun r H' => ∃ (x : Bool), r = AV.bool x ∧ H' = [T.mX es, T.m0] ∧ condP (!x) (Post (.int .i64 1) [T.mX es, T.m0]) (condP (decide ((↑bs.length : Int) > (8192 : Int))) (Post (.int .i64 1) [T.mX es, T.m0]) (ASpec prog 15 [.ptr 1 0, .str s] [T.mX es, T.m0] fun r H' => ∃ (x : Bool), r = AV.bool x ∧ H' = [T.mX es, T.m0] ∧ condP x (Post (.int .i64 6) [T.mX es, T.m0]) (ASpec prog 90 [.str s, AV.sl 1 (.map encB 0 bs) .none] [T.mX es, T.m0] fun r H' => (∃ (x : List UInt8 × List T.Rel), r = AV.iface (121 : TypeId) (AV.agg [T.sB x.1, T.aR x.2]) ∧ H' = [T.mX es, T.m0] ∧ (AV.map 0 = AV.map 0 ∧ [T.mX es, T.m0] = [T.mX es, T.m0]) ∧ Post (.int .i64 0) [AObj.mp (MM.put (MM.typed T.EK es) s (AV.iface (121 : TypeId) (AV.agg [T.sB x.1, T.aR x.2]))), .cells [.map 0]]) ∨ ∃ (x : Unit), r = AV.iface (203 : TypeId) (AV.agg []) ∧ H' = [T.mX es, T.m0] ∧ (AV.map 0 = AV.map 0 ∧ [T.mX es, T.m0] = [T.mX es, T.m0]) ∧ Post (.int .i64 0) [AObj.mp (MM.put (MM.typed T.EK es) s (AV.iface (203 : TypeId) (AV.agg []))), .cells [.map 0]])))) → ASpec prog 40 [.ptr 1 0, .str s, AV.sl 1 (.map encB 0 bs) .none] (T.HX es) Post := fun es s bs Post h => ASpec.of_vc g40 Tryz.func40 (by kernel_rfl) (by kernel_rfl) (by kernel_rfl) (kc (by kernel_rfl) h)
def g240 : Cfg := { N := 3, live := nol, cut := nof, mu := nof, ret := rets }
theorem s240 : ∀ (m : T.Mani) (Post : PT),
  Post (.bool true) [AObj.cells [T.sB m.1, T.aR m.2]] → ASpec prog 240 [.agg (T.encM m)] [] Post := fun m Post h => ASpec.of_vc g240 Tryz.func240 (by kernel_rfl) (by kernel_rfl) (by kernel_rfl) (kc (by kernel_rfl) h)
def g241 : Cfg := { N := 3, live := nol, cut := nof, mu := nof, ret := rets }
theorem s241 : ∀ (Post : PT), Post (.bool false) [AObj.cells []] → ASpec prog 241 [.agg []] [] Post := fun Post h => ASpec.of_vc g241 Tryz.func241 (by kernel_rfl) (by kernel_rfl) (by kernel_rfl) (kc (by kernel_rfl) h)
def g90 : Cfg := { N := 25, live := nol, cut := nof, mu := nof, ret := rets }
theorem s90 : ∀ (s : ByteArray) (bs : List UInt8) (Post : PT),
  (ASpec prog 137 [.sl 1 (.map encB 0 bs) .none] [] fun r H' => ∃ (x : T.Mani × Int), r = AV.tup [.agg [T.sB x.1.1, T.aR x.1.2], .int .i64 x.2] ∧ H' = [] ∧ condP (Prod.snd x != (0 : Int)) (Post (.iface 203 (AV.agg [])) [AObj.cells [T.sB x.1.1, T.aR x.1.2]]) (condP (!ByteArray.toList ⟨x.1.1.toArray⟩ == ByteArray.toList s) (Post (.iface 203 (AV.agg [])) [AObj.cells [T.sB x.1.1, T.aR x.1.2]]) (Post (.iface 121 (AV.agg [T.sB x.1.1, T.aR x.1.2])) [AObj.cells [T.sB x.1.1, T.aR x.1.2]]))) → ASpec prog 90 [.str s, AV.sl 1 (.map encB 0 bs) .none] [] Post := fun s bs Post h => ASpec.of_vc g90 Tryz.func90 (by kernel_rfl) (by kernel_rfl) (by kernel_rfl) (kc (by kernel_rfl) h)
def g104 : Cfg := { N := 8, live := nol, cut := nof, mu := nof, ret := rets }
theorem s104 : ∀ (l : List T.Span) (Post : PT),
  (∀ (b : Bool), (b = true → Seq.toList (.map T.encS (0, 0) l) = []) → condP b (Post (.sl 0 (.raw []) .nil) []) (needP (∀ (x : T.Span), List.all (T.encS x) oneAV = true) (needP ((0 + List.length l) * 16 ≤ 140737488351232) (Post (.sl 2 (.app (.raw []) (.map T.encS (0, 0) l)) (.tok 0)) [AObj.tok])))) → ASpec prog 104 [T.aS l] [] Post := fun l Post h => ASpec.of_vc g104 Tryz.func104 (by kernel_rfl) (by kernel_rfl) (by kernel_rfl) (kc (by kernel_rfl) h)
def l99 : Nat → List Nat
  | 3 => [2, 3, 10, 11, 12]
  | _ => []
def g99 : Cfg := { N := 29, live := l99, cut := nof, mu := nof, ret := rets }
def c99 : Code := bodyOf Tryz.f99
def q99_0 (n : Nat) (Post : PT) : AQ := endQ prog (resultsOf Tryz.f99) Post
def q99_1 (n : Nat) (Post : PT) : AQ := seqQ (fun s' H' => awp prog g99 n (codeSnd (codeSnd (codeSnd c99))) s' H' (q99_0 n Post)) (q99_0 n Post)
def q99_2 (n : Nat) (Post : PT) : AQ := blockQ 0 (q99_1 n Post)
def c99_3 : Code := codeFst (codeSnd (codeFst (codeSnd (codeSnd c99))))
theorem s99 : ∀ (r : T.Rel) (Post : PT),
  AWP prog 29 0 c99_3 [(2, .ptr 1 0), (3, .ptr 2 0), (10, T.aN r.2), (11, .int .i64 r.2.length), (12, .int .i64 0)] [AObj.cells [.int .i64 r.1, T.aN r.2], .cells [.int .i64 0, .sl 0 (.raw []) .nil], .cells [.int .i64 r.1, .sl 0 (.raw []) .nil]] (q99_2 0 Post) → ASpec prog 99 [.agg (T.encR r)] [] Post := fun r Post h => ASpec.of_vc g99 Tryz.func99 (by kernel_rfl) (by kernel_rfl) (by kernel_rfl) (kc (by kernel_rfl) h)
theorem v99_3 : ∀ (v : Int) (acc l : List T.Need) (n i : Int) (n_1 : Nat) (Post : PT),
  condP (decide (i < n)) (needP (0 ≤ i ∧ i < (↑l.length : Int)) (ASpec prog 104 [AV.sl 2 (.map T.encS (0, 0) (l.getD i.toNat ([], [])).2) .none] [AObj.cells [AV.int .i64 0, .sl 0 (.raw []) .nil], .cells [.int .i64 v, AV.sl 2 (.map T.encN ([], []) acc) (.tok 2)], .tok, .cells [.str ⟨(l.getD i.toNat ([], [])).1.toArray⟩, .sl 2 (.map T.encS (0, 0) (l.getD i.toNat ([], [])).2) .none]] fun r H' => ∃ (x : List T.Span), r = T.aS x ∧ H' = [AObj.cells [.int .i64 0, .sl 0 (.raw []) .nil], .cells [.int .i64 v, AV.sl 2 (.map T.encN ([], []) acc) (.tok 2)], .tok, .cells [.str ⟨(l.getD i.toNat ([], [])).1.toArray⟩, .sl 2 (.map T.encS (0, 0) (l.getD i.toNat ([], [])).2) .none]] ∧ (AV.str ⟨(l.getD i.toNat ([], [])).1.toArray⟩ = AV.str ⟨(l.getD i.toNat ([], [])).1.toArray⟩ ∧ [AObj.cells [AV.int .i64 0, .sl 0 (.raw []) .nil], .cells [.int .i64 v, AV.sl 2 (.map T.encN ([], []) acc) (.tok 2)], .tok, .cells [.str ⟨(l.getD i.toNat ([], [])).1.toArray⟩, .sl 2 (.map T.encS (0, 0) (l.getD i.toNat ([], [])).2) .none]] = [AObj.cells [AV.int .i64 0, .sl 0 (.raw []) .nil], .cells [.int .i64 v, AV.sl 2 (.map T.encN ([], []) acc) (.tok 2)], .tok, .cells [.str ⟨(l.getD i.toNat ([], [])).1.toArray⟩, .sl 2 (.map T.encS (0, 0) (l.getD i.toNat ([], [])).2) .none]]) ∧ (AV.sl 2 (.map T.encN ([], []) acc) (.tok 2) = AV.sl 2 (.map T.encN ([], []) acc) (.tok 2) ∧ [AObj.cells [.int .i64 0, .sl 0 (.raw []) .nil], .cells [.int .i64 v, AV.sl 2 (.map T.encN ([], []) acc) (.tok 2)], .tok, .cells [.str ⟨(l.getD i.toNat ([], [])).1.toArray⟩, .sl 2 (.map T.encS (0, 0) (l.getD i.toNat ([], [])).2) .none]] = [AObj.cells [AV.int .i64 0, .sl 0 (.raw []) .nil], .cells [.int .i64 v, AV.sl 2 (.map T.encN ([], []) acc) (.tok 2)], .tok, .cells [.str ⟨(l.getD i.toNat ([], [])).1.toArray⟩, .sl 2 (.map T.encS (0, 0) (l.getD i.toNat ([], [])).2) .none]]) ∧ needP ((List.length acc + 1) * 40 ≤ 140737488351232) (AWP prog 29 n_1 c99_3 [(2, .ptr 0 0), (3, .ptr 1 0), (10, T.aN l), (11, .int .i64 n), (12, .int .i64 (IntKind.wrap .i64 (i + (1 : Int))))] [AObj.cells [.int .i64 0, .sl 0 (.raw []) .nil], .cells [.int .i64 v, AV.sl 2 (.app (.map T.encN ([], []) acc) (.raw [[.str ⟨(l.getD i.toNat ([], [])).1.toArray⟩, T.aS x]])) (.tok 4)], .gone, .cells [.str ⟨(l.getD i.toNat ([], [])).1.toArray⟩, .sl 2 (.map T.encS (0, 0) (l.getD i.toNat ([], [])).2) .none], .tok] (q99_2 n_1 Post)))) (Post (.agg [.int .i64 v, AV.sl 2 (.map T.encN ([], []) acc) (.tok 2)]) [AObj.cells [.int .i64 v, AV.sl 2 (.map T.encN ([], []) acc) (.tok 2)], .cells [.int .i64 v, AV.sl 2 (.map T.encN ([], []) acc) (.tok 2)], .tok]) → AWP prog 29 n_1 c99_3 [(2, .ptr 0 0), (3, .ptr 1 0), (10, T.aN l), (11, .int .i64 n), (12, .int .i64 i)] [AObj.cells [.int .i64 0, .sl 0 (.raw []) .nil], .cells [.int .i64 v, AV.sl 2 (.map T.encN ([], []) acc) (.tok 2)], .tok] (q99_2 n_1 Post) := fun v acc l n i n Post h => AWP.loop' g99 (Cfg.live g99) c99_3 (by kernel_rfl) (by kernel_rfl) (kc (by kernel_rfl) h)
def l50 : Nat → List Nat
  | 3 => [2, 3, 10, 11, 12]
  | _ => []
def g50 : Cfg := { N := 25, live := l50, cut := nof, mu := nof, ret := rets }
def c50 : Code := bodyOf Tryz.f50
def q50_0 (n : Nat) (Post : PT) : AQ := endQ prog (resultsOf Tryz.f50) Post
def q50_1 (n : Nat) (Post : PT) : AQ := seqQ (fun s' H' => awp prog g50 n (codeSnd (codeSnd (codeSnd c50))) s' H' (q50_0 n Post)) (q50_0 n Post)
def q50_2 (n : Nat) (Post : PT) : AQ := blockQ 0 (q50_1 n Post)
def c50_3 : Code := codeFst (codeSnd (codeFst (codeSnd (codeSnd c50))))
theorem s50 : ∀ (m : T.Mani) (Post : PT),
  AWP prog 25 0 c50_3 [(2, .ptr 1 0), (3, .ptr 2 0), (10, T.aR m.2), (11, .int .i64 m.2.length), (12, .int .i64 0)] [AObj.cells [T.sB m.1, T.aR m.2], .cells [.str ⟨#[]⟩, .sl 0 (.raw []) .nil], .cells [T.sB m.1, .sl 0 (.raw []) .nil]] (q50_2 0 Post) → ASpec prog 50 [.agg (T.encM m)] [] Post := fun m Post h => ASpec.of_vc g50 Tryz.func50 (by kernel_rfl) (by kernel_rfl) (by kernel_rfl) (kc (by kernel_rfl) h)
theorem v50_3 : ∀ (s : ByteArray) (acc l : List T.Rel) (n i : Int) (n_1 : Nat) (Post : PT),
  condP (decide (i < n)) (needP (0 ≤ i ∧ i < (↑l.length : Int)) (ASpec prog 99 [AV.agg [AV.int .i64 (l.getD i.toNat ((0 : Int), [])).1, .sl 2 (.map T.encN ([], []) (l.getD i.toNat ((0 : Int), [])).2) .none]] [AObj.cells [AV.str ⟨#[]⟩, .sl 0 (.raw []) .nil], .cells [.str s, AV.sl 2 (.map T.encR (0, []) acc) (.tok 2)], .tok, .cells [.int .i64 (l.getD i.toNat ((0 : Int), [])).1, .sl 2 (.map T.encN ([], []) (l.getD i.toNat ((0 : Int), [])).2) .none]] fun r H' => ∃ (x : Int × List T.Need), r = AV.agg [.int .i64 x.1, T.aN x.2] ∧ H' = [AObj.cells [.str ⟨#[]⟩, .sl 0 (.raw []) .nil], .cells [.str s, AV.sl 2 (.map T.encR (0, []) acc) (.tok 2)], .tok, .cells [.int .i64 (l.getD i.toNat ((0 : Int), [])).1, AV.sl 2 (.map T.encN ([], []) (l.getD i.toNat ((0 : Int), [])).2) .none]] ∧ (AV.sl 2 (.map T.encR (0, []) acc) (.tok 2) = AV.sl 2 (.map T.encR (0, []) acc) (.tok 2) ∧ [AObj.cells [.str ⟨#[]⟩, .sl 0 (.raw []) .nil], .cells [.str s, AV.sl 2 (.map T.encR (0, []) acc) (.tok 2)], .tok, .cells [.int .i64 (l.getD i.toNat ((0 : Int), [])).1, AV.sl 2 (.map T.encN ([], []) (l.getD i.toNat ((0 : Int), [])).2) .none]] = [AObj.cells [AV.str ⟨#[]⟩, .sl 0 (.raw []) .nil], .cells [.str s, AV.sl 2 (.map T.encR (0, []) acc) (.tok 2)], .tok, .cells [.int .i64 (l.getD i.toNat ((0 : Int), [])).1, AV.sl 2 (.map T.encN ([], []) (l.getD i.toNat ((0 : Int), [])).2) .none]]) ∧ needP ((List.length acc + 1) * 32 ≤ 140737488351232) (AWP prog 25 n_1 c50_3 [(2, .ptr 0 0), (3, .ptr 1 0), (10, T.aR l), (11, .int .i64 n), (12, .int .i64 (IntKind.wrap .i64 (i + (1 : Int))))] [AObj.cells [.str ⟨#[]⟩, .sl 0 (.raw []) .nil], .cells [.str s, AV.sl 2 (.app (.map T.encR (0, []) acc) (.raw [[.int .i64 x.1, T.aN x.2]])) (.tok 4)], .gone, .cells [.int .i64 (l.getD i.toNat ((0 : Int), [])).1, AV.sl 2 (.map T.encN ([], []) (l.getD i.toNat ((0 : Int), [])).2) .none], .tok] (q50_2 n_1 Post)))) (Post (.agg [.str s, AV.sl 2 (.map T.encR (0, []) acc) (.tok 2)]) [AObj.cells [.str s, AV.sl 2 (.map T.encR (0, []) acc) (.tok 2)], .cells [.str s, AV.sl 2 (.map T.encR (0, []) acc) (.tok 2)], .tok]) → AWP prog 25 n_1 c50_3 [(2, .ptr 0 0), (3, .ptr 1 0), (10, T.aR l), (11, .int .i64 n), (12, .int .i64 i)] [AObj.cells [.str ⟨#[]⟩, .sl 0 (.raw []) .nil], .cells [.str s, AV.sl 2 (.map T.encR (0, []) acc) (.tok 2)], .tok] (q50_2 n_1 Post) := fun s acc l n i n Post h => AWP.loop' g50 (Cfg.live g50) c50_3 (by kernel_rfl) (by kernel_rfl) (kc (by kernel_rfl) h)
end
end X
end

noncomputable section
open Go Go.Ab Go.Proofs
namespace T
def encL (x : List UInt8) : List AV := [.str ⟨x.toArray⟩]
abbrev aL (x : List (List UInt8)) : AV := .sl 1 (.map encL [] x) .none
end T
end

noncomputable section
open Go Go.Ab Go.Proofs
open Go.Proofs.Tryz (prog)
namespace Dp
noncomputable section
def retD : List (Nat × Ret) := [
  (9058, ⟨Bool, fun _ _ x => .bool x, fun _ H _ => H⟩),
  (9038, ⟨Bool, fun _ _ x => .bool x, fun _ H _ => H⟩),
  (9183, ⟨Int × Bool, fun _ _ x => .tup [.int .i64 x.1, .bool x.2], fun _ H _ => H⟩),
  (9278, ⟨Int × Bool, fun _ _ x => .tup [.int .i64 x.1, .bool x.2], fun _ H _ => H⟩),
  (9279, ⟨Int, fun _ _ x => .int .i64 x, fun _ H _ => H⟩),
  (9280, ⟨Int, fun _ _ x => .int .i64 x, fun _ H _ => H⟩),
  (9061, ⟨List UInt8, fun _ _ x => .sl 1 (.map encB 0 x) .none, fun _ H _ => H⟩),
  (9166, ⟨List UInt8, fun _ _ x => .sl 1 (.map encB 0 x) .none, fun _ H _ => H⟩),
  (9059, ⟨T.Mani × Bool, fun _ _ x => .tup [.agg (T.encM x.1), .bool x.2], fun _ H _ => H⟩),
  (106, ⟨T.Mani × Bool, fun _ _ x => .tup [.agg (T.encM x.1), .bool x.2], fun _ H _ => H⟩),
  (9060, ⟨T.Mani × Bool, fun _ _ x => .tup [.agg (T.encM x.1), .bool x.2], fun _ H _ => H⟩),
  (9064, ⟨List (List UInt8), fun _ _ x => T.aL x, fun _ H _ => H⟩),
  (9065, ⟨List (List UInt8), fun _ _ x => T.aL x, fun _ H _ => H⟩),
  (9063, ⟨Bool, fun _ _ x => .bool x, fun _ H _ => H⟩),
  (9067, ⟨List T.Ent × Bool, fun _ _ x => .tup [.sl 2 (.map T.encEn ([], []) x.1) .none, .bool x.2], fun _ H _ => H⟩),
  (9068, ⟨List T.Ent × Bool, fun _ _ x => .tup [.sl 2 (.map T.encEn ([], []) x.1) .none, .bool x.2], fun _ H _ => H⟩),
  (9069, ⟨Bool, fun _ _ x => .bool x, fun _ H _ => H⟩),
  (8, ⟨Bool, fun _ _ x => .bool x, fun _ H _ => H⟩),
  (9047, ⟨ByteArray, fun _ _ x => .str x, fun _ H _ => H⟩),
  (9057, ⟨Unit, fun _ _ _ => .bool true, fun _ H _ => H⟩)]
def rets : FuncId → List Ret := lookupR (retD ++ W.retW ++ C.retC ++ V.retL)
end
end Dp
end

noncomputable section
open Go Go.Ab Go.Proofs
namespace T
abbrev Kd := Mani × Bool
abbrev noKd : Kd := (([], []), false)
def encKd (x : Kd) : List AV := [.str ⟨x.1.1.toArray⟩, .sl 2 (.map T.encR (0, []) x.1.2) .none, .bool x.2]
def encXd (l : List Kd) : List AV := [.sl 3 (.map encKd noKd l) .none]
end T
end

noncomputable section
open Go Go.Ab Go.Proofs
open Go.Proofs.Tryz (prog)
namespace Xd
noncomputable section
def addP (args : List AV) (H : List AObj) (o : AObj) : List AObj := match args with
  | .ptr id _ :: _ => H.set id o
  | _ => H
def retXd : List (Nat × Ret) := [
  (115, ⟨Int, fun _ _ x => .int .i64 x, fun _ H _ => H⟩), (63, ⟨Bool, fun _ _ x => .bool x, fun _ H _ => H⟩), (66, ⟨T.Mani × Bool, fun _ _ x => .tup [.agg (T.encM x.1), .bool x.2], fun _ H _ => H⟩), (9222, ⟨List (List UInt8), fun _ _ x => T.aL x, fun _ H _ => H⟩), (9223, ⟨Bool, fun _ _ x => .bool x, fun _ H _ => H⟩), (9062, ⟨Bool, fun _ _ x => .bool x, fun _ H _ => H⟩),
  (57, ⟨Int × List T.Kd, fun _ _ x => .int .i64 x.1, fun a H x => addP a H (.cells (T.encXd x.2))⟩),
  (20, ⟨List T.Kd, fun _ _ x => .agg (T.encXd x), fun _ H _ => H⟩),
  (12, ⟨T.Kn, fun _ H _ => .ptr (H.length + 1) 0, fun _ H x => H ++ [.mp (.typed T.EK x), .cells [.map H.length]]⟩),
  (9220, ⟨T.Kn, fun _ H _ => .map H.length, fun _ H x => H ++ [.mp (.typed T.EK x)]⟩),
  (9115, ⟨T.Kn, fun _ H _ => .ptr (H.length + 1) 0, fun _ H x => H ++ [.mp (.typed T.EK x), .cells [.map H.length]]⟩),
  (9115, ⟨Unit, fun _ _ _ => .nilp, fun _ H _ => H⟩)]
def rets : FuncId → List Ret := fun f => match lookupR retXd f with
  | [] => match X.rets f with
    | [] => Dp.rets f
    | l => l
  | l => l
def u115 : Nat → Bool
  | _ => false
def l20 : Nat → List Nat
  | 3 => [0, 2, 3, 4]
  | _ => []
def l12 : Nat → List Nat
  | 3 => [3, 7, 8, 9]
  | _ => []
def g12 : Cfg := { N := 21, live := l12, cut := nof, mu := nof, ret := rets }
def c12 : Code := bodyOf Tryz.f12
def q12_0 (n : Nat) (Post : PT) : AQ := endQ prog (resultsOf Tryz.f12) Post
def q12_1 (n : Nat) (Post : PT) : AQ := seqQ (fun s' H' => awp prog g12 n (codeSnd (codeSnd (codeSnd c12))) s' H' (q12_0 n Post)) (q12_0 n Post)
def q12_2 (n : Nat) (Post : PT) : AQ := blockQ 0 (q12_1 n Post)
def c12_3 : Code := codeFst (codeSnd (codeFst (codeSnd (codeSnd c12))))
theorem s12 : ∀ (e : List T.Ent) (Post : PT),
  (ASpec prog 43 [] [] fun r H' => ∃ (x : Unit), r = AV.ptr 1 0 ∧ H' = [AObj.mp (.typed T.EK []), .cells [.map 0]] ∧ AWP prog 21 0 c12_3 [(3, .ptr 1 0), (7, .sl 2 (.map T.encEn ([], []) e) .none), (8, .int .i64 e.length), (9, .int .i64 0)] [AObj.mp (.typed T.EK []), .cells [.map 0]] (q12_2 0 Post)) → ASpec prog 12 [.sl 2 (.map T.encEn ([], []) e) .none] [] Post := fun e Post h => ASpec.of_vc g12 Tryz.func12 (by kernel_rfl) (by kernel_rfl) (by kernel_rfl) (kc (by kernel_rfl) h)
theorem v12_3 : ∀ (e : List T.Ent) (es : T.Kn) (n i : Int) (n_1 : Nat) (Post : PT),
  condP (decide (i < n)) (needP (0 ≤ i ∧ i < (↑e.length : Int)) (ASpec prog 40 [AV.ptr 1 0, .str ⟨(e.getD i.toNat ([], [])).1.toArray⟩, .sl 1 (.map encB 0 (e.getD i.toNat ([], [])).2) .none] [T.mX es, T.m0, .cells [.str ⟨(e.getD i.toNat ([], [])).1.toArray⟩, .sl 1 (.map encB 0 (e.getD i.toNat ([], [])).2) .none]] fun r H' => ∃ (x : Int × T.Kn), r = AV.int .i64 x.1 ∧ H' = [AObj.mp (.typed T.EK x.2), .cells [.map 0], .cells [.str ⟨(e.getD i.toNat ([], [])).1.toArray⟩, .sl 1 (.map encB 0 (e.getD i.toNat ([], [])).2) .none]] ∧ AWP prog 21 n_1 c12_3 [(3, .ptr 1 0), (7, .sl 2 (.map T.encEn ([], []) e) .none), (8, .int .i64 n), (9, .int .i64 (IntKind.wrap .i64 (i + (1 : Int))))] [AObj.mp (.typed T.EK x.2), .cells [.map 0], .cells [.str ⟨(e.getD i.toNat ([], [])).1.toArray⟩, .sl 1 (.map encB 0 (e.getD i.toNat ([], [])).2) .none]] (q12_2 n_1 Post))) (Post (.ptr 1 0) [T.mX es, T.m0]) → AWP prog 21 n_1 c12_3 [(3, .ptr 1 0), (7, .sl 2 (.map T.encEn ([], []) e) .none), (8, .int .i64 n), (9, .int .i64 i)] (T.HX es) (q12_2 n_1 Post) := fun e es n i n Post h => AWP.loop' g12 (Cfg.live g12) c12_3 (by kernel_rfl) (by kernel_rfl) (kc (by kernel_rfl) h)
end
end Xd
end

noncomputable section
open Go Go.Ab Go.Proofs
open Go.Proofs.Tryz (prog)
namespace Rr
noncomputable section
def retRr : List (Nat × Ret) := [
  (88, ⟨List (List UInt8), fun _ _ x => T.aL x, fun _ H _ => H⟩),
  (38, ⟨List (List UInt8), fun _ _ x => T.aL x, fun _ H _ => H⟩),
  (9014, ⟨List (List UInt8), fun _ _ x => T.aL x, fun _ H _ => H⟩),
  (9017, ⟨List (List UInt8), fun _ _ x => T.aL x, fun _ H _ => H⟩),
  (79, ⟨List (List UInt8), fun _ _ x => T.aL x, fun _ H _ => H⟩),
  (9045, ⟨List (List UInt8), fun _ _ x => T.aL x, fun _ H _ => H⟩),
  (9019, ⟨Bool, fun _ _ x => .bool x, fun _ H _ => H⟩),
  (9022, ⟨Bool, fun _ _ x => .bool x, fun _ H _ => H⟩),
  (9011, ⟨Unit, fun _ _ _ => .bool true, fun _ H _ => H⟩)]
def rets : FuncId → List Ret := fun f => match lookupR retRr f with
  | [] => Xd.rets f
  | l => l
end
end Rr
end

noncomputable section
open Go Go.Ab Go.Proofs
namespace T
end T
end

noncomputable section
open Go Go.Ab Go.Proofs
open Go.Proofs.Tryz (prog)
namespace Wn
noncomputable section
def retWn : List (Nat × Ret) := [
  (9025, ⟨List (List UInt8), fun _ _ x => T.aL x, fun _ H _ => H⟩),
  (9026, ⟨List (List UInt8), fun _ _ x => T.aL x, fun _ H _ => H⟩),
  (9027, ⟨List (List UInt8), fun _ _ x => T.aL x, fun _ H _ => H⟩),
  (9028, ⟨List (List UInt8), fun _ _ x => T.aL x, fun _ H _ => H⟩),
  (169, ⟨Bool, fun _ _ x => .bool x, fun _ H _ => H⟩),
  (9023, ⟨Bool, fun _ _ x => .bool x, fun _ H _ => H⟩),
  (209, ⟨Int, fun _ _ x => .int .i64 x, fun _ H _ => H⟩),
  (51, ⟨Bool, fun _ _ x => .bool x, fun _ H _ => H⟩),
  (41, ⟨Bool, fun _ _ x => .bool x, fun _ H _ => H⟩),
  (9049, ⟨Unit, fun _ H _ => .fn 9065 [.ptr H.length 0], fun a H _ => H ++ [.cells [a.getD 0 .bad]]⟩),
  (yieldKey, ⟨Unit, fun _ _ _ => .bool true, fun _ H _ => H⟩),
  (yieldKey, ⟨List (List UInt8), fun _ _ _ => .bool true, fun _ H x => ((H.set 3 .gone).set 0 (.cells [.sl 1 (.map T.encL [] x) (.tok H.length)])) ++ [.tok]⟩),
  (9024, ⟨Unit, fun _ _ _ => .bool true, fun _ H _ => H⟩)]
def rets : FuncId → List Ret := fun f => match lookupR retWn f with
  | [] => Rr.rets f
  | l => l
def g169 : Cfg := { N := 9, live := nol, cut := nof, mu := nof, ret := rets }
theorem s169 : ∀ (o : List (List UInt8)) (s : List UInt8) (Post : PT),
  (ASpec prog 209 [T.aL o, T.sB s] [] fun r H' => ∃ (x : Int), r = AV.int .i64 x ∧ H' = [] ∧ Post (.bool (decide (x ≥ (0 : Int)))) []) → ASpec prog 169 [T.aL o, T.sB s] [] Post := fun o s Post h => ASpec.of_vc g169 Tryz.func169 (by kernel_rfl) (by kernel_rfl) (by kernel_rfl) (kc (by kernel_rfl) h)
def l209 : Nat → List Nat
  | 2 => [0, 1, 7, 8]
  | _ => []
def g209 : Cfg := { N := 19, live := l209, cut := nof, mu := nof, ret := rets }
def c209 : Code := bodyOf Tryz.f209
def q209_0 (n : Nat) (Post : PT) : AQ := endQ prog (resultsOf Tryz.f209) Post
def q209_1 (n : Nat) (Post : PT) : AQ := seqQ (fun s' H' => awp prog g209 n (codeSnd (codeSnd c209)) s' H' (q209_0 n Post)) (q209_0 n Post)
def q209_2 (n : Nat) (Post : PT) : AQ := blockQ 0 (q209_1 n Post)
def c209_2 : Code := codeFst (codeSnd (codeFst (codeSnd c209)))
theorem s209 : ∀ (o : List (List UInt8)) (s : List UInt8) (Post : PT),
  AWP prog 19 0 c209_2 [(0, T.aL o), (1, T.sB s), (7, .int .i64 o.length), (8, .int .i64 0)] [] (q209_2 0 Post) → ASpec prog 209 [T.aL o, T.sB s] [] Post := fun o s Post h => ASpec.of_vc g209 Tryz.func209 (by kernel_rfl) (by kernel_rfl) (by kernel_rfl) (kc (by kernel_rfl) h)
theorem v209_2 : ∀ (o : List (List UInt8)) (s : List UInt8) (n i : Int) (n_1 : Nat) (Post : PT),
  condP (decide (i < n)) (needP (0 ≤ i ∧ i < (↑o.length : Int)) (condP (ByteArray.toList ⟨s.toArray⟩ == ByteArray.toList ⟨(o.getD i.toNat []).toArray⟩) (Post (.int .i64 i) []) (AWP prog 19 n_1 c209_2 [(0, T.aL o), (1, T.sB s), (7, .int .i64 n), (8, .int .i64 (IntKind.wrap .i64 (i + (1 : Int))))] [] (q209_2 n_1 Post)))) (Post (.int .i64 (-1)) []) → AWP prog 19 n_1 c209_2 [(0, T.aL o), (1, T.sB s), (7, .int .i64 n), (8, .int .i64 i)] [] (q209_2 n_1 Post) := fun o s n i n Post h => AWP.loop' g209 (Cfg.live g209) c209_2 (by kernel_rfl) (by kernel_rfl) (kc (by kernel_rfl) h)
end
end Wn
end

noncomputable section
open Go Go.Ab Go.Proofs
namespace T
def EB : Enc Bool := Enc.one (fun b => .bool b)
def seenM (o : List (List UInt8)) : List (ByteArray × Bool) := o.map fun x => (⟨x.toArray⟩, true)
end T
end

noncomputable section
open Go Go.Ab Go.Proofs
open Go.Proofs.Tryz (prog)
namespace Rc
noncomputable section
def goneC (H : List AObj) (c : Nat) : List AObj := match H[c]? with
  | some (.cells [.sl _ _ (.tok k)]) => H.set k .gone
  | some (.cells [.msl _ k _ _]) => H.set k .gone
  | _ => H
def noteH (args : List AV) (H : List AObj) (x : List (List UInt8) × List (List UInt8)) : List AObj := match args with
  | [_, .ptr c1 _, .ptr c2 _, .ptr c3 _] => match H[c1]? with
    | some (.cells [.map q]) => ((((goneC (goneC H c2) c3).set q (.mp (.typed T.EB (T.seenM x.2)))).set c2 (.cells [.sl 1 (.map T.encL [] x.1) (.tok H.length)])).set c3 (.cells [.msl 1 (H.length + 1) 0 x.2.length])) ++ [.tok, .arr 1 (.map T.encL [] x.2)]
    | _ => H
  | _ => H
def addH (args : List AV) (H : List AObj) (o : AObj) : List AObj := match args with
  | .msl _ id _ _ :: _ => H.set id o
  | _ => H
def goneA (args : List AV) (H : List AObj) : List AObj := addH args H .gone
def retRc : List (Nat × Ret) := [
  (129, ⟨Unit, fun _ _ _ => .tup [], fun _ H _ => H⟩), (129, ⟨List (List UInt8) × List (List UInt8), fun _ _ _ => .tup [], noteH⟩),
  (130, ⟨List (List UInt8), fun _ _ x => T.aL x, fun _ H _ => H⟩),
  (131, ⟨Unit, fun _ _ _ => .tup [], fun _ H _ => H⟩), (131, ⟨List (List UInt8), fun _ _ _ => .tup [], fun a H x => addH a H (.arr 1 (.map T.encL [] x))⟩),
  (88, ⟨Unit, fun _ _ _ => .sl 0 (.raw []) .nil, fun _ H _ => H⟩),
  (88, ⟨List (List UInt8), fun _ H x => .msl 1 H.length 0 x.length, fun _ H x => H ++ [.arr 1 (.map T.encL [] x)]⟩),
  (128, ⟨Int, fun _ _ x => .int .i64 x, fun _ H _ => H⟩),
  (87, ⟨List (List UInt8), fun _ _ x => T.aL x, fun a H _ => goneA a H⟩),
  (38, ⟨List (List UInt8), fun _ _ x => T.aL x, fun _ H _ => H⟩),
  (9019, ⟨Bool, fun _ _ x => .bool x, fun _ H _ => H⟩)]
def rets : FuncId → List Ret := fun f => match lookupR retRc f with
  | [] => X.rets f
  | l => l
def g16 : Cfg := { N := 35, live := nol, cut := nof, mu := nof, ret := rets }
theorem s16 : ∀ (s : ByteArray) (Post : PT),
  (ASpec prog 15 [.nilp, AV.str s] [AObj.cells [.str ⟨#[]⟩, .sl 0 (.raw []) .nil], .cells [.str s, AV.sl 0 (.raw []) .nil]] fun r H' => ∃ (x : Bool), r = AV.bool x ∧ H' = [AObj.cells [.str ⟨#[]⟩, .sl 0 (.raw []) .nil], .cells [.str s, AV.sl 0 (.raw []) .nil]] ∧ condP (!x) (Post (.tup [.agg [.str s, AV.sl 0 (.raw []) .nil], .bool false]) [AObj.cells [.str s, AV.sl 0 (.raw []) .nil], .cells [.str s, AV.sl 0 (.raw []) .nil]]) False) → ASpec prog 16 [.nilp, AV.str s] [] Post := fun s Post h => ASpec.of_vc g16 Tryz.func16 (by kernel_rfl) (by kernel_rfl) (by kernel_rfl) (kc (by kernel_rfl) h)
def g15 : Cfg := { N := 19, live := nol, cut := nof, mu := nof, ret := rets }
theorem s15 : ∀ (s : ByteArray) (Post : PT), Post (.bool false) [] → ASpec prog 15 [.nilp, AV.str s] [] Post := fun s Post h => ASpec.of_vc g15 Tryz.func15 (by kernel_rfl) (by kernel_rfl) (by kernel_rfl) (kc (by kernel_rfl) h)
def l130 : Nat → List Nat
  | 4 => [3, 4, 11, 12, 13]
  | 7 => [3, 4, 11, 12, 13, 18, 19, 20]
  | _ => []
def m130 : Nat → Bool
  | 36 => true
  | _ => false
def g130 : Cfg := { N := 42, live := l130, cut := nof, mu := m130, ret := rets }
def c130 : Code := bodyOf Tryz.f130
def q130_0 (n : Nat) (Post : PT) : AQ := endQ prog (resultsOf Tryz.f130) Post
def q130_1 (n : Nat) (Post : PT) : AQ := seqQ (fun s' H' => awp prog g130 n (codeSnd (codeSnd (codeSnd (codeSnd c130)))) s' H' (q130_0 n Post)) (q130_0 n Post)
def q130_2 (n : Nat) (Post : PT) : AQ := blockQ 0 (q130_1 n Post)
def c130_4 : Code := codeFst (codeSnd (codeFst (codeSnd (codeSnd (codeSnd c130)))))
theorem s130 : ∀ (m : T.Mani) (Post : PT),
  AWP prog 42 0 c130_4 [(3, .map 1), (4, .sl 0 (.raw []) .nil), (11, T.aR m.2), (12, .int .i64 m.2.length), (13, .int .i64 0)] [AObj.cells [T.sB m.1, T.aR m.2], .mp MM.nil] (q130_2 0 Post) → ASpec prog 130 [.agg (T.encM m)] [] Post := fun m Post h => ASpec.of_vc g130 Tryz.func130 (by kernel_rfl) (by kernel_rfl) (by kernel_rfl) (kc (by kernel_rfl) h)
def q130_3 (n : Nat) (Post : PT) : AQ := loopQ prog 42 n c130_4 (q130_2 n Post) (Cfg.live g130)
def q130_4 (n : Nat) (Post : PT) : AQ := seqQ (fun s' H' => awp prog g130 n (codeSnd (codeSnd (codeSnd (codeFst c130_4)))) s' H' (q130_3 n Post)) (q130_3 n Post)
def q130_5 (n : Nat) (Post : PT) : AQ := blockQ 1 (q130_4 n Post)
def q130_6 (n : Nat) (Post : PT) : AQ := blockQ 2 (q130_5 n Post)
def c130_7 : Code := codeFst (codeSnd (codeSnd (codeFst (codeFst (codeSnd (codeSnd (codeFst c130_4)))))))
theorem v130_4n : ∀ (es : List (ByteArray × Bool)) (rs : List T.Rel) (n i : Int) (n_1 : Nat) (Post : PT),
  condP (decide (i < n)) (needP (0 ≤ i ∧ i < (↑rs.length : Int)) (AWP prog 42 n_1 c130_7 [(3, .map 0), (4, .sl 0 (.raw []) .nil), (11, T.aR rs), (12, .int .i64 n), (13, .int .i64 i), (18, .sl 2 (.map T.encN ([], []) (rs.getD i.toNat ((0 : Int), [])).2) .none), (19, .int .i64 (↑(List.length (rs.getD i.toNat ((0 : Int), [])).2) : Int)), (20, .int .i64 0)] [AObj.mp (.typed T.EB es), .cells [.int .i64 (rs.getD i.toNat ((0 : Int), [])).1, .sl 2 (.map T.encN ([], []) (rs.getD i.toNat ((0 : Int), [])).2) .none]] (q130_6 n_1 Post))) (ASpec prog 131 [.sl 0 (.raw []) .nil] [AObj.mp (.typed T.EB es)] fun r H' => (∃ (x : Unit), r = AV.tup [] ∧ H' = [AObj.mp (.typed T.EB es)] ∧ Post (.sl 0 (.raw []) .nil) [AObj.mp (.typed T.EB es)]) ∨ ∃ (x : List (List UInt8)), r = AV.tup [] ∧ H' = [AObj.mp (.typed T.EB es)] ∧ Post (.sl 0 (.raw []) .nil) [AObj.mp (.typed T.EB es)]) → AWP prog 42 n_1 c130_4 [(3, .map 0), (4, .sl 0 (.raw []) .nil), (11, T.aR rs), (12, .int .i64 n), (13, .int .i64 i)] [AObj.mp (.typed T.EB es)] (q130_2 n_1 Post) := fun es rs n i n Post h => AWP.loop' g130 (Cfg.live g130) c130_4 (by kernel_rfl) (by kernel_rfl) (kc (by kernel_rfl) h)
theorem v130_4m : ∀ (es : List (ByteArray × Bool)) (rs : List T.Rel) (o : List (List UInt8)) (n i : Int) (n_1 : Nat) (Post : PT),
  condP (decide (i < n)) (needP (0 ≤ i ∧ i < (↑rs.length : Int)) (AWP prog 42 n_1 c130_7 [(3, .map 0), (4, .msl 1 1 0 o.length), (11, T.aR rs), (12, .int .i64 n), (13, .int .i64 i), (18, .sl 2 (.map T.encN ([], []) (rs.getD i.toNat ((0 : Int), [])).2) .none), (19, .int .i64 (↑(List.length (rs.getD i.toNat ((0 : Int), [])).2) : Int)), (20, .int .i64 0)] [AObj.mp (.typed T.EB es), .arr 1 (.map T.encL [] o), .cells [.int .i64 (rs.getD i.toNat ((0 : Int), [])).1, .sl 2 (.map T.encN ([], []) (rs.getD i.toNat ((0 : Int), [])).2) .none]] (q130_6 n_1 Post))) (ASpec prog 131 [.msl 1 1 0 o.length] [AObj.mp (.typed T.EB es), .arr 1 (.map T.encL [] o)] fun r H' => (∃ (x : Unit), r = AV.tup [] ∧ H' = [AObj.mp (.typed T.EB es), .arr 1 (.map T.encL [] o)] ∧ Post (.msl 1 1 0 o.length) [AObj.mp (.typed T.EB es), .arr 1 (.map T.encL [] o)]) ∨ ∃ (x : List (List UInt8)), r = AV.tup [] ∧ H' = [AObj.mp (.typed T.EB es), .arr 1 (.map T.encL [] x)] ∧ Post (.msl 1 1 0 o.length) [AObj.mp (.typed T.EB es), .arr 1 (.map T.encL [] x)]) → AWP prog 42 n_1 c130_4 [(3, .map 0), (4, .msl 1 1 0 o.length), (11, T.aR rs), (12, .int .i64 n), (13, .int .i64 i)] [AObj.mp (.typed T.EB es), .arr 1 (.map T.encL [] o)] (q130_2 n_1 Post) := fun es rs o n i n Post h => AWP.loop' g130 (Cfg.live g130) c130_4 (by kernel_rfl) (by kernel_rfl) (kc (by kernel_rfl) h)
theorem v130_7n : ∀ (es : List (ByteArray × Bool)) (rs : List T.Rel) (ns : List T.Need) (n i n2 i2 : Int) (n_1 : Nat) (Post : PT),
  condP (decide (i2 < n2)) (needP (0 ≤ i2 ∧ i2 < (↑ns.length : Int)) (optionP (findM es ⟨(ns.getD i2.toNat ([], [])).1.toArray⟩) (fun (x : Bool) => condP (!x) (needP (16 ≤ 140737488351232) (needP (1 ≤ 1) (AWP prog 42 n_1 c130_7 [(3, .map 0), (4, .msl 1 2 0 1), (11, T.aR rs), (12, .int .i64 n), (13, .int .i64 i), (18, T.aN ns), (19, .int .i64 n2), (20, .int .i64 (IntKind.wrap .i64 (i2 + (1 : Int))))] [AObj.mp (MM.put (MM.typed T.EB es) ⟨(ns.getD i2.toNat ([], [])).1.toArray⟩ (AV.bool true)), .cells [.str ⟨(ns.getD i2.toNat ([], [])).1.toArray⟩, .sl 2 (.map T.encS (0, 0) (ns.getD i2.toNat ([], [])).2) .none], .arr 1 (.raw [[.str ⟨(ns.getD i2.toNat ([], [])).1.toArray⟩]])] (q130_6 n_1 Post)))) (AWP prog 42 n_1 c130_7 [(3, .map 0), (4, .sl 0 (.raw []) .nil), (11, T.aR rs), (12, .int .i64 n), (13, .int .i64 i), (18, T.aN ns), (19, .int .i64 n2), (20, .int .i64 (IntKind.wrap .i64 (i2 + (1 : Int))))] [AObj.mp (.typed T.EB es), .cells [.str ⟨(ns.getD i2.toNat ([], [])).1.toArray⟩, .sl 2 (.map T.encS (0, 0) (ns.getD i2.toNat ([], [])).2) .none]] (q130_6 n_1 Post))) (needP (16 ≤ 140737488351232) (needP (1 ≤ 1) (AWP prog 42 n_1 c130_7 [(3, .map 0), (4, .msl 1 2 0 1), (11, T.aR rs), (12, .int .i64 n), (13, .int .i64 i), (18, T.aN ns), (19, .int .i64 n2), (20, .int .i64 (IntKind.wrap .i64 (i2 + (1 : Int))))] [AObj.mp (MM.put (MM.typed T.EB es) ⟨(ns.getD i2.toNat ([], [])).1.toArray⟩ (AV.bool true)), .cells [.str ⟨(ns.getD i2.toNat ([], [])).1.toArray⟩, .sl 2 (.map T.encS (0, 0) (ns.getD i2.toNat ([], [])).2) .none], .arr 1 (.raw [[.str ⟨(ns.getD i2.toNat ([], [])).1.toArray⟩]])] (q130_6 n_1 Post)))))) (AWP prog 42 n_1 c130_4 [(3, .map 0), (4, .sl 0 (.raw []) .nil), (11, T.aR rs), (12, .int .i64 n), (13, .int .i64 (IntKind.wrap .i64 (i + (1 : Int))))] [AObj.mp (.typed T.EB es)] (q130_2 n_1 Post)) → AWP prog 42 n_1 c130_7 [(3, .map 0), (4, .sl 0 (.raw []) .nil), (11, T.aR rs), (12, .int .i64 n), (13, .int .i64 i), (18, T.aN ns), (19, .int .i64 n2), (20, .int .i64 i2)] [AObj.mp (.typed T.EB es)] (q130_6 n_1 Post) := fun es rs ns n i n2 i2 n Post h => AWP.loop' g130 (Cfg.live g130) c130_7 (by kernel_rfl) (by kernel_rfl) (kc (by kernel_rfl) h)
theorem v130_7m : ∀ (es : List (ByteArray × Bool)) (rs : List T.Rel) (ns : List T.Need) (o : List (List UInt8)) (n i n2 i2 : Int) (n_1 : Nat) (Post : PT),
  condP (decide (i2 < n2)) (needP (0 ≤ i2 ∧ i2 < (↑ns.length : Int)) (optionP (findM es ⟨(ns.getD i2.toNat ([], [])).1.toArray⟩) (fun (x : Bool) => condP (!x) (needP (List.length o = List.length o ∧ (List.length o + 1) * 16 ≤ 140737488351232) (AWP prog 42 n_1 c130_7 [(3, .map 0), (4, .msl 1 3 0 (List.length o + 1)), (11, T.aR rs), (12, .int .i64 n), (13, .int .i64 i), (18, T.aN ns), (19, .int .i64 n2), (20, .int .i64 (IntKind.wrap .i64 (i2 + (1 : Int))))] [AObj.mp (MM.put (MM.typed T.EB es) ⟨(ns.getD i2.toNat ([], [])).1.toArray⟩ (AV.bool true)), .gone, .cells [.str ⟨(ns.getD i2.toNat ([], [])).1.toArray⟩, .sl 2 (.map T.encS (0, 0) (ns.getD i2.toNat ([], [])).2) .none], .arr 1 (.app (.map T.encL [] o) (.raw [[.str ⟨(ns.getD i2.toNat ([], [])).1.toArray⟩]]))] (q130_6 n_1 Post))) (AWP prog 42 n_1 c130_7 [(3, .map 0), (4, .msl 1 1 0 o.length), (11, T.aR rs), (12, .int .i64 n), (13, .int .i64 i), (18, T.aN ns), (19, .int .i64 n2), (20, .int .i64 (IntKind.wrap .i64 (i2 + (1 : Int))))] [AObj.mp (.typed T.EB es), .arr 1 (.map T.encL [] o), .cells [.str ⟨(ns.getD i2.toNat ([], [])).1.toArray⟩, .sl 2 (.map T.encS (0, 0) (ns.getD i2.toNat ([], [])).2) .none]] (q130_6 n_1 Post))) (needP (List.length o = List.length o ∧ (List.length o + 1) * 16 ≤ 140737488351232) (AWP prog 42 n_1 c130_7 [(3, .map 0), (4, .msl 1 3 0 (List.length o + 1)), (11, T.aR rs), (12, .int .i64 n), (13, .int .i64 i), (18, T.aN ns), (19, .int .i64 n2), (20, .int .i64 (IntKind.wrap .i64 (i2 + (1 : Int))))] [AObj.mp (MM.put (MM.typed T.EB es) ⟨(ns.getD i2.toNat ([], [])).1.toArray⟩ (AV.bool true)), .gone, .cells [.str ⟨(ns.getD i2.toNat ([], [])).1.toArray⟩, .sl 2 (.map T.encS (0, 0) (ns.getD i2.toNat ([], [])).2) .none], .arr 1 (.app (.map T.encL [] o) (.raw [[.str ⟨(ns.getD i2.toNat ([], [])).1.toArray⟩]]))] (q130_6 n_1 Post))))) (AWP prog 42 n_1 c130_4 [(3, .map 0), (4, .msl 1 1 0 o.length), (11, T.aR rs), (12, .int .i64 n), (13, .int .i64 (IntKind.wrap .i64 (i + (1 : Int))))] [AObj.mp (.typed T.EB es), .arr 1 (.map T.encL [] o)] (q130_2 n_1 Post)) → AWP prog 42 n_1 c130_7 [(3, .map 0), (4, .msl 1 1 0 o.length), (11, T.aR rs), (12, .int .i64 n), (13, .int .i64 i), (18, T.aN ns), (19, .int .i64 n2), (20, .int .i64 i2)] [AObj.mp (.typed T.EB es), .arr 1 (.map T.encL [] o)] (q130_6 n_1 Post) := fun es rs ns o n i n2 i2 n Post h => AWP.loop' g130 (Cfg.live g130) c130_7 (by kernel_rfl) (by kernel_rfl) (kc (by kernel_rfl) h)
def m129 : Nat → Bool
  | 18 => true
  | _ => false
def g129 : Cfg := { N := 19, live := nol, cut := nof, mu := m129, ret := rets }
abbrev hps129a0 (es : List (ByteArray × Bool)) (x : List UInt8) (t : List (List UInt8)) : List AObj := [AObj.mp (MM.put (MM.typed T.EB es) ⟨x.toArray⟩ (AV.bool true)), .cells [AV.map 0], .cells [AV.sl 1 (.map T.encL [] t) (.tok 4)], .cells [.sl 0 (.raw []) .nil], .gone, .tok]
abbrev hps129a1 (es : List (ByteArray × Bool)) (x : List UInt8) (t : List (List UInt8)) : List AObj := [AObj.mp (MM.put (MM.typed T.EB es) ⟨x.toArray⟩ (AV.bool true)), .cells [AV.map 0], .cells [AV.sl 1 (.app (.map T.encL [] t) (.raw [[T.sB x]])) (.tok 5)], .cells [AV.msl 1 6 0 1], .gone, .tok, .arr 1 (.raw [[T.sB x]])]
theorem s129a : ∀ (es : List (ByteArray × Bool)) (t : List (List UInt8)) (x : List UInt8) (Post : PT),
  optionP (findM es ⟨x.toArray⟩) (fun (x_1 : Bool) => condP (!x_1) (needP ((List.length t + 1) * 16 ≤ 140737488351232) ((AV.sl 0 (.raw []) .nil = AV.sl 0 (.raw []) .nil ∧ (hps129a0 es x t) = (hps129a0 es x t)) ∧ needP (16 ≤ 140737488351232) (needP (1 ≤ 1) (Post (.tup []) (hps129a1 es x t))))) (Post (.tup []) [AObj.mp (.typed T.EB es), .cells [.map 0], .cells [.sl 1 (.map T.encL [] t) (.tok 4)], .cells [.sl 0 (.raw []) .nil], .tok])) (needP ((List.length t + 1) * 16 ≤ 140737488351232) ((AV.sl 0 (.raw []) .nil = AV.sl 0 (.raw []) .nil ∧ (hps129a0 es x t) = (hps129a0 es x t)) ∧ needP (16 ≤ 140737488351232) (needP (1 ≤ 1) (Post (.tup []) (hps129a1 es x t))))) → ASpec prog 129 [T.sB x, .ptr 1 0, .ptr 2 0, .ptr 3 0] [AObj.mp (.typed T.EB es), .cells [.map 0], .cells [.sl 1 (.map T.encL [] t) (.tok 4)], .cells [.sl 0 (.raw []) .nil], .tok] Post := fun es t x Post h => ASpec.of_vc g129 Tryz.func129 (by kernel_rfl) (by kernel_rfl) (by kernel_rfl) (kc (by kernel_rfl) h)
abbrev hps129b0 (es : List (ByteArray × Bool)) (x : List UInt8) (t : List (List UInt8)) (o : List (List UInt8)) : List AObj := [AObj.mp (MM.put (MM.typed T.EB es) ⟨x.toArray⟩ (AV.bool true)), .cells [AV.map 0], .cells [AV.sl 1 (.map T.encL [] t) (.tok 4)], .cells [.msl 1 5 0 o.length], .gone, .arr 1 (.map T.encL [] o), .tok]
abbrev hps129b1 (es : List (ByteArray × Bool)) (x : List UInt8) (t : List (List UInt8)) (o : List (List UInt8)) : List AObj := [AObj.mp (MM.put (MM.typed T.EB es) ⟨x.toArray⟩ (AV.bool true)), .cells [AV.map 0], .cells [AV.sl 1 (.app (.map T.encL [] t) (.raw [[T.sB x]])) (.tok 6)], .cells [AV.msl 1 7 0 (List.length o + 1)], .gone, .gone, .tok, .arr 1 (.app (.map T.encL [] o) (.raw [[T.sB x]]))]
theorem s129b : ∀ (es : List (ByteArray × Bool)) (t o : List (List UInt8)) (x : List UInt8) (Post : PT),
  optionP (findM es ⟨x.toArray⟩) (fun (x_1 : Bool) => condP (!x_1) (needP ((List.length t + 1) * 16 ≤ 140737488351232) ((AV.msl 1 5 0 o.length = AV.msl 1 5 0 o.length ∧ (hps129b0 es x t o) = (hps129b0 es x t o)) ∧ needP (List.length o = List.length o ∧ (List.length o + 1) * 16 ≤ 140737488351232) (Post (.tup []) (hps129b1 es x t o)))) (Post (.tup []) [AObj.mp (.typed T.EB es), .cells [.map 0], .cells [.sl 1 (.map T.encL [] t) (.tok 4)], .cells [.msl 1 5 0 o.length], .tok, .arr 1 (.map T.encL [] o)])) (needP ((List.length t + 1) * 16 ≤ 140737488351232) ((AV.msl 1 5 0 o.length = AV.msl 1 5 0 o.length ∧ (hps129b0 es x t o) = (hps129b0 es x t o)) ∧ needP (List.length o = List.length o ∧ (List.length o + 1) * 16 ≤ 140737488351232) (Post (.tup []) (hps129b1 es x t o)))) → ASpec prog 129 [T.sB x, .ptr 1 0, .ptr 2 0, .ptr 3 0] [AObj.mp (.typed T.EB es), .cells [.map 0], .cells [.sl 1 (.map T.encL [] t) (.tok 4)], .cells [.msl 1 5 0 o.length], .tok, .arr 1 (.map T.encL [] o)] Post := fun es t o x Post h => ASpec.of_vc g129 Tryz.func129 (by kernel_rfl) (by kernel_rfl) (by kernel_rfl) (kc (by kernel_rfl) h)
def l88 : Nat → List Nat
  | 5 => [0, 6, 7, 8, 18, 19, 20]
  | 9 => [0, 6, 7, 8]
  | 14 => [0, 6, 7, 8, 48, 49, 50]
  | _ => []
def g88 : Cfg := { N := 61, live := l88, cut := nof, mu := nof, ret := rets }
def c88 : Code := bodyOf Tryz.f88
def q88_0 (n : Nat) (Post : PT) : AQ := endQ prog (resultsOf Tryz.f88) Post
def q88_1 (n : Nat) (Post : PT) : AQ := seqQ (fun s' H' => awp prog g88 n (codeSnd (codeSnd (codeSnd (codeSnd (codeSnd c88))))) s' H' (q88_0 n Post)) (q88_0 n Post)
def q88_2 (n : Nat) (Post : PT) : AQ := blockQ 0 (q88_1 n Post)
def c88_5 : Code := codeFst (codeSnd (codeFst (codeSnd (codeSnd (codeSnd (codeSnd c88))))))
theorem s88 : ∀ (x : AV) (es : T.Kn) (root : List T.Need) (Post : PT),
  AWP prog 61 2 c88_5 [(0, x), (6, .ptr 4 0), (7, .ptr 5 0), (8, .fn 129 [.ptr 3 0, .ptr 4 0, .ptr 5 0]), (18, T.aN root), (19, .int .i64 root.length), (20, .int .i64 0)] [T.mX es, T.m0, .mp MM.nil, .cells [.map 2], .cells [.sl 0 (.raw []) .nil], .cells [.sl 0 (.raw []) .nil]] (q88_2 2 Post) → ASpec prog 88 [x, T.aN root] (T.HX es) Post := fun x es root Post h => ASpec.of_vc g88 Tryz.func88 (by kernel_rfl) (by kernel_rfl) (by kernel_rfl) (kc (by kernel_rfl) h)
def q88_3 (n : Nat) (Post : PT) : AQ := seqQ (fun s' H' => awp prog g88 n (codeSnd (codeSnd (codeSnd (codeSnd (codeSnd (codeSnd c88)))))) s' H' (q88_0 n Post)) (q88_0 n Post)
def q88_4 (n : Nat) (Post : PT) : AQ := blockQ 2 (q88_3 n Post)
def c88_9 : Code := codeFst (codeFst (codeSnd (codeSnd (codeSnd (codeSnd (codeSnd c88))))))
theorem v88_5a : ∀ (x : AV) (es : T.Kn) (root : List T.Need) (n i : Int) (n_1 : Nat) (Post : PT),
  condP (decide (i < n)) (needP (0 ≤ i ∧ i < (↑root.length : Int)) (ASpec prog 129 [AV.str ⟨(root.getD i.toNat ([], [])).1.toArray⟩, .ptr 3 0, .ptr 4 0, .ptr 5 0] [T.mX es, T.m0, .mp (.typed T.EB []), .cells [.map 2], .cells [.sl 1 (.map T.encL [] []) (.tok 6)], .cells [.sl 0 (.raw []) .nil], .tok, .cells [.str ⟨(root.getD i.toNat ([], [])).1.toArray⟩, .sl 2 (.map T.encS (0, 0) (root.getD i.toNat ([], [])).2) .none]] fun r H' => (∃ (x_1 : Unit), r = AV.tup [] ∧ H' = [T.mX es, T.m0, .mp (.typed T.EB []), .cells [.map 2], .cells [.sl 1 (.map T.encL [] []) (.tok 6)], .cells [.sl 0 (.raw []) .nil], .tok, .cells [.str ⟨(root.getD i.toNat ([], [])).1.toArray⟩, .sl 2 (.map T.encS (0, 0) (root.getD i.toNat ([], [])).2) .none]] ∧ AWP prog 61 n_1 c88_5 [(0, x), (6, .ptr 4 0), (7, .ptr 5 0), (8, .fn (129 : FuncId) [.ptr 3 0, .ptr 4 0, .ptr 5 0]), (18, T.aN root), (19, .int .i64 n), (20, .int .i64 (IntKind.wrap .i64 (i + (1 : Int))))] [T.mX es, T.m0, .mp (.typed T.EB []), .cells [.map 2], .cells [.sl 1 (.map T.encL [] []) (.tok 6)], .cells [.sl 0 (.raw []) .nil], .tok, .cells [.str ⟨(root.getD i.toNat ([], [])).1.toArray⟩, .sl 2 (.map T.encS (0, 0) (root.getD i.toNat ([], [])).2) .none]] (q88_2 n_1 Post)) ∨ ∃ (x_1 : List (List UInt8) × List (List UInt8)), r = AV.tup [] ∧ H' = [T.mX es, T.m0, .mp (.typed T.EB (T.seenM x_1.2)), .cells [.map 2], .cells [.sl 1 (.map T.encL [] x_1.1) (.tok 8)], .cells [.msl 1 9 0 x_1.2.length], .gone, .cells [AV.str ⟨(root.getD i.toNat ([], [])).1.toArray⟩, .sl 2 (.map T.encS (0, 0) (root.getD i.toNat ([], [])).2) .none], .tok, .arr 1 (.map T.encL [] x_1.2)] ∧ AWP prog 61 n_1 c88_5 [(0, x), (6, .ptr 4 0), (7, .ptr 5 0), (8, .fn (129 : FuncId) [.ptr 3 0, .ptr 4 0, .ptr 5 0]), (18, T.aN root), (19, .int .i64 n), (20, .int .i64 (IntKind.wrap .i64 (i + (1 : Int))))] [T.mX es, T.m0, .mp (.typed T.EB (T.seenM x_1.2)), .cells [.map 2], .cells [.sl 1 (.map T.encL [] x_1.1) (.tok 8)], .cells [.msl 1 9 0 x_1.2.length], .gone, .cells [AV.str ⟨(root.getD i.toNat ([], [])).1.toArray⟩, .sl 2 (.map T.encS (0, 0) (root.getD i.toNat ([], [])).2) .none], .tok, .arr 1 (.map T.encL [] x_1.2)] (q88_2 n_1 Post))) (AWP prog 61 n_1 c88_9 [(0, x), (6, .ptr 4 0), (7, .ptr 5 0), (8, .fn (129 : FuncId) [.ptr 3 0, .ptr 4 0, .ptr 5 0])] [T.mX es, T.m0, .mp (.typed T.EB []), .cells [.map 2], .cells [.sl 1 (.map T.encL [] []) (.tok 6)], .cells [.sl 0 (.raw []) .nil], .tok] (q88_4 n_1 Post)) → AWP prog 61 n_1 c88_5 [(0, x), (6, .ptr 4 0), (7, .ptr 5 0), (8, .fn (129 : FuncId) [.ptr 3 0, .ptr 4 0, .ptr 5 0]), (18, T.aN root), (19, .int .i64 n), (20, .int .i64 i)] [T.mX es, T.m0, .mp (.typed T.EB []), .cells [.map 2], .cells [.sl 1 (.map T.encL [] []) (.tok 6)], .cells [.sl 0 (.raw []) .nil], .tok] (q88_2 n_1 Post) := fun x es root n i n Post h => AWP.loop' g88 (Cfg.live g88) c88_5 (by kernel_rfl) (by kernel_rfl) (kc (by kernel_rfl) h)
theorem v88_5b : ∀ (x : AV) (es : T.Kn) (root : List T.Need) (t o : List (List UInt8)) (n i : Int) (n_1 : Nat) (Post : PT),
  condP (decide (i < n)) (needP (0 ≤ i ∧ i < (↑root.length : Int)) (ASpec prog 129 [AV.str ⟨(root.getD i.toNat ([], [])).1.toArray⟩, .ptr 3 0, .ptr 4 0, .ptr 5 0] [T.mX es, T.m0, .mp (.typed T.EB (T.seenM o)), .cells [.map 2], .cells [.sl 1 (.map T.encL [] t) (.tok 6)], .cells [.msl 1 7 0 o.length], .tok, .arr 1 (.map T.encL [] o), .cells [.str ⟨(root.getD i.toNat ([], [])).1.toArray⟩, .sl 2 (.map T.encS (0, 0) (root.getD i.toNat ([], [])).2) .none]] fun r H' => (∃ (x_1 : Unit), r = AV.tup [] ∧ H' = [T.mX es, T.m0, .mp (.typed T.EB (T.seenM o)), .cells [.map 2], .cells [.sl 1 (.map T.encL [] t) (.tok 6)], .cells [.msl 1 7 0 o.length], .tok, .arr 1 (.map T.encL [] o), .cells [.str ⟨(root.getD i.toNat ([], [])).1.toArray⟩, .sl 2 (.map T.encS (0, 0) (root.getD i.toNat ([], [])).2) .none]] ∧ AWP prog 61 n_1 c88_5 [(0, x), (6, .ptr 4 0), (7, .ptr 5 0), (8, .fn (129 : FuncId) [.ptr 3 0, .ptr 4 0, .ptr 5 0]), (18, T.aN root), (19, .int .i64 n), (20, .int .i64 (IntKind.wrap .i64 (i + (1 : Int))))] [T.mX es, T.m0, .mp (.typed T.EB (T.seenM o)), .cells [.map 2], .cells [.sl 1 (.map T.encL [] t) (.tok 6)], .cells [.msl 1 7 0 o.length], .tok, .arr 1 (.map T.encL [] o), .cells [.str ⟨(root.getD i.toNat ([], [])).1.toArray⟩, .sl 2 (.map T.encS (0, 0) (root.getD i.toNat ([], [])).2) .none]] (q88_2 n_1 Post)) ∨ ∃ (x_1 : List (List UInt8) × List (List UInt8)), r = AV.tup [] ∧ H' = [T.mX es, T.m0, .mp (.typed T.EB (T.seenM x_1.2)), .cells [.map 2], .cells [.sl 1 (.map T.encL [] x_1.1) (.tok 9)], .cells [.msl 1 10 0 x_1.2.length], .gone, .gone, .cells [.str ⟨(root.getD i.toNat ([], [])).1.toArray⟩, .sl 2 (.map T.encS (0, 0) (root.getD i.toNat ([], [])).2) .none], .tok, .arr 1 (.map T.encL [] x_1.2)] ∧ AWP prog 61 n_1 c88_5 [(0, x), (6, .ptr 4 0), (7, .ptr 5 0), (8, .fn (129 : FuncId) [.ptr 3 0, .ptr 4 0, .ptr 5 0]), (18, T.aN root), (19, .int .i64 n), (20, .int .i64 (IntKind.wrap .i64 (i + (1 : Int))))] [T.mX es, T.m0, .mp (.typed T.EB (T.seenM x_1.2)), .cells [.map 2], .cells [.sl 1 (.map T.encL [] x_1.1) (.tok 9)], .cells [.msl 1 10 0 x_1.2.length], .gone, .gone, .cells [.str ⟨(root.getD i.toNat ([], [])).1.toArray⟩, .sl 2 (.map T.encS (0, 0) (root.getD i.toNat ([], [])).2) .none], .tok, .arr 1 (.map T.encL [] x_1.2)] (q88_2 n_1 Post))) (AWP prog 61 n_1 c88_9 [(0, x), (6, .ptr 4 0), (7, .ptr 5 0), (8, .fn (129 : FuncId) [.ptr 3 0, .ptr 4 0, .ptr 5 0])] [T.mX es, T.m0, .mp (.typed T.EB (T.seenM o)), .cells [.map 2], .cells [.sl 1 (.map T.encL [] t) (.tok 6)], .cells [.msl 1 7 0 o.length], .tok, .arr 1 (.map T.encL [] o)] (q88_4 n_1 Post)) → AWP prog 61 n_1 c88_5 [(0, x), (6, .ptr 4 0), (7, .ptr 5 0), (8, .fn (129 : FuncId) [.ptr 3 0, .ptr 4 0, .ptr 5 0]), (18, T.aN root), (19, .int .i64 n), (20, .int .i64 i)] [T.mX es, T.m0, .mp (.typed T.EB (T.seenM o)), .cells [.map 2], .cells [.sl 1 (.map T.encL [] t) (.tok 6)], .cells [.msl 1 7 0 o.length], .tok, .arr 1 (.map T.encL [] o)] (q88_2 n_1 Post) := fun x es root t o n i n Post h => AWP.loop' g88 (Cfg.live g88) c88_5 (by kernel_rfl) (by kernel_rfl) (kc (by kernel_rfl) h)
def q88_5 (n : Nat) (Post : PT) : AQ := loopQ prog 61 n c88_9 (q88_4 n Post) (Cfg.live g88)
theorem v88_9a : ∀ (x : AV) (es : T.Kn) (n : Nat) (Post : PT),
  (ASpec prog 131 [.sl 0 (.raw []) .nil] [T.mX es, T.m0, .mp (.typed T.EB []), .cells [.map 2], .cells [.sl 1 (.map T.encL [] []) (.tok 6)], .cells [.sl 0 (.raw []) .nil], .tok] fun r H' => (∃ (x : Unit), r = AV.tup [] ∧ H' = [T.mX es, T.m0, .mp (.typed T.EB []), .cells [.map 2], .cells [.sl 1 (.map T.encL [] []) (.tok 6)], .cells [.sl 0 (.raw []) .nil], .tok] ∧ Post (.sl 0 (.raw []) .nil) [T.mX es, T.m0, .mp (.typed T.EB []), .cells [.map 2], .cells [.sl 1 (.map T.encL [] []) (.tok 6)], .cells [.sl 0 (.raw []) .nil], .tok]) ∨ ∃ (x : List (List UInt8)), r = AV.tup [] ∧ H' = [T.mX es, T.m0, .mp (.typed T.EB []), .cells [.map 2], .cells [.sl 1 (.map T.encL [] []) (.tok 6)], .cells [.sl 0 (.raw []) .nil], .tok] ∧ Post (.sl 0 (.raw []) .nil) [T.mX es, T.m0, .mp (.typed T.EB []), .cells [.map 2], .cells [.sl 1 (.map T.encL [] []) (.tok 6)], .cells [.sl 0 (.raw []) .nil], .tok]) → AWP prog 61 n c88_9 [(0, x), (6, .ptr 4 0), (7, .ptr 5 0), (8, .fn (129 : FuncId) [.ptr 3 0, .ptr 4 0, .ptr 5 0])] [T.mX es, T.m0, .mp (.typed T.EB []), .cells [.map 2], .cells [.sl 1 (.map T.encL [] []) (.tok 6)], .cells [.sl 0 (.raw []) .nil], .tok] (q88_4 n Post) := fun x es n Post h => AWP.loop' g88 (Cfg.live g88) c88_9 (by kernel_rfl) (by kernel_rfl) (kc (by kernel_rfl) h)
def q88_6 (n : Nat) (Post : PT) : AQ := blockQ 3 (q88_5 n Post)
def q88_7 (n : Nat) (Post : PT) : AQ := blockQ 4 (q88_6 n Post)
def c88_14 : Code := codeFst (codeSnd (codeSnd (codeSnd (codeSnd (codeFst (codeSnd (codeFst c88_9)))))))
abbrev hpv88_9b0 (es : T.Kn) (o : List (List UInt8)) (t : List (List UInt8)) : List AObj := [AObj.mp (.typed T.EK es), .cells [AV.map 0], .mp (.typed T.EB (T.seenM o)), .cells [.map 2], .cells [.sl 1 (.map T.encL [] t) (.tok 6)], .cells [.msl 1 7 0 o.length], .tok, .arr 1 (.map T.encL [] o)]
theorem v88_9b : ∀ (x : AV) (es : T.Kn) (t o : List (List UInt8)) (n : Nat) (Post : PT),
  condP (decide ((↑t.length : Int) > (0 : Int))) (needP ((0 : Int) ≤ (0 : Int) ∧ (0 : Int) < (↑t.length : Int)) (needP ((0 : Int) ≤ (1 : Int) ∧ (1 : Int) ≤ (↑t.length : Int) ∧ (↑t.length : Int) ≤ (↑t.length : Int) ∧ (↑t.length : Int) = (↑t.length : Int)) (ASpec prog 16 [ev [(43, .str ⟨(t.getD 0 []).toArray⟩), (42, ev [(40, .sl 1 (.map T.encL [] (List.drop 1 (List.take t.length t))) .full), (39, .int .i64 t.length), (38, .sl 1 (.map T.encL [] t) (.tok 6)), (37, .int .i64 t.length), (36, .sl 1 (.map T.encL [] t) (.tok 6)), (35, .sl 1 (.map T.encL [] t) (.tok 6)), (11, .str ⟨(t.getD 0 []).toArray⟩), (34, .str ⟨(t.getD 0 []).toArray⟩), (33, .iptr [AV.str ⟨(t.getD 0 []).toArray⟩] 0), (32, .sl 1 (.map T.encL [] t) (.tok 6)), (31, .bool (decide ((↑t.length : Int) > (0 : Int)))), (30, .int .i64 t.length), (29, .sl 1 (.map T.encL [] t) (.tok 6)), (0, x), (6, .ptr 4 0), (7, .ptr 5 0), (8, .fn (129 : FuncId) [.ptr 3 0, .ptr 4 0, .ptr 5 0])] (Operand.tmp 0)), (40, .sl 1 (.map T.encL [] (List.drop 1 (List.take t.length t))) .full), (39, .int .i64 t.length), (38, .sl 1 (.map T.encL [] t) (.tok 6)), (37, .int .i64 t.length), (36, .sl 1 (.map T.encL [] t) (.tok 6)), (35, .sl 1 (.map T.encL [] t) (.tok 6)), (11, .str ⟨(t.getD 0 []).toArray⟩), (34, .str ⟨(t.getD 0 []).toArray⟩), (33, .iptr [AV.str ⟨(t.getD 0 []).toArray⟩] 0), (32, .sl 1 (.map T.encL [] t) (.tok 6)), (31, .bool (decide ((↑t.length : Int) > (0 : Int)))), (30, .int .i64 t.length), (29, .sl 1 (.map T.encL [] t) (.tok 6)), (0, x), (6, .ptr 4 0), (7, .ptr 5 0), (8, .fn (129 : FuncId) [.ptr 3 0, .ptr 4 0, .ptr 5 0])] (Operand.tmp 42), AV.str ⟨(t.getD 0 []).toArray⟩] [AObj.mp (.typed T.EK es), .cells [AV.map 0], .mp (.typed T.EB (T.seenM o)), .cells [.map 2], .cells [.sl 1 (.map T.encL [] (List.drop 1 (List.take t.length t))) .full], .cells [AV.msl 1 7 0 o.length], .tok, .arr 1 (.map T.encL [] o)] fun r H' => ∃ (x_1 : T.Mani × Bool), r = AV.tup [.agg [T.sB x_1.1.1, T.aR x_1.1.2], .bool x_1.2] ∧ H' = [T.mX es, T.m0, .mp (.typed T.EB (T.seenM o)), .cells [.map 2], .cells [.sl 1 (.map T.encL [] (List.drop 1 (List.take t.length t))) .full], .cells [AV.msl 1 7 0 o.length], .tok, .arr 1 (.map T.encL [] o)] ∧ ASpec prog 130 [.agg [T.sB x_1.1.1, T.aR x_1.1.2]] [T.mX es, T.m0, .mp (.typed T.EB (T.seenM o)), .cells [.map 2], .cells [.sl 1 (.map T.encL [] (List.drop 1 (List.take t.length t))) .full], .cells [AV.msl 1 7 0 o.length], .tok, .arr 1 (.map T.encL [] o), .cells [T.sB x_1.1.1, T.aR x_1.1.2]] fun r H' => ∃ (x_2 : List (List UInt8)), r = T.aL x_2 ∧ H' = [T.mX es, T.m0, .mp (.typed T.EB (T.seenM o)), .cells [.map 2], .cells [.sl 1 (.map T.encL [] (List.drop 1 (List.take t.length t))) .full], .cells [AV.msl 1 7 0 o.length], .tok, .arr 1 (.map T.encL [] o), .cells [T.sB x_1.1.1, T.aR x_1.1.2]] ∧ AWP prog 61 n c88_14 [(0, x), (6, .ptr 4 0), (7, .ptr 5 0), (8, .fn (129 : FuncId) [.ptr 3 0, .ptr 4 0, .ptr 5 0]), (48, T.aL x_2), (49, .int .i64 x_2.length), (50, .int .i64 0)] [T.mX es, T.m0, .mp (.typed T.EB (T.seenM o)), .cells [.map 2], .cells [.sl 1 (.map T.encL [] (List.drop 1 (List.take t.length t))) .full], .cells [AV.msl 1 7 0 o.length], .tok, .arr 1 (.map T.encL [] o), .cells [T.sB x_1.1.1, T.aR x_1.1.2]] (q88_7 n Post)))) (ASpec prog 131 [.msl 1 7 0 o.length] (hpv88_9b0 es o t) fun r H' => (∃ (x : Unit), r = AV.tup [] ∧ H' = [T.mX es, T.m0, .mp (.typed T.EB (T.seenM o)), .cells [.map 2], .cells [.sl 1 (.map T.encL [] t) (.tok 6)], .cells [.msl 1 7 0 o.length], .tok, .arr 1 (.map T.encL [] o)] ∧ Post (.msl 1 7 0 o.length) (hpv88_9b0 es o t)) ∨ ∃ (x : List (List UInt8)), r = AV.tup [] ∧ H' = [T.mX es, T.m0, .mp (.typed T.EB (T.seenM o)), .cells [.map 2], .cells [.sl 1 (.map T.encL [] t) (.tok 6)], .cells [.msl 1 7 0 o.length], .tok, .arr 1 (.map T.encL [] x)] ∧ Post (.msl 1 7 0 o.length) [AObj.mp (.typed T.EK es), .cells [AV.map 0], .mp (.typed T.EB (T.seenM o)), .cells [.map 2], .cells [.sl 1 (.map T.encL [] t) (.tok 6)], .cells [.msl 1 7 0 o.length], .tok, .arr 1 (.map T.encL [] x)]) → AWP prog 61 n c88_9 [(0, x), (6, .ptr 4 0), (7, .ptr 5 0), (8, .fn (129 : FuncId) [.ptr 3 0, .ptr 4 0, .ptr 5 0])] [T.mX es, T.m0, .mp (.typed T.EB (T.seenM o)), .cells [.map 2], .cells [.sl 1 (.map T.encL [] t) (.tok 6)], .cells [.msl 1 7 0 o.length], .tok, .arr 1 (.map T.encL [] o)] (q88_4 n Post) := fun x es t o n Post h => AWP.loop' g88 (Cfg.live g88) c88_9 (by kernel_rfl) (by kernel_rfl) (kc (by kernel_rfl) h)
theorem v88_14b : ∀ (x : AV) (es : T.Kn) (t o s : List (List UInt8)) (n i : Int) (n_1 : Nat) (Post : PT),
  condP (decide (i < n)) (needP (0 ≤ i ∧ i < (↑s.length : Int)) (ASpec prog 129 [AV.str ⟨(s.getD i.toNat []).toArray⟩, .ptr 3 0, .ptr 4 0, .ptr 5 0] [T.mX es, T.m0, .mp (.typed T.EB (T.seenM o)), .cells [.map 2], .cells [.sl 1 (.map T.encL [] t) (.tok 6)], .cells [.msl 1 7 0 o.length], .tok, .arr 1 (.map T.encL [] o)] fun r H' => (∃ (x_1 : Unit), r = AV.tup [] ∧ H' = [T.mX es, T.m0, .mp (.typed T.EB (T.seenM o)), .cells [.map 2], .cells [.sl 1 (.map T.encL [] t) (.tok 6)], .cells [.msl 1 7 0 o.length], .tok, .arr 1 (.map T.encL [] o)] ∧ AWP prog 61 n_1 c88_14 [(0, x), (6, .ptr 4 0), (7, .ptr 5 0), (8, .fn (129 : FuncId) [.ptr 3 0, .ptr 4 0, .ptr 5 0]), (48, T.aL s), (49, .int .i64 n), (50, .int .i64 (IntKind.wrap .i64 (i + (1 : Int))))] [T.mX es, T.m0, .mp (.typed T.EB (T.seenM o)), .cells [.map 2], .cells [.sl 1 (.map T.encL [] t) (.tok 6)], .cells [.msl 1 7 0 o.length], .tok, .arr 1 (.map T.encL [] o)] (q88_7 n_1 Post)) ∨ ∃ (x_1 : List (List UInt8) × List (List UInt8)), r = AV.tup [] ∧ H' = [T.mX es, T.m0, .mp (.typed T.EB (T.seenM x_1.2)), .cells [.map 2], .cells [.sl 1 (.map T.encL [] x_1.1) (.tok 8)], .cells [.msl 1 9 0 x_1.2.length], .gone, .gone, .tok, .arr 1 (.map T.encL [] x_1.2)] ∧ AWP prog 61 n_1 c88_14 [(0, x), (6, .ptr 4 0), (7, .ptr 5 0), (8, .fn (129 : FuncId) [.ptr 3 0, .ptr 4 0, .ptr 5 0]), (48, T.aL s), (49, .int .i64 n), (50, .int .i64 (IntKind.wrap .i64 (i + (1 : Int))))] [T.mX es, T.m0, .mp (.typed T.EB (T.seenM x_1.2)), .cells [.map 2], .cells [.sl 1 (.map T.encL [] x_1.1) (.tok 8)], .cells [.msl 1 9 0 x_1.2.length], .gone, .gone, .tok, .arr 1 (.map T.encL [] x_1.2)] (q88_7 n_1 Post))) (AWP prog 61 n_1 c88_9 [(0, x), (6, .ptr 4 0), (7, .ptr 5 0), (8, .fn (129 : FuncId) [.ptr 3 0, .ptr 4 0, .ptr 5 0])] [T.mX es, T.m0, .mp (.typed T.EB (T.seenM o)), .cells [.map 2], .cells [.sl 1 (.map T.encL [] t) (.tok 6)], .cells [.msl 1 7 0 o.length], .tok, .arr 1 (.map T.encL [] o)] (q88_4 n_1 Post)) → AWP prog 61 n_1 c88_14 [(0, x), (6, .ptr 4 0), (7, .ptr 5 0), (8, .fn (129 : FuncId) [.ptr 3 0, .ptr 4 0, .ptr 5 0]), (48, T.aL s), (49, .int .i64 n), (50, .int .i64 i)] [T.mX es, T.m0, .mp (.typed T.EB (T.seenM o)), .cells [.map 2], .cells [.sl 1 (.map T.encL [] t) (.tok 6)], .cells [.msl 1 7 0 o.length], .tok, .arr 1 (.map T.encL [] o)] (q88_7 n_1 Post) := fun x es t o s n i n Post h => AWP.loop' g88 (Cfg.live g88) c88_14 (by kernel_rfl) (by kernel_rfl) (kc (by kernel_rfl) h)
def g38 : Cfg := { N := 11, live := nol, cut := nof, mu := nof, ret := rets }
theorem s38 : ∀ (x : AV) (es : T.Kn) (root : List T.Need) (Post : PT),
  (ASpec prog 88 [ev [(6, T.aN root), (5, ev [(4, .sl 0 (.raw []) .nil), (0, x), (1, T.aN root)] (Operand.tmp 0)), (4, .sl 0 (.raw []) .nil), (0, x), (1, T.aN root)] (Operand.tmp 5), T.aN root] [T.mX es, T.m0] fun r H' => (∃ (x_1 : Unit), r = AV.sl 0 (.raw []) .nil ∧ H' = [T.mX es, T.m0] ∧ ASpec prog 87 [.sl 0 (.raw []) .nil, AV.bfn 15 [ev [(8, ev [(7, .sl 0 (.raw []) .nil), (6, T.aN root), (5, ev [(4, .sl 0 (.raw []) .nil), (0, x), (1, T.aN root)] (Operand.tmp 0)), (4, .sl 0 (.raw []) .nil), (0, x), (1, T.aN root)] (Operand.tmp 0)), (7, .sl 0 (.raw []) .nil), (6, T.aN root), (5, ev [(4, .sl 0 (.raw []) .nil), (0, x), (1, T.aN root)] (Operand.tmp 0)), (4, .sl 0 (.raw []) .nil), (0, x), (1, T.aN root)] (Operand.tmp 8)]] [T.mX es, T.m0] fun r H' => ∃ (x : List (List UInt8)), r = T.aL x ∧ H' = [T.mX es, T.m0] ∧ Post (T.aL x) [T.mX es, T.m0]) ∨ ∃ (x_1 : List (List UInt8)), r = AV.msl 1 2 0 x_1.length ∧ H' = [AObj.mp (.typed T.EK es), .cells [AV.map 0], .arr 1 (.map T.encL [] x_1)] ∧ ASpec prog 87 [.msl 1 2 0 x_1.length, AV.bfn 15 [ev [(8, ev [(7, .msl 1 2 0 x_1.length), (6, T.aN root), (5, ev [(4, .sl 0 (.raw []) .nil), (0, x), (1, T.aN root)] (Operand.tmp 0)), (4, .sl 0 (.raw []) .nil), (0, x), (1, T.aN root)] (Operand.tmp 0)), (7, .msl 1 2 0 x_1.length), (6, T.aN root), (5, ev [(4, .sl 0 (.raw []) .nil), (0, x), (1, T.aN root)] (Operand.tmp 0)), (4, .sl 0 (.raw []) .nil), (0, x), (1, T.aN root)] (Operand.tmp 8)]] [T.mX es, T.m0, .arr 1 (.map T.encL [] x_1)] fun r H' => ∃ (x : List (List UInt8)), r = T.aL x ∧ H' = [T.mX es, T.m0, .gone] ∧ Post (T.aL x) [T.mX es, T.m0, .gone]) → ASpec prog 38 [x, T.aN root] (T.HX es) Post := fun x es root Post h => ASpec.of_vc g38 Tryz.func38 (by kernel_rfl) (by kernel_rfl) (by kernel_rfl) (kc (by kernel_rfl) h)
def l128 : Nat → List Nat
  | 2 => [0, 1, 7, 8]
  | _ => []
def g128 : Cfg := { N := 19, live := l128, cut := nof, mu := nof, ret := rets }
def c128 : Code := bodyOf Tryz.f128
def q128_0 (n : Nat) (Post : PT) : AQ := endQ prog (resultsOf Tryz.f128) Post
def q128_1 (n : Nat) (Post : PT) : AQ := seqQ (fun s' H' => awp prog g128 n (codeSnd (codeSnd c128)) s' H' (q128_0 n Post)) (q128_0 n Post)
def q128_2 (n : Nat) (Post : PT) : AQ := blockQ 0 (q128_1 n Post)
def c128_2 : Code := codeFst (codeSnd (codeFst (codeSnd c128)))
theorem s128m : ∀ (x : AV) (es : T.Kn) (s : List (List UInt8)) (Post : PT),
  AWP prog 19 3 c128_2 [(0, .msl 1 2 0 s.length), (1, .bfn (15 : FuncId) [x]), (7, .int .i64 s.length), (8, .int .i64 0)] [T.mX es, T.m0, .arr 1 (.map T.encL [] s)] (q128_2 3 Post) → ASpec prog 128 [.msl 1 2 0 s.length, .bfn (15 : FuncId) [x]] (T.HX es ++ [AObj.arr 1 (.map T.encL [] s)]) Post := fun x es s Post h => ASpec.of_vc g128 Tryz.func128 (by kernel_rfl) (by kernel_rfl) (by kernel_rfl) (kc (by kernel_rfl) h)
theorem s128v : ∀ (x : AV) (es : T.Kn) (Post : PT),
  AWP prog 19 2 c128_2 [(0, .sl 0 (.raw []) .nil), (1, .bfn (15 : FuncId) [x]), (7, .int .i64 0), (8, .int .i64 0)] [T.mX es, T.m0] (q128_2 2 Post) → ASpec prog 128 [.sl 0 (.raw []) .nil, AV.bfn (15 : FuncId) [x]] (T.HX es) Post := fun x es Post h => ASpec.of_vc g128 Tryz.func128 (by kernel_rfl) (by kernel_rfl) (by kernel_rfl) (kc (by kernel_rfl) h)
theorem v128_2m : ∀ (x : AV) (es : T.Kn) (s : List (List UInt8)) (n i : Int) (n_1 : Nat) (Post : PT),
  condP (decide (i < n)) (needP (0 ≤ i ∧ i < (↑s.length : Int)) (needP (0 + Int.toNat i < List.length s) (ASpec prog 15 [x, AV.str ⟨(s.getD (0 + Int.toNat i) []).toArray⟩] [T.mX es, T.m0, .arr 1 (.map T.encL [] s)] fun r H' => ∃ (x_1 : Bool), r = AV.bool x_1 ∧ H' = [T.mX es, T.m0, .arr 1 (.map T.encL [] s)] ∧ condP x_1 (Post (.int .i64 i) [T.mX es, T.m0, .arr 1 (.map T.encL [] s)]) (AWP prog 19 n_1 c128_2 [(0, .msl 1 2 0 s.length), (1, .bfn (15 : FuncId) [x]), (7, .int .i64 n), (8, .int .i64 (IntKind.wrap .i64 (i + (1 : Int))))] [T.mX es, T.m0, .arr 1 (.map T.encL [] s)] (q128_2 n_1 Post))))) (Post (.int .i64 (-1)) [T.mX es, T.m0, .arr 1 (.map T.encL [] s)]) → AWP prog 19 n_1 c128_2 [(0, .msl 1 2 0 s.length), (1, .bfn (15 : FuncId) [x]), (7, .int .i64 n), (8, .int .i64 i)] (T.HX es ++ [AObj.arr 1 (.map T.encL [] s)]) (q128_2 n_1 Post) := fun x es s n i n Post h => AWP.loop' g128 (Cfg.live g128) c128_2 (by kernel_rfl) (by kernel_rfl) (kc (by kernel_rfl) h)
theorem v128_2v : ∀ (x : AV) (es : T.Kn) (n i : Int) (n_1 : Nat) (Post : PT),
  condP (decide (i < n)) (needP (0 ≤ i ∧ i < (0 : Int)) False) (Post (.int .i64 (-1)) [T.mX es, T.m0]) → AWP prog 19 n_1 c128_2 [(0, .sl 0 (.raw []) .nil), (1, .bfn (15 : FuncId) [x]), (7, .int .i64 n), (8, .int .i64 i)] (T.HX es) (q128_2 n_1 Post) := fun x es n i n Post h => AWP.loop' g128 (Cfg.live g128) c128_2 (by kernel_rfl) (by kernel_rfl) (kc (by kernel_rfl) h)
def l87 : Nat → List Nat
  | 4 => [0, 1, 5]
  | 5 => [0, 1, 5, 6]
  | 11 => [0, 5]
  | _ => []
def u87 : Nat → Bool
  | 4 => true
  | 11 => true
  | _ => false
def m87 : Nat → Bool
  | 38 => true
  | _ => false
def g87 : Cfg := { N := 42, live := l87, cut := u87, mu := m87, ret := rets }
def c87 : Code := bodyOf Tryz.f87
def q87_0 (n : Nat) (Post : PT) : AQ := endQ prog (resultsOf Tryz.f87) Post
def c87_4 : Code := codeSnd (codeSnd (codeSnd c87))
theorem s87m : ∀ (x : AV) (es : T.Kn) (s : List (List UInt8)) (Post : PT),
  (ASpec prog 128 [.msl 1 2 0 s.length, .bfn (15 : FuncId) [x]] [T.mX es, T.m0, .arr 1 (.map T.encL [] s)] fun r H' => ∃ (x_1 : Int), r = AV.int .i64 x_1 ∧ H' = [T.mX es, T.m0, .arr 1 (.map T.encL [] s)] ∧ condP (x_1 == (-1 : Int)) (Post (.msl 1 2 0 s.length) [AObj.mp (.typed T.EK es), .cells [AV.map 0], .arr 1 (.map T.encL [] s)]) (AWP prog 42 3 c87_4 [(0, .msl 1 2 0 s.length), (1, .bfn (15 : FuncId) [x]), (5, .int .i64 x_1)] [T.mX es, T.m0, .arr 1 (.map T.encL [] s)] (q87_0 3 Post))) → ASpec prog 87 [.msl 1 2 0 s.length, .bfn (15 : FuncId) [x]] (T.HX es ++ [AObj.arr 1 (.map T.encL [] s)]) Post := fun x es s Post h => ASpec.of_vc g87 Tryz.func87 (by kernel_rfl) (by kernel_rfl) (by kernel_rfl) (kc (by kernel_rfl) h)
theorem s87v : ∀ (x : AV) (es : T.Kn) (Post : PT),
  (ASpec prog 128 [.sl 0 (.raw []) .nil, AV.bfn (15 : FuncId) [x]] [T.mX es, T.m0] fun r H' => ∃ (x_1 : Int), r = AV.int .i64 x_1 ∧ H' = [T.mX es, T.m0] ∧ condP (x_1 == (-1 : Int)) (Post (.sl 0 (.raw []) .nil) [T.mX es, T.m0]) (AWP prog 42 2 c87_4 [(0, .sl 0 (.raw []) .nil), (1, .bfn (15 : FuncId) [x]), (5, .int .i64 x_1)] [T.mX es, T.m0] (q87_0 2 Post))) → ASpec prog 87 [.sl 0 (.raw []) .nil, AV.bfn (15 : FuncId) [x]] (T.HX es) Post := fun x es Post h => ASpec.of_vc g87 Tryz.func87 (by kernel_rfl) (by kernel_rfl) (by kernel_rfl) (kc (by kernel_rfl) h)
def c87_11 : Code := codeSnd c87_4
def q87_1 (n : Nat) (Post : PT) : AQ := seqQ (fun (s' : Slots) (H' : List AObj) => AWP prog (Cfg.N g87) n c87_11 (restrict s' (Cfg.live g87 11)) H' (q87_0 n Post)) (q87_0 n Post)
def q87_2 (n : Nat) (Post : PT) : AQ := blockQ 0 (q87_1 n Post)
def c87_5 : Code := codeFst (codeSnd (codeFst c87_4))
theorem v87_4 : ∀ (x : AV) (es : T.Kn) (s : List (List UInt8)) (i : Int) (n : Nat) (Post : PT),
  AWP prog 42 n c87_5 [(0, .msl 1 2 0 s.length), (1, .bfn (15 : FuncId) [x]), (5, .int .i64 i), (6, .int .i64 (IntKind.wrap .i64 (i + (1 : Int))))] [T.mX es, T.m0, .arr 1 (.map T.encL [] s)] (q87_2 n Post) → AWP prog 42 n c87_4 [(0, .msl 1 2 0 s.length), (1, .bfn (15 : FuncId) [x]), (5, .int .i64 i)] (T.HX es ++ [AObj.arr 1 (.map T.encL [] s)]) (q87_0 n Post) := fun x es s i n Post h => Go.Ab.awp_sound g87 n _ _ _ _ (kc (by kernel_rfl) h)
theorem v87_5 : ∀ (x : AV) (es : T.Kn) (s : List (List UInt8)) (i j : Int) (n : Nat) (Post : PT),
  condP (decide (j < (↑s.length : Int))) (needP (0 ≤ j ∧ j < (↑s.length : Int)) (needP (0 + Int.toNat j < List.length s) (ASpec prog 15 [x, AV.str ⟨(s.getD (0 + Int.toNat j) []).toArray⟩] [T.mX es, T.m0, .arr 1 (.map T.encL [] s)] fun r H' => ∃ (x_1 : Bool), r = AV.bool x_1 ∧ H' = [T.mX es, T.m0, .arr 1 (.map T.encL [] s)] ∧ condP (!x_1) (needP (0 ≤ i ∧ i < (↑s.length : Int)) (needP (0 + Int.toNat i < List.length s) (AWP prog 42 n c87_5 [(0, .msl 1 2 0 s.length), (1, .bfn (15 : FuncId) [x]), (5, .int .i64 (IntKind.wrap .i64 (i + (1 : Int)))), (6, .int .i64 (IntKind.wrap .i64 (j + (1 : Int))))] [T.mX es, T.m0, .arr 1 (.raw (List.set (Seq.toList (.map T.encL [] s)) (0 + Int.toNat i) [AV.str ⟨(s.getD (0 + Int.toNat j) []).toArray⟩]))] (q87_2 n Post)))) (AWP prog 42 n c87_5 [(0, .msl 1 2 0 s.length), (1, .bfn (15 : FuncId) [x]), (5, .int .i64 i), (6, .int .i64 (IntKind.wrap .i64 (j + (1 : Int))))] [T.mX es, T.m0, .arr 1 (.map T.encL [] s)] (q87_2 n Post))))) (AWP prog 42 n c87_11 [(0, .msl 1 2 0 s.length), (5, .int .i64 i)] [T.mX es, T.m0, .arr 1 (.map T.encL [] s)] (q87_0 n Post)) → AWP prog 42 n c87_5 [(0, .msl 1 2 0 s.length), (1, .bfn (15 : FuncId) [x]), (5, .int .i64 i), (6, .int .i64 j)] (T.HX es ++ [AObj.arr 1 (.map T.encL [] s)]) (q87_2 n Post) := fun x es s i j n Post h => AWP.loop' g87 (Cfg.live g87) c87_5 (by kernel_rfl) (by kernel_rfl) (kc (by kernel_rfl) h)
theorem v87_11 : ∀ (x : AV) (es : T.Kn) (s : List (List UInt8)) (i : Int) (n : Nat) (Post : PT),
  needP (0 ≤ i ∧ i ≤ (↑s.length : Int)) (condP (decide (i < (↑s.length : Int))) (needP (0 + Int.toNat i + (List.length s - Int.toNat i) ≤ List.length s) (needP (0 ≤ i ∧ i ≤ (↑s.length : Int)) (Post (.msl 1 2 0 i.toNat) [T.mX es, T.m0, .arr 1 (copied (.map T.encL [] s) (0 + Int.toNat i) (.raw (List.replicate (List.length s - Int.toNat i) (List.map ofCell (Array.toList (Value.cells (Value.string ⟨#[]⟩)))))))]))) False) → AWP prog 42 n c87_11 [(0, .msl 1 2 0 s.length), (5, .int .i64 i)] (T.HX es ++ [AObj.arr 1 (.map T.encL [] s)]) (q87_0 n Post) := fun x es s i n Post h => Go.Ab.awp_sound g87 n _ _ _ _ (kc (by kernel_rfl) h)
end
end Rc
end

noncomputable section
open Go Go.Ab Go.Proofs
namespace T
abbrev Term := List UInt8 × List Span × Bool
def encT (x : Term) : List AV := [.str ⟨x.1.toArray⟩, .sl 2 (.map encS (0, 0) x.2.1) .none, .bool x.2.2]
end T
end

noncomputable section
open Go Go.Ab Go.Proofs V
namespace T
end T
end

noncomputable section
open Go Go.Ab Go.Proofs
namespace T
abbrev Pk := List UInt8 × Int
abbrev noPk : Pk := ([], 0)
def encPk (x : Pk) : List AV := [.str ⟨x.1.toArray⟩, .int .i64 x.2]
abbrev aK (x : List Pk) : AV := .sl 2 (.map encPk noPk x) .none
end T
end

noncomputable section
open Go Go.Ab Go.Proofs
open Go.Proofs.Tryz (prog)
namespace In
noncomputable section
def rowId : List AV → Nat
  | .msl _ id _ _ :: _ => id
  | _ => 0
def retI : List (Nat × Ret) := [
  (142, ⟨List T.Pk, fun _ H x => .msl 2 H.length 0 x.length, fun _ H x => H ++ [.arr 2 (.map T.encPk T.noPk x)]⟩),
  (124, ⟨Int, fun _ _ x => .int .i64 x, fun _ H _ => H⟩),
  (143, ⟨List T.Pk, fun _ _ x => T.aK x, fun a H _ => H.set (rowId a) .gone⟩)]
def rets : FuncId → List Ret := lookupR (retI ++ C.retC ++ V.retL)
def l143 : Nat → List Nat
  | 3 => [0, 1, 2, 7]
  | 10 => [0, 1, 2, 7, 9]
  | 11 => [0, 1, 7, 9]
  | 12 => [9]
  | 14 => [0, 1, 2, 7, 8]
  | 16 => [0, 1, 2]
  | 17 => [0]
  | _ => []
def u143 : Nat → Bool
  | 3 => true
  | 10 => true
  | 11 => true
  | 12 => true
  | 14 => true
  | 16 => true
  | 17 => true
  | _ => false
def m143 : Nat → Bool
  | 12 => true
  | 34 => true
  | 40 => true
  | 43 => true
  | 50 => true
  | 53 => true
  | 60 => true
  | 66 => true
  | 73 => true
  | 76 => true
  | 77 => true
  | 80 => true
  | _ => false
def g143 : Cfg := { N := 95, live := l143, cut := u143, mu := m143, ret := rets }
def c143 : Code := bodyOf Tryz.f143
def q143_0 (n : Nat) (Post : PT) : AQ := endQ prog (resultsOf Tryz.f143) Post
def c143_3 : Code := codeSnd (codeSnd (codeSnd c143))
theorem s143 : ∀ (s : List T.Pk) (p : T.Pk) (i : Int) (Post : PT),
  needP (0 ≤ i ∧ i ≤ (↑s.length : Int)) (condP (decide (i < (↑s.length : Int))) (AWP prog 95 1 c143_3 [(0, .msl 2 0 0 s.length), (1, .int .i64 i), (2, .sl 2 (.raw [[T.sB p.1, .int .i64 p.2]]) .full), (7, .int .i64 1)] [AObj.arr 2 (.map T.encPk T.noPk s)] (q143_0 1 Post)) (AWP prog 95 1 c143_3 [(0, .msl 2 0 0 s.length), (1, .int .i64 i), (2, .sl 2 (.raw [[T.sB p.1, .int .i64 p.2]]) .full), (7, .int .i64 1)] [AObj.arr 2 (.map T.encPk T.noPk s)] (q143_0 1 Post))) → ASpec prog 143 [.msl 2 0 0 s.length, .int .i64 i, AV.sl 2 (.raw [T.encPk p]) .full] [AObj.arr 2 (.map T.encPk T.noPk s)] Post := fun s p i Post h => ASpec.of_vc g143 Tryz.func143 (by kernel_rfl) (by kernel_rfl) (by kernel_rfl) (kc (by kernel_rfl) h)
def q143_1 (n : Nat) (Post : PT) : AQ := seqQ (fun s' H' => awp prog g143 n (codeSnd (codeSnd (codeSnd (codeSnd c143_3)))) s' H' (q143_0 n Post)) (q143_0 n Post)
def c143_10 : Code := codeSnd (codeFst (codeSnd (codeFst (codeSnd (codeSnd (codeSnd c143_3))))))
def c143_14 : Code := codeSnd (codeSnd (codeSnd (codeSnd (codeSnd c143_3))))
theorem v143_3 : ∀ (s : List T.Pk) (p : T.Pk) (i : Int) (n : Nat) (Post : PT),
  condP (i == (↑s.length : Int)) (needP (List.length s = List.length s ∧ (List.length s + 1) * 24 ≤ 140737488351232) (Post (.msl 2 1 0 (List.length s + 1)) [AObj.gone, .arr 2 (.app (.map T.encPk T.noPk s) (.raw [[T.sB p.1, .int .i64 p.2]]))])) (∀ (c : Nat), List.length s ≤ c ∧ Seq.len (.map T.encPk T.noPk s) ≤ 0 + c → condP (decide (IntKind.wrap .i64 ((↑s.length : Int) + (1 : Int)) > (↑c : Int))) (needP (0 ≤ i ∧ (0 : Int) + i ≤ (↑(rowLen [AObj.arr 2 (.app (.map T.encPk T.noPk s) (bads 2 (0 + c - List.length s))), .csz 0 2 (0 + c)] 0) : Int)) (needP ((0 : Int) < IntKind.wrap .i64 (IntKind.wrap .i64 ((↑s.length : Int) + (1 : Int)) - i) ∧ 0 + Int.toNat i ≤ List.length s + Seq.len (bads 2 (0 + c - List.length s)) ∧ 0 + c < 0 + Int.toNat i + Int.toNat (IntKind.wrap .i64 (IntKind.wrap .i64 ((↑s.length : Int) + (1 : Int)) - i)) ∧ (Int.toNat i + Int.toNat (IntKind.wrap .i64 (IntKind.wrap .i64 ((↑s.length : Int) + (1 : Int)) - i))) * 24 ≤ 140737488351232) (AWP prog 95 n c143_10 [(0, .msl 2 0 0 s.length), (1, .int .i64 i), (2, .sl 2 (.raw [[T.sB p.1, .int .i64 p.2]]) .full), (7, .int .i64 1), (9, .msl 2 2 0 (Int.toNat i + Int.toNat (IntKind.wrap .i64 (IntKind.wrap .i64 ((↑s.length : Int) + (1 : Int)) - i))))] [AObj.arr 2 (.app (.map T.encPk T.noPk s) (bads 2 (0 + c - List.length s))), .csz 0 2 (0 + c), .arr 2 (.app (.raw (List.drop 0 (List.take (0 + Int.toNat i) (Seq.toList (.map T.encPk T.noPk s) ++ Seq.toList (bads 2 (0 + c - List.length s)))))) (.raw (List.replicate (Int.toNat (IntKind.wrap .i64 (IntKind.wrap .i64 ((↑s.length : Int) + (1 : Int)) - i))) [AV.str ⟨#[]⟩, .int .i64 0])))] (q143_1 n Post)))) (needP ((0 : Int) ≤ IntKind.wrap .i64 ((↑s.length : Int) + (1 : Int)) ∧ (0 : Int) + IntKind.wrap .i64 ((↑s.length : Int) + (1 : Int)) ≤ (↑(rowLen [AObj.arr 2 (.app (.map T.encPk T.noPk s) (bads 2 (0 + c - List.length s))), .csz 0 2 (0 + c)] 0) : Int)) (AWP prog 95 n c143_14 [(0, .msl 2 0 0 (Int.toNat (IntKind.wrap .i64 ((↑s.length : Int) + (1 : Int))))), (1, .int .i64 i), (2, .sl 2 (.raw [[T.sB p.1, .int .i64 p.2]]) .full), (7, .int .i64 1), (8, .int .i64 s.length)] [AObj.arr 2 (.app (.map T.encPk T.noPk s) (bads 2 (0 + c - List.length s))), .csz 0 2 (0 + c)] (q143_0 n Post)))) → AWP prog 95 n c143_3 [(0, .msl 2 0 0 s.length), (1, .int .i64 i), (2, .sl 2 (.raw [[T.sB p.1, .int .i64 p.2]]) .full), (7, .int .i64 1)] [AObj.arr 2 (.map T.encPk T.noPk s)] (q143_0 n Post) := fun s p i n Post h => Go.Ab.awp_sound g143 n _ _ _ _ (kc (by kernel_rfl) h)
def c143_11 : Code := codeSnd c143_10
theorem v143_10 : ∀ (s t : List T.Pk) (p : T.Pk) (i : Int) (n : Nat) (Post : PT),
  needP (0 ≤ i ∧ i ≤ (↑t.length : Int)) (condP (decide (i < (↑t.length : Int))) (needP (0 + Int.toNat i + (List.length t - Int.toNat i) ≤ List.length t ∧ 1 ≤ List.length t - Int.toNat i) (AWP prog 95 n c143_11 [(0, .msl 2 0 0 s.length), (1, .int .i64 i), (7, .int .i64 1), (9, .msl 2 1 0 t.length)] [AObj.arr 2 (.map T.encPk T.noPk s), .arr 2 (copied (.map T.encPk T.noPk t) (0 + Int.toNat i) (.raw [[T.sB p.1, .int .i64 p.2]]))] (q143_1 n Post))) False) → AWP prog 95 n c143_10 [(0, .msl 2 0 0 s.length), (1, .int .i64 i), (2, .sl 2 (.raw [[T.sB p.1, .int .i64 p.2]]) .full), (7, .int .i64 1), (9, .msl 2 1 0 t.length)] [AObj.arr 2 (.map T.encPk T.noPk s), .arr 2 (.map T.encPk T.noPk t)] (q143_1 n Post) := fun s t p i n Post h => Go.Ab.awp_sound g143 n _ _ _ _ (kc (by kernel_rfl) h)
def c143_12 : Code := codeSnd c143_11
theorem v143_11 : ∀ (s t : List T.Pk) (i : Int) (n : Nat) (Post : PT),
  needP ((0 : Int) ≤ IntKind.wrap .i64 (i + (1 : Int)) ∧ IntKind.wrap .i64 (i + (1 : Int)) ≤ (↑t.length : Int)) (condP (decide (IntKind.wrap .i64 (i + (1 : Int)) < (↑t.length : Int))) (needP (0 ≤ i ∧ i ≤ (↑s.length : Int)) (condP (decide (i < (↑s.length : Int))) (needP (0 + Int.toNat i + (List.length s - Int.toNat i) ≤ List.length s) (needP (∀ (x : T.Pk), List.all (T.encPk x) oneAV = true) (needP (0 + Int.toNat (IntKind.wrap .i64 (i + (1 : Int))) + (List.length t - Int.toNat (IntKind.wrap .i64 (i + (1 : Int)))) ≤ List.length t ∧ List.length (List.drop (0 + Int.toNat i) (List.take (0 + Int.toNat i + (List.length s - Int.toNat i)) s)) ≤ List.length t - Int.toNat (IntKind.wrap .i64 (i + (1 : Int)))) (AWP prog 95 n c143_12 [(9, .msl 2 1 0 t.length)] [AObj.arr 2 (.map T.encPk T.noPk s), .arr 2 (copied (.map T.encPk T.noPk t) (0 + Int.toNat (IntKind.wrap .i64 (i + (1 : Int)))) (.map T.encPk T.noPk (List.drop (0 + Int.toNat i) (List.take (0 + Int.toNat i + (List.length s - Int.toNat i)) s))))] (q143_1 n Post))))) (needP (0 + Int.toNat (IntKind.wrap .i64 (i + (1 : Int))) + (List.length t - Int.toNat (IntKind.wrap .i64 (i + (1 : Int)))) ≤ List.length t ∧ 0 ≤ List.length t - Int.toNat (IntKind.wrap .i64 (i + (1 : Int)))) (AWP prog 95 n c143_12 [(9, .msl 2 1 0 t.length)] [AObj.arr 2 (.map T.encPk T.noPk s), .arr 2 (copied (.map T.encPk T.noPk t) (0 + Int.toNat (IntKind.wrap .i64 (i + (1 : Int)))) (.raw []))] (q143_1 n Post))))) (needP (0 ≤ i ∧ i ≤ (↑s.length : Int)) (condP (decide (i < (↑s.length : Int))) False False))) → AWP prog 95 n c143_11 [(0, .msl 2 0 0 s.length), (1, .int .i64 i), (7, .int .i64 1), (9, .msl 2 1 0 t.length)] [AObj.arr 2 (.map T.encPk T.noPk s), .arr 2 (.map T.encPk T.noPk t)] (q143_1 n Post) := fun s t i n Post h => Go.Ab.awp_sound g143 n _ _ _ _ (kc (by kernel_rfl) h)
theorem v143_12 : ∀ (s t : List T.Pk) (n : Nat) (Post : PT),
  Post (.msl 2 1 0 t.length) [AObj.arr 2 (.map T.encPk T.noPk s), .arr 2 (.map T.encPk T.noPk t)] → AWP prog 95 n c143_12 [(9, .msl 2 1 0 t.length)] [AObj.arr 2 (.map T.encPk T.noPk s), .arr 2 (.map T.encPk T.noPk t)] (q143_1 n Post) := fun s t n Post h => Go.Ab.awp_sound g143 n _ _ _ _ (kc (by kernel_rfl) h)
def q143_2 (n : Nat) (Post : PT) : AQ := seqQ (fun s' H' => awp prog g143 n (codeSnd c143_14) s' H' (q143_0 n Post)) (q143_0 n Post)
def c143_16 : Code := codeSnd (codeFst (codeSnd (codeFst c143_14)))
theorem v143_14 : ∀ (s : List T.Pk) (p : T.Pk) (i : Int) (d c n : Nat) (Post : PT),
  needP ((0 : Int) ≤ IntKind.wrap .i64 (i + (1 : Int)) ∧ IntKind.wrap .i64 (i + (1 : Int)) ≤ (↑(List.length s + 1) : Int)) (condP (decide (IntKind.wrap .i64 (i + (1 : Int)) < (↑(List.length s + 1) : Int))) (needP (overlapsFn prog 183 2) (needP ((0 : Int) ≤ IntKind.wrap .i64 (i + (1 : Int)) ∧ IntKind.wrap .i64 (i + (1 : Int)) ≤ (↑(List.length s + 1) : Int)) (condP (decide (IntKind.wrap .i64 (i + (1 : Int)) < (↑(List.length s + 1) : Int))) (needP (0 ≤ i ∧ i ≤ (↑(List.length s + 1) : Int)) (condP (decide (i < (↑(List.length s + 1) : Int))) (needP (0 + Int.toNat i + min (List.length s + 1 - Int.toNat i) (List.length s + 1 - Int.toNat (IntKind.wrap .i64 (i + (1 : Int)))) ≤ List.length s) (needP (∀ (x : T.Pk), List.all (T.encPk x) oneAV = true) (needP (0 + Int.toNat (IntKind.wrap .i64 (i + (1 : Int))) + (List.length s + 1 - Int.toNat (IntKind.wrap .i64 (i + (1 : Int)))) ≤ List.length s + Seq.len (bads 2 d) ∧ List.length (List.drop (0 + Int.toNat i) (List.take (0 + Int.toNat i + min (List.length s + 1 - Int.toNat i) (List.length s + 1 - Int.toNat (IntKind.wrap .i64 (i + (1 : Int))))) s)) ≤ List.length s + 1 - Int.toNat (IntKind.wrap .i64 (i + (1 : Int)))) (AWP prog 95 n c143_16 [(0, .msl 2 0 0 (List.length s + 1)), (1, .int .i64 i), (2, .sl 2 (.raw [[T.sB p.1, .int .i64 p.2]]) .full)] [AObj.arr 2 (copied (.app (.map T.encPk T.noPk s) (bads 2 d)) (0 + Int.toNat (IntKind.wrap .i64 (i + (1 : Int)))) (.map T.encPk T.noPk (List.drop (0 + Int.toNat i) (List.take (0 + Int.toNat i + min (List.length s + 1 - Int.toNat i) (List.length s + 1 - Int.toNat (IntKind.wrap .i64 (i + (1 : Int))))) s)))), .csz 0 2 c] (q143_2 n Post))))) (needP (0 + Int.toNat (IntKind.wrap .i64 (i + (1 : Int))) + (List.length s + 1 - Int.toNat (IntKind.wrap .i64 (i + (1 : Int)))) ≤ List.length s + Seq.len (bads 2 d) ∧ 0 ≤ List.length s + 1 - Int.toNat (IntKind.wrap .i64 (i + (1 : Int)))) (AWP prog 95 n c143_16 [(0, .msl 2 0 0 (List.length s + 1)), (1, .int .i64 i), (2, .sl 2 (.raw [[T.sB p.1, .int .i64 p.2]]) .full)] [AObj.arr 2 (copied (.app (.map T.encPk T.noPk s) (bads 2 d)) (0 + Int.toNat (IntKind.wrap .i64 (i + (1 : Int)))) (.raw [])), .csz 0 2 c] (q143_2 n Post))))) (needP (0 ≤ i ∧ i ≤ (↑(List.length s + 1) : Int)) (condP (decide (i < (↑(List.length s + 1) : Int))) False False))))) False) → AWP prog 95 n c143_14 [(0, .msl 2 0 0 (List.length s + 1)), (1, .int .i64 i), (2, .sl 2 (.raw [[T.sB p.1, .int .i64 p.2]]) .full), (7, .int .i64 1), (8, .int .i64 s.length)] [AObj.arr 2 (.app (.map T.encPk T.noPk s) (bads 2 d)), .csz 0 2 c] (q143_0 n Post) := fun s p i d c n Post h => Go.Ab.awp_sound g143 n _ _ _ _ (kc (by kernel_rfl) h)
def c143_17 : Code := codeSnd c143_16
theorem v143_16 : ∀ (s : List T.Pk) (p : T.Pk) (i : Int) (n : Nat) (Post : PT),
  needP (0 ≤ i ∧ i ≤ (↑s.length : Int)) (condP (decide (i < (↑s.length : Int))) (needP (0 + Int.toNat i + (List.length s - Int.toNat i) ≤ List.length s ∧ 1 ≤ List.length s - Int.toNat i) (AWP prog 95 n c143_17 [(0, .msl 2 0 0 s.length)] [AObj.arr 2 (copied (.map T.encPk T.noPk s) (0 + Int.toNat i) (.raw [[T.sB p.1, .int .i64 p.2]]))] (q143_2 n Post))) False) → AWP prog 95 n c143_16 [(0, .msl 2 0 0 s.length), (1, .int .i64 i), (2, .sl 2 (.raw [[T.sB p.1, .int .i64 p.2]]) .full)] [AObj.arr 2 (.map T.encPk T.noPk s)] (q143_2 n Post) := fun s p i n Post h => Go.Ab.awp_sound g143 n _ _ _ _ (kc (by kernel_rfl) h)
theorem v143_17 : ∀ (s : List T.Pk) (n : Nat) (Post : PT),
  Post (.msl 2 0 0 s.length) [AObj.arr 2 (.map T.encPk T.noPk s)] → AWP prog 95 n c143_17 [(0, .msl 2 0 0 s.length)] [AObj.arr 2 (.map T.encPk T.noPk s)] (q143_2 n Post) := fun s n Post h => Go.Ab.awp_sound g143 n _ _ _ _ (kc (by kernel_rfl) h)
def l124 : Nat → List Nat
  | 2 => [0, 1, 5, 6]
  | _ => []
def u124 : Nat → Bool
  | 2 => true
  | _ => false
def g124 : Cfg := { N := 28, live := l124, cut := u124, mu := nof, ret := rets }
def c124 : Code := bodyOf Tryz.f124
def q124_0 (n : Nat) (Post : PT) : AQ := endQ prog (resultsOf Tryz.f124) Post
def q124_1 (n : Nat) (Post : PT) : AQ := scopeQ prog g124 n (codeFst (codeSnd c124)) (q124_0 n Post)
def c124_2 : Code := codeSnd (codeSnd (codeFst (codeSnd c124)))
theorem s124m : ∀ (s : List T.Pk) (x : List UInt8) (Post : PT),
  AWP prog 28 1 c124_2 [(0, .msl 2 0 0 s.length), (1, T.sB x), (5, .int .i64 0), (6, .int .i64 s.length)] [AObj.arr 2 (.map T.encPk T.noPk s)] (q124_1 1 Post) → ASpec prog 124 [.msl 2 0 0 s.length, T.sB x] [AObj.arr 2 (.map T.encPk T.noPk s)] Post := fun s x Post h => ASpec.of_vc g124 Tryz.func124 (by kernel_rfl) (by kernel_rfl) (by kernel_rfl) (kc (by kernel_rfl) h)
theorem s124v : ∀ (s : List T.Pk) (x : List UInt8) (Post : PT),
  AWP prog 28 0 c124_2 [(0, T.aK s), (1, T.sB x), (5, .int .i64 0), (6, .int .i64 s.length)] [] (q124_1 0 Post) → ASpec prog 124 [T.aK s, T.sB x] [] Post := fun s x Post h => ASpec.of_vc g124 Tryz.func124 (by kernel_rfl) (by kernel_rfl) (by kernel_rfl) (kc (by kernel_rfl) h)
theorem v124_2m : ∀ (s : List T.Pk) (x : List UInt8) (lo hi : Int) (n : Nat) (Post : PT),
  condP (lo == hi) (Post (.int .i64 lo) [AObj.arr 2 (.map T.encPk T.noPk s)]) (needP ((2 : Int) ≠ (0 : Int)) (needP ((0 : Int) ≤ IntKind.wrap .i64 (Int.tdiv (IntKind.wrap .i64 (lo + hi)) (2 : Int)) ∧ IntKind.wrap .i64 (Int.tdiv (IntKind.wrap .i64 (lo + hi)) (2 : Int)) < (↑s.length : Int)) (needP (0 + Int.toNat (IntKind.wrap .i64 (Int.tdiv (IntKind.wrap .i64 (lo + hi)) (2 : Int))) < List.length s) (condP (Op.bytesLess (ByteArray.toList { data := List.toArray (Prod.fst (s.getD (0 + Int.toNat (IntKind.wrap .i64 (Int.tdiv (IntKind.wrap .i64 (lo + hi)) (2 : Int)))) T.noPk)) }) (ByteArray.toList ⟨x.toArray⟩)) (AWPS prog 28 n (codeFst (codeSnd c124)) (Code.seq Code.skip c124_2) [(0, .msl 2 0 0 s.length), (1, T.sB x), (5, .int .i64 (IntKind.wrap .i64 (IntKind.wrap .i64 (Int.tdiv (IntKind.wrap .i64 (lo + hi)) (2 : Int)) + (1 : Int)))), (6, .int .i64 hi)] [AObj.arr 2 (.map T.encPk T.noPk s)] (q124_0 n Post)) (AWPS prog 28 n (codeFst (codeSnd c124)) (Code.seq Code.skip c124_2) [(0, .msl 2 0 0 s.length), (1, T.sB x), (5, .int .i64 lo), (6, .int .i64 (IntKind.wrap .i64 (Int.tdiv (IntKind.wrap .i64 (lo + hi)) (2 : Int))))] [AObj.arr 2 (.map T.encPk T.noPk s)] (q124_0 n Post)))))) → AWP prog 28 n c124_2 [(0, .msl 2 0 0 s.length), (1, T.sB x), (5, .int .i64 lo), (6, .int .i64 hi)] [AObj.arr 2 (.map T.encPk T.noPk s)] (q124_1 n Post) := fun s x lo hi n Post h => Go.Ab.awp_sound g124 n _ _ _ _ (kc (by kernel_rfl) h)
theorem v124_2v : ∀ (s : List T.Pk) (x : List UInt8) (lo hi : Int) (n : Nat) (Post : PT),
  condP (lo == hi) (Post (.int .i64 lo) []) (needP ((2 : Int) ≠ (0 : Int)) (needP ((0 : Int) ≤ IntKind.wrap .i64 (Int.tdiv (IntKind.wrap .i64 (lo + hi)) (2 : Int)) ∧ IntKind.wrap .i64 (Int.tdiv (IntKind.wrap .i64 (lo + hi)) (2 : Int)) < (↑s.length : Int)) (condP (Op.bytesLess (ByteArray.toList { data := List.toArray (Prod.fst (s.getD (Int.toNat (IntKind.wrap .i64 (Int.tdiv (IntKind.wrap .i64 (lo + hi)) (2 : Int)))) T.noPk)) }) (ByteArray.toList ⟨x.toArray⟩)) (AWPS prog 28 n (codeFst (codeSnd c124)) (Code.seq Code.skip c124_2) [(0, T.aK s), (1, T.sB x), (5, .int .i64 (IntKind.wrap .i64 (IntKind.wrap .i64 (Int.tdiv (IntKind.wrap .i64 (lo + hi)) (2 : Int)) + (1 : Int)))), (6, .int .i64 hi)] [] (q124_0 n Post)) (AWPS prog 28 n (codeFst (codeSnd c124)) (Code.seq Code.skip c124_2) [(0, T.aK s), (1, T.sB x), (5, .int .i64 lo), (6, .int .i64 (IntKind.wrap .i64 (Int.tdiv (IntKind.wrap .i64 (lo + hi)) (2 : Int))))] [] (q124_0 n Post))))) → AWP prog 28 n c124_2 [(0, T.aK s), (1, T.sB x), (5, .int .i64 lo), (6, .int .i64 hi)] [] (q124_1 n Post) := fun s x lo hi n Post h => Go.Ab.awp_sound g124 n _ _ _ _ (kc (by kernel_rfl) h)
def l98 : Nat → List Nat
  | 2 => [3, 5]
  | 3 => [3, 5, 6]
  | 5 => [5]
  | _ => []
def u98 : Nat → Bool
  | 2 => true
  | 3 => true
  | 5 => true
  | _ => false
def g98 : Cfg := { N := 37, live := l98, cut := u98, mu := nof, ret := rets }
def c98 : Code := bodyOf Tryz.f98
def q98_0 (n : Nat) (Post : PT) : AQ := endQ prog (resultsOf Tryz.f98) Post
def c98_2 : Code := codeSnd (codeSnd c98)
theorem s98 : ∀ (s : List T.Pk) (p : T.Pk) (Post : PT),
  (ASpec prog 142 [T.aK s] [AObj.cells [T.sB p.1, .int .i64 p.2]] fun r H' => ∃ (x : List T.Pk), r = AV.msl 2 1 0 x.length ∧ H' = [AObj.cells [T.sB p.1, .int .i64 p.2], .arr 2 (.map T.encPk T.noPk x)] ∧ AWP prog 37 0 c98_2 [(3, .ptr 0 0), (5, .msl 2 1 0 x.length)] [AObj.cells [T.sB p.1, .int .i64 p.2], .arr 2 (.map T.encPk T.noPk x)] (q98_0 0 Post)) → ASpec prog 98 [T.aK s, .agg (T.encPk p)] [] Post := fun s p Post h => ASpec.of_vc g98 Tryz.func98 (by kernel_rfl) (by kernel_rfl) (by kernel_rfl) (kc (by kernel_rfl) h)
def c98_3 : Code := codeSnd c98_2
abbrev hpv98_20 (p : T.Pk) (s : List T.Pk) : List AObj := [AObj.cells [T.sB p.1, .int .i64 p.2], .arr 2 (.map T.encPk T.noPk s)]
theorem v98_2 : ∀ (s : List T.Pk) (p : T.Pk) (n : Nat) (Post : PT),
  (ASpec prog 124 [.msl 2 1 0 s.length, T.sB p.1] (hpv98_20 p s) fun r H' => ∃ (x : Int), r = AV.int .i64 x ∧ H' = (hpv98_20 p s) ∧ AWP prog 37 n c98_3 [(3, .ptr 0 0), (5, .msl 2 1 0 s.length), (6, .int .i64 x)] (hpv98_20 p s) (q98_0 n Post)) → AWP prog 37 n c98_2 [(3, .ptr 0 0), (5, .msl 2 1 0 s.length)] [AObj.cells (T.encPk p), .arr 2 (.map T.encPk T.noPk s)] (q98_0 n Post) := fun s p n Post h => Go.Ab.awp_sound g98 n _ _ _ _ (kc (by kernel_rfl) h)
def q98_1 (n : Nat) (Post : PT) : AQ := seqQ (fun s' H' => awp prog g98 n (codeSnd c98_3) s' H' (q98_0 n Post)) (q98_0 n Post)
def c98_5 : Code := codeSnd (codeFst (codeSnd (codeFst c98_3)))
theorem v98_3 : ∀ (s : List T.Pk) (p : T.Pk) (k : Int) (n : Nat) (Post : PT),
  condP (decide (k < (↑s.length : Int))) (needP (0 ≤ k ∧ k < (↑s.length : Int)) (needP (0 + Int.toNat k < List.length s) (condP (ByteArray.toList ⟨(s.getD (0 + Int.toNat k) T.noPk).1.toArray⟩ == ByteArray.toList ⟨p.1.toArray⟩) (needP (0 ≤ k ∧ k < (↑s.length : Int)) (needP (0 + Int.toNat k < List.length s) (AWP prog 37 n c98_5 [(5, .msl 2 1 0 s.length)] [AObj.cells [T.sB p.1, .int .i64 p.2], .arr 2 (.raw (List.set (Seq.toList (.map T.encPk T.noPk s)) (0 + Int.toNat k) [T.sB p.1, .int .i64 p.2]))] (q98_1 n Post)))) (ASpec prog 143 [.msl 2 1 0 s.length, .int .i64 k, AV.sl 2 (.raw [[T.sB p.1, .int .i64 p.2]]) .full] [AObj.cells [T.sB p.1, .int .i64 p.2], .arr 2 (.map T.encPk T.noPk s)] fun r H' => ∃ (x : List T.Pk), r = T.aK x ∧ H' = [AObj.cells [T.sB p.1, .int .i64 p.2], .gone] ∧ Post (T.aK x) [AObj.cells [T.sB p.1, .int .i64 p.2], .gone])))) (ASpec prog 143 [.msl 2 1 0 s.length, .int .i64 k, AV.sl 2 (.raw [[T.sB p.1, .int .i64 p.2]]) .full] [AObj.cells [T.sB p.1, .int .i64 p.2], .arr 2 (.map T.encPk T.noPk s)] fun r H' => ∃ (x : List T.Pk), r = T.aK x ∧ H' = [AObj.cells [T.sB p.1, .int .i64 p.2], .gone] ∧ Post (T.aK x) [AObj.cells [T.sB p.1, .int .i64 p.2], .gone]) → AWP prog 37 n c98_3 [(3, .ptr 0 0), (5, .msl 2 1 0 s.length), (6, .int .i64 k)] [AObj.cells (T.encPk p), .arr 2 (.map T.encPk T.noPk s)] (q98_0 n Post) := fun s p k n Post h => Go.Ab.awp_sound g98 n _ _ _ _ (kc (by kernel_rfl) h)
theorem v98_5 : ∀ (s : List T.Pk) (p : T.Pk) (n : Nat) (Post : PT),
  Post (.msl 2 1 0 s.length) [AObj.cells [T.sB p.1, .int .i64 p.2], .arr 2 (.map T.encPk T.noPk s)] → AWP prog 37 n c98_5 [(5, .msl 2 1 0 s.length)] [AObj.cells (T.encPk p), .arr 2 (.map T.encPk T.noPk s)] (q98_1 n Post) := fun s p n Post h => Go.Ab.awp_sound g98 n _ _ _ _ (kc (by kernel_rfl) h)
def m142 : Nat → Bool
  | 7 => true
  | _ => false
def g142 : Cfg := { N := 8, live := nol, cut := nof, mu := m142, ret := rets }
theorem s142s : ∀ (s : List T.Pk) (Post : PT),
  (∀ (b : Bool), (b = true → Seq.toList (.map T.encPk T.noPk s) = []) → condP b (Post (.sl 0 (.raw []) .nil) []) (needP (∀ (x : T.Pk), List.all (T.encPk x) oneAV = true) (needP ((0 + List.length s) * 24 ≤ 140737488351232) (needP (1 ≤ List.length s) (Post (.msl 2 0 0 s.length) [AObj.arr 2 (.map T.encPk T.noPk s)]))))) → ASpec prog 142 [T.aK s] [] Post := fun s Post h => ASpec.of_vc g142 Tryz.func142 (by kernel_rfl) (by kernel_rfl) (by kernel_rfl) (kc (by kernel_rfl) h)
end
end In
end

noncomputable section
open Go Go.Ab Go.Proofs
open Go.Proofs.Tryz (prog)
namespace Inn
noncomputable section
def tokId : List AV → Nat
  | .sl _ _ (.tok id) :: _ => id
  | _ => 1000
def retI : List (Nat × Ret) := [
  (142, ⟨Unit, fun _ H _ => .sl 0 (.raw []) .nil, fun _ H _ => H⟩),
  (142, ⟨Unit, fun _ H _ => .sl 2 (.map T.encPk T.noPk []) (.tok H.length), fun _ H _ => H ++ [.tok]⟩),
  (124, ⟨Int, fun _ _ x => .int .i64 x, fun _ H _ => H⟩),
  (143, ⟨List T.Pk, fun _ _ x => T.aK x, fun a H _ => H.set (tokId a) .gone⟩)]
def rets : FuncId → List Ret := lookupR (retI ++ C.retC ++ V.retL)
def g142 : Cfg := { N := 8, live := nol, cut := nof, mu := nof, ret := rets }
theorem s142 : ∀ (Post : PT),
  (∀ (b : Bool), (b = true → Seq.toList (.map T.encPk T.noPk []) = []) → condP b (Post (.sl 0 (.raw []) .nil) []) (needP (∀ (x : T.Pk), List.all (T.encPk x) oneAV = true) (needP (0 ≤ 140737488351232) (Post (.sl 2 (.app (.raw []) (.map T.encPk T.noPk [])) (.tok 0)) [AObj.tok])))) → ASpec prog 142 [.sl 2 (.map T.encPk T.noPk []) .none] [] Post := fun Post h => ASpec.of_vc g142 Tryz.func142 (by kernel_rfl) (by kernel_rfl) (by kernel_rfl) (kc (by kernel_rfl) h)
def g143 : Cfg := { N := 95, live := nol, cut := nof, mu := nof, ret := rets }
theorem s143n : ∀ (p : T.Pk) (Post : PT),
  needP ((0 : Int) ≤ (0 : Int) ∧ (0 : Int) ≤ (0 : Int)) (needP (24 ≤ 140737488351232) (Post (.sl 2 (.app (.raw []) (.raw [[T.sB p.1, .int .i64 p.2]])) (.tok 0)) [AObj.tok])) → ASpec prog 143 [.sl 0 (.raw []) .nil, AV.int .i64 0, .sl 2 (.raw [T.encPk p]) .full] [] Post := fun p Post h => ASpec.of_vc g143 Tryz.func143 (by kernel_rfl) (by kernel_rfl) (by kernel_rfl) (kc (by kernel_rfl) h)
theorem s143t : ∀ (p : T.Pk) (Post : PT),
  needP ((0 : Int) ≤ (0 : Int) ∧ (0 : Int) ≤ (0 : Int)) (needP (24 ≤ 140737488351232) (Post (.sl 2 (.app (.map T.encPk T.noPk []) (.raw [[T.sB p.1, .int .i64 p.2]])) (.tok 1)) [AObj.gone, .tok])) → ASpec prog 143 [.sl 2 (.map T.encPk T.noPk []) (.tok 0), .int .i64 0, .sl 2 (.raw [T.encPk p]) .full] [AObj.tok] Post := fun p Post h => ASpec.of_vc g143 Tryz.func143 (by kernel_rfl) (by kernel_rfl) (by kernel_rfl) (kc (by kernel_rfl) h)
def l98 : Nat → List Nat
  | 2 => [3, 5]
  | 3 => [3, 5, 6]
  | _ => []
def u98 : Nat → Bool
  | 2 => true
  | 3 => true
  | _ => false
def g98 : Cfg := { N := 37, live := l98, cut := u98, mu := nof, ret := rets }
def c98 : Code := bodyOf Tryz.f98
def q98_0 (n : Nat) (Post : PT) : AQ := endQ prog (resultsOf Tryz.f98) Post
def c98_2 : Code := codeSnd (codeSnd c98)
theorem s98 : ∀ (p : T.Pk) (Post : PT),
  (ASpec prog 142 [.sl 2 (.map T.encPk T.noPk []) .none] [AObj.cells [T.sB p.1, .int .i64 p.2]] fun r H' => (∃ (x : Unit), r = AV.sl 0 (.raw []) .nil ∧ H' = [AObj.cells [T.sB p.1, .int .i64 p.2]] ∧ AWP prog 37 0 c98_2 [(3, .ptr 0 0), (5, .sl 0 (.raw []) .nil)] [AObj.cells [T.sB p.1, .int .i64 p.2]] (q98_0 0 Post)) ∨ ∃ (x : Unit), r = AV.sl 2 (.map T.encPk T.noPk []) (.tok 1) ∧ H' = [AObj.cells [T.sB p.1, .int .i64 p.2], .tok] ∧ AWP prog 37 0 c98_2 [(3, .ptr 0 0), (5, .sl 2 (.map T.encPk T.noPk []) (.tok 1))] [AObj.cells [T.sB p.1, .int .i64 p.2], .tok] (q98_0 0 Post)) → ASpec prog 98 [.sl 2 (.map T.encPk T.noPk []) .none, .agg (T.encPk p)] [] Post := fun p Post h => ASpec.of_vc g98 Tryz.func98 (by kernel_rfl) (by kernel_rfl) (by kernel_rfl) (kc (by kernel_rfl) h)
def c98_3 : Code := codeSnd c98_2
theorem v98_2n : ∀ (p : T.Pk) (n : Nat) (Post : PT),
  (ASpec prog 124 [.sl 0 (.raw []) .nil, T.sB p.1] [AObj.cells [T.sB p.1, .int .i64 p.2]] fun r H' => ∃ (x : Int), r = AV.int .i64 x ∧ H' = [AObj.cells [T.sB p.1, .int .i64 p.2]] ∧ AWP prog 37 n c98_3 [(3, .ptr 0 0), (5, .sl 0 (.raw []) .nil), (6, .int .i64 x)] [AObj.cells [T.sB p.1, .int .i64 p.2]] (q98_0 n Post)) → AWP prog 37 n c98_2 [(3, .ptr 0 0), (5, .sl 0 (.raw []) .nil)] [AObj.cells (T.encPk p)] (q98_0 n Post) := fun p n Post h => Go.Ab.awp_sound g98 n _ _ _ _ (kc (by kernel_rfl) h)
theorem v98_2t : ∀ (p : T.Pk) (n : Nat) (Post : PT),
  (ASpec prog 124 [.sl 2 (.map T.encPk T.noPk []) (.tok 1), T.sB p.1] [AObj.cells [T.sB p.1, .int .i64 p.2], .tok] fun r H' => ∃ (x : Int), r = AV.int .i64 x ∧ H' = [AObj.cells [T.sB p.1, .int .i64 p.2], .tok] ∧ AWP prog 37 n c98_3 [(3, .ptr 0 0), (5, .sl 2 (.map T.encPk T.noPk []) (.tok 1)), (6, .int .i64 x)] [AObj.cells [T.sB p.1, .int .i64 p.2], .tok] (q98_0 n Post)) → AWP prog 37 n c98_2 [(3, .ptr 0 0), (5, .sl 2 (.map T.encPk T.noPk []) (.tok 1))] [AObj.cells (T.encPk p), .tok] (q98_0 n Post) := fun p n Post h => Go.Ab.awp_sound g98 n _ _ _ _ (kc (by kernel_rfl) h)
theorem v98_3n : ∀ (p : T.Pk) (k : Int) (n : Nat) (Post : PT),
  condP (decide (k < (0 : Int))) (needP (0 ≤ k ∧ k < (0 : Int)) False) (ASpec prog 143 [.sl 0 (.raw []) .nil, AV.int .i64 k, AV.sl 2 (.raw [[T.sB p.1, .int .i64 p.2]]) .full] [AObj.cells [T.sB p.1, .int .i64 p.2]] fun r H' => ∃ (x : List T.Pk), r = T.aK x ∧ H' = [AObj.cells [T.sB p.1, .int .i64 p.2]] ∧ Post (T.aK x) [AObj.cells [T.sB p.1, .int .i64 p.2]]) → AWP prog 37 n c98_3 [(3, .ptr 0 0), (5, .sl 0 (.raw []) .nil), (6, .int .i64 k)] [AObj.cells (T.encPk p)] (q98_0 n Post) := fun p k n Post h => Go.Ab.awp_sound g98 n _ _ _ _ (kc (by kernel_rfl) h)
theorem v98_3t : ∀ (p : T.Pk) (k : Int) (n : Nat) (Post : PT),
  condP (decide (k < (0 : Int))) (needP (0 ≤ k ∧ k < (0 : Int)) (condP (ByteArray.toList ⟨(List.getD [] k.toNat T.noPk).1.toArray⟩ == ByteArray.toList ⟨p.1.toArray⟩) (needP (0 ≤ k ∧ k < (0 : Int)) False) (ASpec prog 143 [.sl 2 (.map T.encPk T.noPk []) (.tok 1), .int .i64 k, AV.sl 2 (.raw [[T.sB p.1, .int .i64 p.2]]) .full] [AObj.cells [T.sB p.1, .int .i64 p.2], .tok] fun r H' => ∃ (x : List T.Pk), r = T.aK x ∧ H' = [AObj.cells [T.sB p.1, .int .i64 p.2], .gone] ∧ Post (T.aK x) [AObj.cells [T.sB p.1, .int .i64 p.2], .gone]))) (ASpec prog 143 [.sl 2 (.map T.encPk T.noPk []) (.tok 1), .int .i64 k, AV.sl 2 (.raw [[T.sB p.1, .int .i64 p.2]]) .full] [AObj.cells [T.sB p.1, .int .i64 p.2], .tok] fun r H' => ∃ (x : List T.Pk), r = T.aK x ∧ H' = [AObj.cells [T.sB p.1, .int .i64 p.2], .gone] ∧ Post (T.aK x) [AObj.cells [T.sB p.1, .int .i64 p.2], .gone]) → AWP prog 37 n c98_3 [(3, .ptr 0 0), (5, .sl 2 (.map T.encPk T.noPk []) (.tok 1)), (6, .int .i64 k)] [AObj.cells (T.encPk p), .tok] (q98_0 n Post) := fun p k n Post h => Go.Ab.awp_sound g98 n _ _ _ _ (kc (by kernel_rfl) h)
end
end Inn
end

noncomputable section
open Go Go.Ab Go.Proofs
open Go.Proofs.Tryz (prog)
namespace S
noncomputable section
def retS : List (Nat × Ret) := [
  (18032, ⟨Unit, fun _ _ _ => .bool true, fun _ H _ => H⟩),
  (18033, ⟨ByteArray × List UInt8 × Int, fun _ _ x => .tup [.str x.1, .sl 1 (.map encB 0 x.2.1) .none, .int .i64 x.2.2], fun _ H _ => H⟩),
  (9045, ⟨ByteArray × ByteArray × Int, fun _ _ x => .tup [.str x.1, .str x.2.1, .int .i64 x.2.2], fun _ H _ => H⟩),
  (9262, ⟨List UInt8, fun _ _ x => .sl 1 (.map encB 0 x) .none, fun _ H _ => H⟩),
  (9325, ⟨ByteArray, fun _ _ x => .str x, fun _ H _ => H⟩),
  (41, ⟨Bool, fun _ _ x => .bool x, fun _ H _ => H⟩),
  (18090, ⟨List UInt8 × Bool, fun _ _ x => .tup [.sl 1 (.map encB 0 x.1) .none, .bool x.2], fun _ H _ => H⟩),
  (51, ⟨Bool, fun _ _ x => .bool x, fun _ H _ => H⟩),
  (9170, ⟨ByteArray × Bool, fun _ _ x => .tup [.str x.1, .bool x.2], fun _ H _ => H⟩),
  (9323, ⟨List UInt8, fun _ _ x => .sl 1 (.map encB 0 x) .none, fun _ H _ => H⟩),
  (9263, ⟨ByteArray, fun _ _ x => .str x, fun _ H _ => H⟩),
  (91, ⟨List Int, fun _ _ x => .sl 1 (.map encI 0 x) .none, fun _ H _ => H⟩),
  (92, ⟨Int, fun _ _ x => .int .i64 x, fun _ H _ => H⟩),
  (9372, ⟨Int, fun _ _ x => .int .u32 x, fun _ H _ => H⟩),
  (100, ⟨Int, fun _ _ x => .int .i64 x, fun _ H _ => H⟩),
  (9324, ⟨Int, fun _ _ x => .int .i64 x, fun _ H _ => H⟩),
  (138, ⟨Int × Int, fun _ _ x => .tup [.int .i64 x.1, .int .i64 x.2], fun _ H _ => H⟩),
  (9393, ⟨Int, fun _ _ x => .int .u32 x, fun _ H _ => H⟩),
  (9373, ⟨Int, fun _ _ x => .int .i64 x, fun _ H _ => H⟩),
  (182, ⟨Int, fun _ _ x => .int .i64 x, fun _ H _ => H⟩)]
def rets : FuncId → List Ret := lookupR (retS ++ V.retL)
def g100 : Cfg := { N := 27, live := nol, cut := nof, mu := nof, ret := rets }
theorem s100 : ∀ (c : Int) (Post : PT),
  condP (decide (c ≥ (97 : Int))) (condP (decide (c ≤ (122 : Int))) (Post (.int .i64 0) []) (condP (decide (c ≥ (945 : Int))) (condP (decide (c ≤ (969 : Int))) (Post (.int .i64 1) []) (condP (decide (c ≥ (48 : Int))) (condP (decide (c ≤ (57 : Int))) (Post (.int .i64 2) []) (condP (c == (45 : Int)) (Post (.int .i64 3) []) (Post (.int .i64 4) []))) (condP (c == (45 : Int)) (Post (.int .i64 3) []) (Post (.int .i64 4) [])))) (condP (decide (c ≥ (48 : Int))) (condP (decide (c ≤ (57 : Int))) (Post (.int .i64 2) []) (condP (c == (45 : Int)) (Post (.int .i64 3) []) (Post (.int .i64 4) []))) (condP (c == (45 : Int)) (Post (.int .i64 3) []) (Post (.int .i64 4) []))))) (condP (decide (c ≥ (945 : Int))) (condP (decide (c ≤ (969 : Int))) (Post (.int .i64 1) []) (condP (decide (c ≥ (48 : Int))) (condP (decide (c ≤ (57 : Int))) (Post (.int .i64 2) []) (condP (c == (45 : Int)) (Post (.int .i64 3) []) (Post (.int .i64 4) []))) (condP (c == (45 : Int)) (Post (.int .i64 3) []) (Post (.int .i64 4) [])))) (condP (decide (c ≥ (48 : Int))) (condP (decide (c ≤ (57 : Int))) (Post (.int .i64 2) []) (condP (c == (45 : Int)) (Post (.int .i64 3) []) (Post (.int .i64 4) []))) (condP (c == (45 : Int)) (Post (.int .i64 3) []) (Post (.int .i64 4) [])))) → ASpec prog 100 [.int .i32 c] [] Post := fun c Post h => ASpec.of_vc g100 Tryz.func100 (by kernel_rfl) (by kernel_rfl) (by kernel_rfl) (kc (by kernel_rfl) h)
def g92 : Cfg := { N := 23, live := nol, cut := nof, mu := nof, ret := rets }
theorem s92 : ∀ (c : Int) (Post : PT),
  condP (decide (c ≥ (97 : Int))) (condP (decide (c ≤ (122 : Int))) (Post (.int .i64 0) []) (condP (decide (c ≥ (945 : Int))) (condP (decide (c ≤ (969 : Int))) (Post (.int .i64 1) []) (condP (decide (c ≥ (48 : Int))) (condP (decide (c ≤ (57 : Int))) (Post (.int .i64 2) []) (condP (c == (45 : Int)) (Post (.int .i64 3) []) (Post (.int .i64 4) []))) (condP (c == (45 : Int)) (Post (.int .i64 3) []) (Post (.int .i64 4) [])))) (condP (decide (c ≥ (48 : Int))) (condP (decide (c ≤ (57 : Int))) (Post (.int .i64 2) []) (condP (c == (45 : Int)) (Post (.int .i64 3) []) (Post (.int .i64 4) []))) (condP (c == (45 : Int)) (Post (.int .i64 3) []) (Post (.int .i64 4) []))))) (condP (decide (c ≥ (945 : Int))) (condP (decide (c ≤ (969 : Int))) (Post (.int .i64 1) []) (condP (decide (c ≥ (48 : Int))) (condP (decide (c ≤ (57 : Int))) (Post (.int .i64 2) []) (condP (c == (45 : Int)) (Post (.int .i64 3) []) (Post (.int .i64 4) []))) (condP (c == (45 : Int)) (Post (.int .i64 3) []) (Post (.int .i64 4) [])))) (condP (decide (c ≥ (48 : Int))) (condP (decide (c ≤ (57 : Int))) (Post (.int .i64 2) []) (condP (c == (45 : Int)) (Post (.int .i64 3) []) (Post (.int .i64 4) []))) (condP (c == (45 : Int)) (Post (.int .i64 3) []) (Post (.int .i64 4) [])))) → ASpec prog 92 [.int .i64 c] [] Post := fun c Post h => ASpec.of_vc g92 Tryz.func92 (by kernel_rfl) (by kernel_rfl) (by kernel_rfl) (kc (by kernel_rfl) h)
def l51 : Nat → List Nat
  | 3 => [3, 8]
  | _ => []
def g51 : Cfg := { N := 32, live := l51, cut := nof, mu := nof, ret := rets }
def c51 : Code := bodyOf Tryz.f51
def q51_0 (n : Nat) (Post : PT) : AQ := endQ prog (resultsOf Tryz.f51) Post
def q51_1 (n : Nat) (Post : PT) : AQ := seqQ (fun s' H' => awp prog g51 n (codeSnd (codeSnd (codeSnd c51))) s' H' (q51_0 n Post)) (q51_0 n Post)
def q51_2 (n : Nat) (Post : PT) : AQ := blockQ 0 (q51_1 n Post)
def c51_3 : Code := codeFst (codeSnd (codeFst (codeSnd (codeSnd c51))))
theorem s51 : ∀ (s : ByteArray) (Post : PT),
  AWP prog 32 0 c51_3 [(3, .int .i64 0), (8, .ptr 0 0)] [AObj.siter s 0] (q51_2 0 Post) → ASpec prog 51 [.str s] [] Post := fun s Post h => ASpec.of_vc g51 Tryz.func51 (by kernel_rfl) (by kernel_rfl) (by kernel_rfl) (kc (by kernel_rfl) h)
theorem v51_3 : ∀ (s : ByteArray) (pos : Nat) (n : Int) (n_1 : Nat) (Post : PT),
  condP (decide (pos < ByteArray.size s)) (ASpec prog 100 [.int .i32 (↑(Utf8.decode s pos).1 : Int)] [AObj.siter s (pos + (Utf8.decode s pos).2)] fun r H' => ∃ (x : Int), r = AV.int .i64 x ∧ H' = [AObj.siter s (pos + (Utf8.decode s pos).2)] ∧ condP (decide (x > (3 : Int))) (Post (.bool false) [AObj.siter s (pos + (Utf8.decode s pos).2)]) (condP (n == (0 : Int)) (condP (decide (x > (1 : Int))) (Post (.bool false) [AObj.siter s (pos + (Utf8.decode s pos).2)]) (condP (n == (12 : Int)) (Post (.bool false) [AObj.siter s (pos + (Utf8.decode s pos).2)]) (AWP prog 32 n_1 c51_3 [(3, .int .i64 (IntKind.wrap .i64 (n + (1 : Int)))), (8, .ptr 0 0)] [AObj.siter s (pos + (Utf8.decode s pos).2)] (q51_2 n_1 Post)))) (condP (n == (12 : Int)) (Post (.bool false) [AObj.siter s (pos + (Utf8.decode s pos).2)]) (AWP prog 32 n_1 c51_3 [(3, .int .i64 (IntKind.wrap .i64 (n + (1 : Int)))), (8, .ptr 0 0)] [AObj.siter s (pos + (Utf8.decode s pos).2)] (q51_2 n_1 Post))))) (Post (.bool (decide (n > (0 : Int)))) [AObj.siter s pos]) → AWP prog 32 n_1 c51_3 [(3, .int .i64 n), (8, .ptr 0 0)] [AObj.siter s pos] (q51_2 n_1 Post) := fun s pos n n Post h => AWP.loop' g51 (Cfg.live g51) c51_3 (by kernel_rfl) (by kernel_rfl) (kc (by kernel_rfl) h)
def l182 : Nat → List Nat
  | 5 => [0, 1, 5, 6]
  | 7 => [0, 1, 5, 6]
  | 9 => [0, 1, 5, 6]
  | 11 => [0, 1, 5, 6]
  | 12 => [0, 1, 5, 6, 7]
  | 16 => [0, 1, 5, 6]
  | _ => []
def u182 : Nat → Bool
  | 5 => true
  | 7 => true
  | 9 => true
  | 11 => true
  | 16 => true
  | _ => false
def g182 : Cfg := { N := 96, live := l182, cut := u182, mu := nof, ret := rets }
def c182 : Code := bodyOf Tryz.f182
def q182_0 (n : Nat) (Post : PT) : AQ := endQ prog (resultsOf Tryz.f182) Post
def c182_5 : Code := codeSnd (codeSnd (codeSnd (codeSnd c182)))
theorem s182 : ∀ (s : ByteArray) (p : Int) (Post : PT),
  needP (0 ≤ p ∧ p < (↑(ByteArray.size s) : Int)) (condP (decide (IntKind.wrap .i64 (↑(UInt8.toNat (List.getD (Array.toList (ByteArray.data s)) p.toNat (0 : UInt8))) : Int) ≥ (194 : Int))) (condP (decide (IntKind.wrap .i64 (↑(UInt8.toNat (List.getD (Array.toList (ByteArray.data s)) p.toNat (0 : UInt8))) : Int) ≤ (223 : Int))) (AWP prog 96 0 c182_5 [(0, .str s), (1, .int .i64 p), (5, .int .i64 2), (6, .int .i64 (IntKind.wrap .i64 (↑(UInt8.toNat (List.getD (Array.toList (ByteArray.data s)) p.toNat (0 : UInt8))) : Int)))] [] (q182_0 0 Post)) (AWP prog 96 0 c182_5 [(0, .str s), (1, .int .i64 p), (5, .int .i64 0), (6, .int .i64 (IntKind.wrap .i64 (↑(UInt8.toNat (List.getD (Array.toList (ByteArray.data s)) p.toNat (0 : UInt8))) : Int)))] [] (q182_0 0 Post))) (AWP prog 96 0 c182_5 [(0, .str s), (1, .int .i64 p), (5, .int .i64 0), (6, .int .i64 (IntKind.wrap .i64 (↑(UInt8.toNat (List.getD (Array.toList (ByteArray.data s)) p.toNat (0 : UInt8))) : Int)))] [] (q182_0 0 Post))) → ASpec prog 182 [.str s, AV.int .i64 p] [] Post := fun s p Post h => ASpec.of_vc g182 Tryz.func182 (by kernel_rfl) (by kernel_rfl) (by kernel_rfl) (kc (by kernel_rfl) h)
def c182_7 : Code := codeSnd c182_5
theorem v182_5 : ∀ (s : ByteArray) (p n c : Int) (n_1 : Nat) (Post : PT),
  condP (decide (c ≥ (224 : Int))) (condP (decide (c ≤ (239 : Int))) (AWP prog 96 n_1 c182_7 [(0, .str s), (1, .int .i64 p), (5, .int .i64 3), (6, .int .i64 c)] [] (q182_0 n_1 Post)) (AWP prog 96 n_1 c182_7 [(0, .str s), (1, .int .i64 p), (5, .int .i64 n), (6, .int .i64 c)] [] (q182_0 n_1 Post))) (AWP prog 96 n_1 c182_7 [(0, .str s), (1, .int .i64 p), (5, .int .i64 n), (6, .int .i64 c)] [] (q182_0 n_1 Post)) → AWP prog 96 n_1 c182_5 [(0, .str s), (1, .int .i64 p), (5, .int .i64 n), (6, .int .i64 c)] [] (q182_0 n_1 Post) := fun s p n c n Post h => Go.Ab.awp_sound g182 n _ _ _ _ (kc (by kernel_rfl) h)
def c182_9 : Code := codeSnd c182_7
theorem v182_7 : ∀ (s : ByteArray) (p n c : Int) (n_1 : Nat) (Post : PT),
  condP (decide (c ≥ (240 : Int))) (condP (decide (c ≤ (244 : Int))) (AWP prog 96 n_1 c182_9 [(0, .str s), (1, .int .i64 p), (5, .int .i64 4), (6, .int .i64 c)] [] (q182_0 n_1 Post)) (AWP prog 96 n_1 c182_9 [(0, .str s), (1, .int .i64 p), (5, .int .i64 n), (6, .int .i64 c)] [] (q182_0 n_1 Post))) (AWP prog 96 n_1 c182_9 [(0, .str s), (1, .int .i64 p), (5, .int .i64 n), (6, .int .i64 c)] [] (q182_0 n_1 Post)) → AWP prog 96 n_1 c182_7 [(0, .str s), (1, .int .i64 p), (5, .int .i64 n), (6, .int .i64 c)] [] (q182_0 n_1 Post) := fun s p n c n Post h => Go.Ab.awp_sound g182 n _ _ _ _ (kc (by kernel_rfl) h)
def c182_11 : Code := codeSnd c182_9
theorem v182_9 : ∀ (s : ByteArray) (p n c : Int) (n_1 : Nat) (Post : PT),
  condP (n == (0 : Int)) (Post (.int .i64 0) []) (condP (decide (IntKind.wrap .i64 ((↑(ByteArray.size s) : Int) - p) < n)) (Post (.int .i64 0) []) (AWP prog 96 n_1 c182_11 [(0, .str s), (1, .int .i64 p), (5, .int .i64 n), (6, .int .i64 c)] [] (q182_0 n_1 Post))) → AWP prog 96 n_1 c182_9 [(0, .str s), (1, .int .i64 p), (5, .int .i64 n), (6, .int .i64 c)] [] (q182_0 n_1 Post) := fun s p n c n Post h => Go.Ab.awp_sound g182 n _ _ _ _ (kc (by kernel_rfl) h)
def c182_16 : Code := codeSnd c182_11
def q182_1 (n : Nat) (Post : PT) : AQ := seqQ (fun (s' : Slots) (H' : List AObj) => AWP prog (Cfg.N g182) n c182_16 (restrict s' (Cfg.live g182 16)) H' (q182_0 n Post)) (q182_0 n Post)
def q182_2 (n : Nat) (Post : PT) : AQ := blockQ 0 (q182_1 n Post)
def c182_12 : Code := codeFst (codeSnd (codeFst c182_11))
theorem v182_11 : ∀ (s : ByteArray) (p n c : Int) (n_1 : Nat) (Post : PT),
  AWP prog 96 n_1 c182_12 [(0, .str s), (1, .int .i64 p), (5, .int .i64 n), (6, .int .i64 c), (7, .int .i64 1)] [] (q182_2 n_1 Post) → AWP prog 96 n_1 c182_11 [(0, .str s), (1, .int .i64 p), (5, .int .i64 n), (6, .int .i64 c)] [] (q182_0 n_1 Post) := fun s p n c n Post h => Go.Ab.awp_sound g182 n _ _ _ _ (kc (by kernel_rfl) h)
theorem v182_16 : ∀ (s : ByteArray) (p n c : Int) (n_1 : Nat) (Post : PT),
  needP ((0 : Int) ≤ IntKind.wrap .i64 (p + (1 : Int)) ∧ IntKind.wrap .i64 (p + (1 : Int)) < (↑(ByteArray.size s) : Int)) (condP (c == (224 : Int)) (condP (decide (IntKind.wrap .i64 (↑(UInt8.toNat (List.getD (Array.toList (ByteArray.data s)) (Int.toNat (IntKind.wrap .i64 (p + (1 : Int)))) (0 : UInt8))) : Int) < (160 : Int))) (Post (.int .i64 0) []) (condP (c == (237 : Int)) (condP (decide (IntKind.wrap .i64 (↑(UInt8.toNat (List.getD (Array.toList (ByteArray.data s)) (Int.toNat (IntKind.wrap .i64 (p + (1 : Int)))) (0 : UInt8))) : Int) > (159 : Int))) (Post (.int .i64 0) []) (condP (c == (240 : Int)) (condP (decide (IntKind.wrap .i64 (↑(UInt8.toNat (List.getD (Array.toList (ByteArray.data s)) (Int.toNat (IntKind.wrap .i64 (p + (1 : Int)))) (0 : UInt8))) : Int) < (144 : Int))) (Post (.int .i64 0) []) (condP (c == (244 : Int)) (condP (decide (IntKind.wrap .i64 (↑(UInt8.toNat (List.getD (Array.toList (ByteArray.data s)) (Int.toNat (IntKind.wrap .i64 (p + (1 : Int)))) (0 : UInt8))) : Int) > (143 : Int))) (Post (.int .i64 0) []) (Post (.int .i64 n) [])) (Post (.int .i64 n) []))) (condP (c == (244 : Int)) (condP (decide (IntKind.wrap .i64 (↑(UInt8.toNat (List.getD (Array.toList (ByteArray.data s)) (Int.toNat (IntKind.wrap .i64 (p + (1 : Int)))) (0 : UInt8))) : Int) > (143 : Int))) (Post (.int .i64 0) []) (Post (.int .i64 n) [])) (Post (.int .i64 n) [])))) (condP (c == (240 : Int)) (condP (decide (IntKind.wrap .i64 (↑(UInt8.toNat (List.getD (Array.toList (ByteArray.data s)) (Int.toNat (IntKind.wrap .i64 (p + (1 : Int)))) (0 : UInt8))) : Int) < (144 : Int))) (Post (.int .i64 0) []) (condP (c == (244 : Int)) (condP (decide (IntKind.wrap .i64 (↑(UInt8.toNat (List.getD (Array.toList (ByteArray.data s)) (Int.toNat (IntKind.wrap .i64 (p + (1 : Int)))) (0 : UInt8))) : Int) > (143 : Int))) (Post (.int .i64 0) []) (Post (.int .i64 n) [])) (Post (.int .i64 n) []))) (condP (c == (244 : Int)) (condP (decide (IntKind.wrap .i64 (↑(UInt8.toNat (List.getD (Array.toList (ByteArray.data s)) (Int.toNat (IntKind.wrap .i64 (p + (1 : Int)))) (0 : UInt8))) : Int) > (143 : Int))) (Post (.int .i64 0) []) (Post (.int .i64 n) [])) (Post (.int .i64 n) []))))) (condP (c == (237 : Int)) (condP (decide (IntKind.wrap .i64 (↑(UInt8.toNat (List.getD (Array.toList (ByteArray.data s)) (Int.toNat (IntKind.wrap .i64 (p + (1 : Int)))) (0 : UInt8))) : Int) > (159 : Int))) (Post (.int .i64 0) []) (condP (c == (240 : Int)) (condP (decide (IntKind.wrap .i64 (↑(UInt8.toNat (List.getD (Array.toList (ByteArray.data s)) (Int.toNat (IntKind.wrap .i64 (p + (1 : Int)))) (0 : UInt8))) : Int) < (144 : Int))) (Post (.int .i64 0) []) (condP (c == (244 : Int)) (condP (decide (IntKind.wrap .i64 (↑(UInt8.toNat (List.getD (Array.toList (ByteArray.data s)) (Int.toNat (IntKind.wrap .i64 (p + (1 : Int)))) (0 : UInt8))) : Int) > (143 : Int))) (Post (.int .i64 0) []) (Post (.int .i64 n) [])) (Post (.int .i64 n) []))) (condP (c == (244 : Int)) (condP (decide (IntKind.wrap .i64 (↑(UInt8.toNat (List.getD (Array.toList (ByteArray.data s)) (Int.toNat (IntKind.wrap .i64 (p + (1 : Int)))) (0 : UInt8))) : Int) > (143 : Int))) (Post (.int .i64 0) []) (Post (.int .i64 n) [])) (Post (.int .i64 n) [])))) (condP (c == (240 : Int)) (condP (decide (IntKind.wrap .i64 (↑(UInt8.toNat (List.getD (Array.toList (ByteArray.data s)) (Int.toNat (IntKind.wrap .i64 (p + (1 : Int)))) (0 : UInt8))) : Int) < (144 : Int))) (Post (.int .i64 0) []) (condP (c == (244 : Int)) (condP (decide (IntKind.wrap .i64 (↑(UInt8.toNat (List.getD (Array.toList (ByteArray.data s)) (Int.toNat (IntKind.wrap .i64 (p + (1 : Int)))) (0 : UInt8))) : Int) > (143 : Int))) (Post (.int .i64 0) []) (Post (.int .i64 n) [])) (Post (.int .i64 n) []))) (condP (c == (244 : Int)) (condP (decide (IntKind.wrap .i64 (↑(UInt8.toNat (List.getD (Array.toList (ByteArray.data s)) (Int.toNat (IntKind.wrap .i64 (p + (1 : Int)))) (0 : UInt8))) : Int) > (143 : Int))) (Post (.int .i64 0) []) (Post (.int .i64 n) [])) (Post (.int .i64 n) []))))) → AWP prog 96 n_1 c182_16 [(0, .str s), (1, .int .i64 p), (5, .int .i64 n), (6, .int .i64 c)] [] (q182_0 n_1 Post) := fun s p n c n Post h => Go.Ab.awp_sound g182 n _ _ _ _ (kc (by kernel_rfl) h)
theorem v182_12 : ∀ (s : ByteArray) (p n c i : Int) (n_1 : Nat) (Post : PT),
  condP (decide (i < n)) (needP ((0 : Int) ≤ IntKind.wrap .i64 (p + i) ∧ IntKind.wrap .i64 (p + i) < (↑(ByteArray.size s) : Int)) (condP (decide ((↑(UInt8.toNat (List.getD (Array.toList (ByteArray.data s)) (Int.toNat (IntKind.wrap .i64 (p + i))) (0 : UInt8))) : Int) < (128 : Int))) (Post (.int .i64 0) []) (needP ((0 : Int) ≤ IntKind.wrap .i64 (p + i) ∧ IntKind.wrap .i64 (p + i) < (↑(ByteArray.size s) : Int)) (condP (decide ((↑(UInt8.toNat (List.getD (Array.toList (ByteArray.data s)) (Int.toNat (IntKind.wrap .i64 (p + i))) (0 : UInt8))) : Int) > (191 : Int))) (Post (.int .i64 0) []) (AWP prog 96 n_1 c182_12 [(0, .str s), (1, .int .i64 p), (5, .int .i64 n), (6, .int .i64 c), (7, .int .i64 (IntKind.wrap .i64 (i + (1 : Int))))] [] (q182_2 n_1 Post)))))) (AWP prog 96 n_1 c182_16 [(0, .str s), (1, .int .i64 p), (5, .int .i64 n), (6, .int .i64 c)] [] (q182_0 n_1 Post)) → AWP prog 96 n_1 c182_12 [(0, .str s), (1, .int .i64 p), (5, .int .i64 n), (6, .int .i64 c), (7, .int .i64 i)] [] (q182_2 n_1 Post) := fun s p n c i n Post h => AWP.loop' g182 (Cfg.live g182) c182_12 (by kernel_rfl) (by kernel_rfl) (kc (by kernel_rfl) h)
def l138 : Nat → List Nat
  | 9 => [0, 1, 6, 7]
  | 11 => [0, 1, 6, 7]
  | 12 => [0, 1, 6, 7, 8]
  | _ => []
def u138 : Nat → Bool
  | 9 => true
  | 11 => true
  | _ => false
def g138 : Cfg := { N := 58, live := l138, cut := u138, mu := nof, ret := rets }
def c138 : Code := bodyOf Tryz.f138
def q138_0 (n : Nat) (Post : PT) : AQ := endQ prog (resultsOf Tryz.f138) Post
def c138_9 : Code := codeSnd (codeSnd (codeSnd (codeSnd (codeSnd (codeSnd c138)))))
theorem s138 : ∀ (s : ByteArray) (p : Int) (Post : PT),
  needP (0 ≤ p ∧ p < (↑(ByteArray.size s) : Int)) (condP (decide ((↑(UInt8.toNat (List.getD (Array.toList (ByteArray.data s)) p.toNat (0 : UInt8))) : Int) < (128 : Int))) (needP (0 ≤ p ∧ p < (↑(ByteArray.size s) : Int)) (Post (.tup [.int .i64 (IntKind.wrap .i64 (↑(UInt8.toNat (List.getD (Array.toList (ByteArray.data s)) p.toNat (0 : UInt8))) : Int)), .int .i64 1]) [])) (ASpec prog 182 [.str s, AV.int .i64 p] [] fun r H' => ∃ (x : Int), r = AV.int .i64 x ∧ H' = [] ∧ condP (x == (0 : Int)) (Post (.tup [.int .i64 65533, .int .i64 1]) []) (needP (0 ≤ p ∧ p < (↑(ByteArray.size s) : Int)) (needP ((32 : Int) ≠ (0 : Int)) (condP (x == (3 : Int)) (needP (0 ≤ p ∧ p < (↑(ByteArray.size s) : Int)) (needP ((16 : Int) ≠ (0 : Int)) (AWP prog 58 0 c138_9 [(0, .str s), (1, .int .i64 p), (6, .int .i64 x), (7, AV.int .i64 (Int.tmod (IntKind.wrap .i64 (↑(UInt8.toNat (List.getD (Array.toList (ByteArray.data s)) p.toNat (0 : UInt8))) : Int)) (16 : Int)))] [] (q138_0 0 Post)))) (AWP prog 58 0 c138_9 [(0, .str s), (1, .int .i64 p), (6, .int .i64 x), (7, AV.int .i64 (Int.tmod (IntKind.wrap .i64 (↑(UInt8.toNat (List.getD (Array.toList (ByteArray.data s)) p.toNat (0 : UInt8))) : Int)) (32 : Int)))] [] (q138_0 0 Post))))))) → ASpec prog 138 [.str s, AV.int .i64 p] [] Post := fun s p Post h => ASpec.of_vc g138 Tryz.func138 (by kernel_rfl) (by kernel_rfl) (by kernel_rfl) (kc (by kernel_rfl) h)
def c138_11 : Code := codeSnd c138_9
theorem v138_9 : ∀ (s : ByteArray) (p n x : Int) (n_1 : Nat) (Post : PT),
  condP (n == (4 : Int)) (needP (0 ≤ p ∧ p < (↑(ByteArray.size s) : Int)) (needP ((8 : Int) ≠ (0 : Int)) (AWP prog 58 n_1 c138_11 [(0, .str s), (1, .int .i64 p), (6, .int .i64 n), (7, .int .i64 (Int.tmod (IntKind.wrap .i64 (↑(UInt8.toNat (List.getD (Array.toList (ByteArray.data s)) p.toNat (0 : UInt8))) : Int)) (8 : Int)))] [] (q138_0 n_1 Post)))) (AWP prog 58 n_1 c138_11 [(0, .str s), (1, .int .i64 p), (6, .int .i64 n), (7, .int .i64 x)] [] (q138_0 n_1 Post)) → AWP prog 58 n_1 c138_9 [(0, .str s), (1, .int .i64 p), (6, .int .i64 n), (7, .int .i64 x)] [] (q138_0 n_1 Post) := fun s p n x n Post h => Go.Ab.awp_sound g138 n _ _ _ _ (kc (by kernel_rfl) h)
def q138_1 (n : Nat) (Post : PT) : AQ := seqQ (fun s' H' => awp prog g138 n (codeSnd c138_11) s' H' (q138_0 n Post)) (q138_0 n Post)
def q138_2 (n : Nat) (Post : PT) : AQ := blockQ 0 (q138_1 n Post)
def c138_12 : Code := codeFst (codeSnd (codeFst c138_11))
theorem v138_11 : ∀ (s : ByteArray) (p n x : Int) (n_1 : Nat) (Post : PT),
  AWP prog 58 n_1 c138_12 [(0, .str s), (1, .int .i64 p), (6, .int .i64 n), (7, .int .i64 x), (8, .int .i64 1)] [] (q138_2 n_1 Post) → AWP prog 58 n_1 c138_11 [(0, .str s), (1, .int .i64 p), (6, .int .i64 n), (7, .int .i64 x)] [] (q138_0 n_1 Post) := fun s p n x n Post h => Go.Ab.awp_sound g138 n _ _ _ _ (kc (by kernel_rfl) h)
theorem v138_12 : ∀ (s : ByteArray) (p n x i : Int) (n_1 : Nat) (Post : PT),
  condP (decide (i < n)) (needP ((0 : Int) ≤ IntKind.wrap .i64 (p + i) ∧ IntKind.wrap .i64 (p + i) < (↑(ByteArray.size s) : Int)) (needP ((64 : Int) ≠ (0 : Int)) (AWP prog 58 n_1 c138_12 [(0, .str s), (1, .int .i64 p), (6, .int .i64 n), (7, AV.int .i64 (IntKind.wrap .i64 (IntKind.wrap .i64 (x * (64 : Int)) + Int.tmod (IntKind.wrap .i64 (↑(UInt8.toNat (List.getD (Array.toList (ByteArray.data s)) (Int.toNat (IntKind.wrap .i64 (p + i))) (0 : UInt8))) : Int)) (64 : Int)))), (8, .int .i64 (IntKind.wrap .i64 (i + (1 : Int))))] [] (q138_2 n_1 Post)))) (Post (.tup [.int .i64 x, AV.int .i64 n]) []) → AWP prog 58 n_1 c138_12 [(0, .str s), (1, .int .i64 p), (6, .int .i64 n), (7, .int .i64 x), (8, .int .i64 i)] [] (q138_2 n_1 Post) := fun s p n x i n Post h => AWP.loop' g138 (Cfg.live g138) c138_12 (by kernel_rfl) (by kernel_rfl) (kc (by kernel_rfl) h)
def l91 : Nat → List Nat
  | 3 => [0, 3, 4]
  | _ => []
def g91 : Cfg := { N := 25, live := l91, cut := nof, mu := nof, ret := rets }
def c91 : Code := bodyOf Tryz.f91
def q91_0 (n : Nat) (Post : PT) : AQ := endQ prog (resultsOf Tryz.f91) Post
def q91_1 (n : Nat) (Post : PT) : AQ := seqQ (fun s' H' => awp prog g91 n (codeSnd (codeSnd (codeSnd (codeSnd c91)))) s' H' (q91_0 n Post)) (q91_0 n Post)
def q91_2 (n : Nat) (Post : PT) : AQ := blockQ 0 (q91_1 n Post)
def c91_3 : Code := codeFst (codeFst (codeSnd (codeSnd (codeSnd c91))))
theorem s91 : ∀ (s : ByteArray) (Post : PT),
  AWP prog 25 0 c91_3 [(0, .str s), (3, .sl 0 (.raw []) .nil), (4, .int .i64 0)] [] (q91_2 0 Post) → ASpec prog 91 [.str s] [] Post := fun s Post h => ASpec.of_vc g91 Tryz.func91 (by kernel_rfl) (by kernel_rfl) (by kernel_rfl) (kc (by kernel_rfl) h)
theorem v91_3 : ∀ (s : ByteArray) (l : List Int) (p : Int) (n : Nat) (Post : PT),
  condP (decide (p < (↑(ByteArray.size s) : Int))) (ASpec prog 138 [.str s, AV.int .i64 p] [AObj.tok] fun r H' => ∃ (x : Int × Int), r = AV.tup [.int .i64 x.1, .int .i64 x.2] ∧ H' = [AObj.tok] ∧ needP ((List.length l + 1) * 8 ≤ 140737488351232) (AWP prog 25 n c91_3 [(0, .str s), (3, .sl 1 (.app (.map encI 0 l) (.raw [[.int .i64 x.1]])) (.tok 1)), (4, .int .i64 (IntKind.wrap .i64 (p + Prod.snd x)))] [AObj.gone, .tok] (q91_2 n Post))) (Post (.sl 1 (.map encI 0 l) (.tok 0)) [AObj.tok]) → AWP prog 25 n c91_3 [(0, .str s), (3, .sl 1 (.map encI 0 l) (.tok 0)), (4, .int .i64 p)] [AObj.tok] (q91_2 n Post) := fun s l p n Post h => AWP.loop' g91 (Cfg.live g91) c91_3 (by kernel_rfl) (by kernel_rfl) (kc (by kernel_rfl) h)
def l41 : Nat → List Nat
  | 5 => [3, 4]
  | _ => []
def g41 : Cfg := { N := 42, live := l41, cut := nof, mu := nof, ret := rets }
def c41 : Code := bodyOf Tryz.f41
def q41_0 (n : Nat) (Post : PT) : AQ := endQ prog (resultsOf Tryz.f41) Post
def q41_1 (n : Nat) (Post : PT) : AQ := seqQ (fun s' H' => awp prog g41 n (codeSnd (codeSnd (codeSnd (codeSnd c41)))) s' H' (q41_0 n Post)) (q41_0 n Post)
def q41_2 (n : Nat) (Post : PT) : AQ := blockQ 0 (q41_1 n Post)
def c41_5 : Code := codeFst (codeSnd (codeFst (codeSnd (codeSnd (codeSnd c41)))))
theorem s41 : ∀ (s : ByteArray) (Post : PT),
  condP (decide ((↑(ByteArray.size s) : Int) > (100 : Int))) (Post (.bool false) []) (ASpec prog 91 [.str s] [] fun r H' => ∃ (x : List Int), r = AV.sl 1 (.map encI 0 x) .none ∧ H' = [] ∧ AWP prog 42 0 c41_5 [(3, .sl 1 (.map encI 0 x) .none), (4, .int .i64 0)] [] (q41_2 0 Post)) → ASpec prog 41 [.str s] [] Post := fun s Post h => ASpec.of_vc g41 Tryz.func41 (by kernel_rfl) (by kernel_rfl) (by kernel_rfl) (kc (by kernel_rfl) h)
theorem v41_5 : ∀ (l : List Int) (i : Int) (n : Nat) (Post : PT),
  condP (decide (i < (↑l.length : Int))) (needP (0 ≤ i ∧ i < (↑l.length : Int)) (ASpec prog 92 [AV.int .i64 (l.getD i.toNat (0 : Int))] [] fun r H' => ∃ (x : Int), r = AV.int .i64 x ∧ H' = [] ∧ condP (x == (4 : Int)) (Post (.bool false) []) (condP (i == (0 : Int)) (needP (0 ≤ i ∧ i < (↑l.length : Int)) (ASpec prog 92 [AV.int .i64 (l.getD i.toNat (0 : Int))] [] fun r H' => ∃ (x : Int), r = AV.int .i64 x ∧ H' = [] ∧ condP (decide (x > (1 : Int))) (Post (.bool false) []) (AWP prog 42 n c41_5 [(3, .sl 1 (.map encI 0 l) .none), (4, .int .i64 (IntKind.wrap .i64 (i + (1 : Int))))] [] (q41_2 n Post)))) (AWP prog 42 n c41_5 [(3, .sl 1 (.map encI 0 l) .none), (4, .int .i64 (IntKind.wrap .i64 (i + (1 : Int))))] [] (q41_2 n Post))))) (condP (decide ((↑l.length : Int) ≥ (1 : Int))) (Post (.bool (decide ((↑l.length : Int) ≤ (12 : Int)))) []) (Post (.bool false) [])) → AWP prog 42 n c41_5 [(3, .sl 1 (.map encI 0 l) .none), (4, .int .i64 i)] [] (q41_2 n Post) := fun l i n Post h => AWP.loop' g41 (Cfg.live g41) c41_5 (by kernel_rfl) (by kernel_rfl) (kc (by kernel_rfl) h)
end
end S
end

noncomputable section
open Go Go.Ab Go.Proofs
open Go.Proofs.Tryz (prog)
namespace Dk
noncomputable section
def rowD : List AV → Nat
  | .msl _ id _ _ :: _ => id
  | _ => 1000
def retD : List (Nat × Ret) := [
  (30, ⟨Bool, fun _ _ x => .bool x, fun _ H _ => H⟩),
  (159, ⟨Bool, fun _ _ x => .bool x, fun _ H _ => H⟩),
  (207, ⟨Bool, fun _ _ x => .bool x, fun _ H _ => H⟩),
  (31, ⟨Bool, fun _ _ x => .bool x, fun _ H _ => H⟩),
  (9020, ⟨Bool, fun _ _ x => .bool x, fun _ H _ => H⟩),
  (9043, ⟨Bool, fun _ _ x => .bool x, fun _ H _ => H⟩),
  (29, ⟨Bool, fun _ _ x => .bool x, fun _ H _ => H⟩),
  (51, ⟨Bool, fun _ _ x => .bool x, fun _ H _ => H⟩),
  (41, ⟨Bool, fun _ _ x => .bool x, fun _ H _ => H⟩),
  (74, ⟨Bool, fun _ _ x => .bool x, fun _ H _ => H⟩),
  (9047, ⟨Bool, fun _ _ x => .bool x, fun _ H _ => H⟩),
  (76, ⟨Int × Bool, fun _ _ x => .tup [.int .i64 x.1, .bool x.2], fun _ H _ => H⟩),
  (81, ⟨Int × Bool, fun _ _ x => .tup [.int .i64 x.1, .bool x.2], fun _ H _ => H⟩),
  (124, ⟨Int, fun _ _ x => .int .i64 x, fun _ H _ => H⟩),
  (193, ⟨Int, fun _ _ x => .int .i64 x, fun _ H _ => H⟩),
  (9024, ⟨List T.Pk, fun _ _ x => T.aK x, fun _ H _ => H⟩),
  (148, ⟨List T.Pk, fun _ _ x => T.aK x, fun _ H _ => H⟩),
  (98, ⟨List T.Pk, fun _ _ x => T.aK x, fun _ H _ => H⟩),
  (114, ⟨List T.Pk, fun _ _ x => T.aK x, fun _ H _ => H⟩),
  (9054, ⟨ByteArray, fun _ _ x => .str x, fun _ H _ => H⟩),
  (9031, ⟨ByteArray, fun _ _ x => .str x, fun _ H _ => H⟩),
  (9055, ⟨ByteArray, fun _ _ x => .str x, fun _ H _ => H⟩),
  (9017, ⟨Unit, fun _ _ _ => .bool true, fun _ H _ => H⟩),
  (9030, ⟨List T.Pk × Bool, fun _ _ x => .tup [T.aK x.1, .bool x.2], fun _ H _ => H⟩),
  (142, ⟨List T.Pk, fun _ H x => .msl 2 H.length 0 x.length, fun _ H x => H ++ [.arr 2 (.map T.encPk T.noPk x)]⟩),
  (142, ⟨Unit, fun _ _ _ => .sl 2 (.map T.encPk T.noPk []) .none, fun _ H _ => H⟩),
  (9045, ⟨List T.Pk, fun _ _ x => T.aK x, fun a H _ => H.set (rowD a) .gone⟩)]
def rets : FuncId → List Ret := lookupR retD
def l30 : Nat → List Nat
  | 4 => [0, 3]
  | _ => []
def g30 : Cfg := { N := 20, live := l30, cut := nof, mu := nof, ret := rets }
def c30 : Code := bodyOf Tryz.f30
def q30_0 (n : Nat) (Post : PT) : AQ := endQ prog (resultsOf Tryz.f30) Post
def q30_1 (n : Nat) (Post : PT) : AQ := seqQ (fun s' H' => awp prog g30 n (codeSnd (codeSnd (codeSnd c30))) s' H' (q30_0 n Post)) (q30_0 n Post)
def q30_2 (n : Nat) (Post : PT) : AQ := blockQ 0 (q30_1 n Post)
def c30_4 : Code := codeFst (codeSnd (codeFst (codeSnd (codeSnd c30))))
theorem s30 : ∀ (s : List T.Pk) (Post : PT),
  condP (decide ((↑s.length : Int) > (60 : Int))) (Post (.bool true) []) (AWP prog 20 0 c30_4 [(0, T.aK s), (3, .int .i64 0)] [] (q30_2 0 Post)) → ASpec prog 30 [T.aK s] [] Post := fun s Post h => ASpec.of_vc g30 Tryz.func30 (by kernel_rfl) (by kernel_rfl) (by kernel_rfl) (kc (by kernel_rfl) h)
theorem v30_4 : ∀ (s : List T.Pk) (i : Int) (n : Nat) (Post : PT),
  condP (decide (i < (↑s.length : Int))) (needP (0 ≤ i ∧ i < (↑s.length : Int)) (condP (decide ((↑(ByteArray.size ⟨(s.getD i.toNat T.noPk).1.toArray⟩) : Int) > (200 : Int))) (Post (.bool true) []) (AWP prog 20 n c30_4 [(0, T.aK s), (3, .int .i64 (IntKind.wrap .i64 (i + (1 : Int))))] [] (q30_2 n Post)))) (Post (.bool false) []) → AWP prog 20 n c30_4 [(0, T.aK s), (3, .int .i64 i)] [] (q30_2 n Post) := fun s i n Post h => AWP.loop' g30 (Cfg.live g30) c30_4 (by kernel_rfl) (by kernel_rfl) (kc (by kernel_rfl) h)
def g207 : Cfg := { N := 16, live := nol, cut := nof, mu := nof, ret := rets }
theorem s207 : ∀ (p : T.Pk) (Post : PT),
  (ASpec prog 51 [T.sB p.1] [AObj.cells [T.sB p.1, .int .i64 p.2]] fun r H' => ∃ (x : Bool), r = AV.bool x ∧ H' = [AObj.cells [T.sB p.1, .int .i64 p.2]] ∧ condP x (condP (decide (Prod.snd p ≥ (0 : Int))) (Post (.bool (decide (Prod.snd p < (1000000000 : Int)))) [AObj.cells [T.sB p.1, .int .i64 p.2]]) (Post (.bool false) [AObj.cells [T.sB p.1, .int .i64 p.2]])) (Post (.bool false) [AObj.cells [T.sB p.1, .int .i64 p.2]])) → ASpec prog 207 [.agg (T.encPk p)] [] Post := fun p Post h => ASpec.of_vc g207 Tryz.func207 (by kernel_rfl) (by kernel_rfl) (by kernel_rfl) (kc (by kernel_rfl) h)
def l159 : Nat → List Nat
  | 2 => [0, 5, 6, 7]
  | _ => []
def g159 : Cfg := { N := 31, live := l159, cut := nof, mu := nof, ret := rets }
def c159 : Code := bodyOf Tryz.f159
def q159_0 (n : Nat) (Post : PT) : AQ := endQ prog (resultsOf Tryz.f159) Post
def q159_1 (n : Nat) (Post : PT) : AQ := seqQ (fun s' H' => awp prog g159 n (codeSnd (codeSnd c159)) s' H' (q159_0 n Post)) (q159_0 n Post)
def q159_2 (n : Nat) (Post : PT) : AQ := blockQ 0 (q159_1 n Post)
def c159_2 : Code := codeFst (codeSnd (codeFst (codeSnd c159)))
theorem s159 : ∀ (s : List T.Pk) (Post : PT),
  AWP prog 31 0 c159_2 [(0, T.aK s), (5, T.aK s), (6, .int .i64 s.length), (7, .int .i64 0)] [] (q159_2 0 Post) → ASpec prog 159 [T.aK s] [] Post := fun s Post h => ASpec.of_vc g159 Tryz.func159 (by kernel_rfl) (by kernel_rfl) (by kernel_rfl) (kc (by kernel_rfl) h)
theorem v159_2 : ∀ (s t : List T.Pk) (n i : Int) (n_1 : Nat) (Post : PT),
  condP (decide (i < n)) (needP (0 ≤ i ∧ i < (↑t.length : Int)) (ASpec prog 207 [AV.agg [AV.str ⟨(t.getD i.toNat T.noPk).1.toArray⟩, .int .i64 (t.getD i.toNat T.noPk).2]] [AObj.cells [AV.str ⟨(t.getD i.toNat T.noPk).1.toArray⟩, .int .i64 (t.getD i.toNat T.noPk).2]] fun r H' => ∃ (x : Bool), r = AV.bool x ∧ H' = [AObj.cells [.str ⟨(t.getD i.toNat T.noPk).1.toArray⟩, .int .i64 (t.getD i.toNat T.noPk).2]] ∧ condP (!x) (Post (.bool false) [AObj.cells [.str ⟨(t.getD i.toNat T.noPk).1.toArray⟩, .int .i64 (t.getD i.toNat T.noPk).2]]) (condP (decide (i > (0 : Int))) (needP ((0 : Int) ≤ IntKind.wrap .i64 (i - (1 : Int)) ∧ IntKind.wrap .i64 (i - (1 : Int)) < (↑s.length : Int)) (condP (Op.bytesLess (ByteArray.toList ⟨(t.getD i.toNat T.noPk).1.toArray⟩) (ByteArray.toList { data := List.toArray (Prod.fst (s.getD (Int.toNat (IntKind.wrap .i64 (i - (1 : Int)))) T.noPk)) }) || ByteArray.toList ⟨(t.getD i.toNat T.noPk).1.toArray⟩ == ByteArray.toList { data := List.toArray (Prod.fst (s.getD (Int.toNat (IntKind.wrap .i64 (i - (1 : Int)))) T.noPk)) }) (Post (.bool false) [AObj.cells [.str ⟨(t.getD i.toNat T.noPk).1.toArray⟩, .int .i64 (t.getD i.toNat T.noPk).2]]) (AWP prog 31 n_1 c159_2 [(0, T.aK s), (5, T.aK t), (6, .int .i64 n), (7, .int .i64 (IntKind.wrap .i64 (i + (1 : Int))))] [AObj.cells [.str ⟨(t.getD i.toNat T.noPk).1.toArray⟩, .int .i64 (t.getD i.toNat T.noPk).2]] (q159_2 n_1 Post)))) (AWP prog 31 n_1 c159_2 [(0, T.aK s), (5, T.aK t), (6, .int .i64 n), (7, .int .i64 (IntKind.wrap .i64 (i + (1 : Int))))] [AObj.cells [.str ⟨(t.getD i.toNat T.noPk).1.toArray⟩, .int .i64 (t.getD i.toNat T.noPk).2]] (q159_2 n_1 Post))))) (Post (.bool true) []) → AWP prog 31 n_1 c159_2 [(0, T.aK s), (5, T.aK t), (6, .int .i64 n), (7, .int .i64 i)] [] (q159_2 n_1 Post) := fun s t n i n Post h => AWP.loop' g159 (Cfg.live g159) c159_2 (by kernel_rfl) (by kernel_rfl) (kc (by kernel_rfl) h)
def g76 : Cfg := { N := 28, live := nol, cut := nof, mu := nof, ret := rets }
theorem s76 : ∀ (s : List T.Pk) (x : List UInt8) (Post : PT),
  (ASpec prog 124 [T.aK s, T.sB x] [] fun r H' => ∃ (x_1 : Int), r = AV.int .i64 x_1 ∧ H' = [] ∧ condP (x_1 == (↑s.length : Int)) (Post (.tup [AV.int .i64 0, .bool false]) []) (needP (0 ≤ x_1 ∧ x_1 < (↑s.length : Int)) (condP (!ByteArray.toList ⟨(s.getD x_1.toNat T.noPk).1.toArray⟩ == ByteArray.toList ⟨x.toArray⟩) (Post (.tup [AV.int .i64 0, .bool false]) []) (needP (0 ≤ x_1 ∧ x_1 < (↑s.length : Int)) (Post (.tup [AV.int .i64 (s.getD x_1.toNat T.noPk).2, .bool true]) []))))) → ASpec prog 76 [T.aK s, T.sB x] [] Post := fun s x Post h => ASpec.of_vc g76 Tryz.func76 (by kernel_rfl) (by kernel_rfl) (by kernel_rfl) (kc (by kernel_rfl) h)
def l29 : Nat → List Nat
  | 4 => [0, 1, 5]
  | _ => []
def g29 : Cfg := { N := 26, live := l29, cut := nof, mu := nof, ret := rets }
def c29 : Code := bodyOf Tryz.f29
def q29_0 (n : Nat) (Post : PT) : AQ := endQ prog (resultsOf Tryz.f29) Post
def q29_1 (n : Nat) (Post : PT) : AQ := seqQ (fun s' H' => awp prog g29 n (codeSnd (codeSnd (codeSnd c29))) s' H' (q29_0 n Post)) (q29_0 n Post)
def q29_2 (n : Nat) (Post : PT) : AQ := blockQ 0 (q29_1 n Post)
def c29_4 : Code := codeFst (codeSnd (codeFst (codeSnd (codeSnd c29))))
theorem s29 : ∀ (a b : List T.Pk) (Post : PT),
  condP ((↑a.length : Int) != (↑b.length : Int)) (Post (.bool false) []) (AWP prog 26 0 c29_4 [(0, T.aK a), (1, T.aK b), (5, .int .i64 0)] [] (q29_2 0 Post)) → ASpec prog 29 [T.aK a, T.aK b] [] Post := fun a b Post h => ASpec.of_vc g29 Tryz.func29 (by kernel_rfl) (by kernel_rfl) (by kernel_rfl) (kc (by kernel_rfl) h)
theorem v29_4 : ∀ (a b : List T.Pk) (i : Int) (n : Nat) (Post : PT),
  condP (decide (i < (↑a.length : Int))) (needP (0 ≤ i ∧ i < (↑a.length : Int)) (needP (0 ≤ i ∧ i < (↑b.length : Int)) (condP (!(ByteArray.toList ⟨(a.getD i.toNat T.noPk).1.toArray⟩ == ByteArray.toList ⟨(b.getD i.toNat T.noPk).1.toArray⟩ && ((a.getD i.toNat T.noPk).2 == (b.getD i.toNat T.noPk).2 && true))) (Post (.bool false) []) (AWP prog 26 n c29_4 [(0, T.aK a), (1, T.aK b), (5, .int .i64 (IntKind.wrap .i64 (i + (1 : Int))))] [] (q29_2 n Post))))) (Post (.bool true) []) → AWP prog 26 n c29_4 [(0, T.aK a), (1, T.aK b), (5, .int .i64 i)] [] (q29_2 n Post) := fun a b i n Post h => AWP.loop' g29 (Cfg.live g29) c29_4 (by kernel_rfl) (by kernel_rfl) (kc (by kernel_rfl) h)
end
end Dk
end

noncomputable section
open Go Go.Ab Go.Proofs
open Go.Proofs.Tryz (prog)
namespace Sg
noncomputable section
def addH (args : List AV) (H : List AObj) (o : AObj) : List AObj := match args with
  | .msl _ id _ _ :: _ => H.set id o
  | _ => H
def addG (args : List AV) (H : List AObj) (o : AObj) : List AObj := match args with
  | .msl _ id _ _ :: _ => H.set id .gone ++ [o]
  | _ => H
def headV : List AV → AV
  | v :: _ => v
  | [] => .bad
def retG : List (Nat × Ret) := [
  (185, ⟨Int × Bool, fun _ _ x => .tup [.int .i64 x.1, .bool x.2], fun _ H _ => H⟩), (186, ⟨Int, fun _ _ x => .int .i64 x, fun _ H _ => H⟩), (144, ⟨Int, fun _ _ x => .int .i64 x, fun _ H _ => H⟩), (101, ⟨Bool, fun _ _ x => .bool x, fun _ H _ => H⟩), (150, ⟨Int, fun _ _ x => .int .i64 x, fun _ H _ => H⟩),
  (151, ⟨T.Span, fun _ H x => .msl 2 H.length 0 1, fun _ H x => H ++ [.arr 2 (.map T.encS (0, 0) [x])]⟩),
  (151, ⟨List T.Span, fun a _ x => headV a, fun a H x => addH a H (.arr 2 (.map T.encS (0, 0) x))⟩),
  (151, ⟨List T.Span, fun a H x => .msl 2 H.length 0 x.length, fun a H x => addG a H (.arr 2 (.map T.encS (0, 0) x))⟩),
  (117, ⟨List T.Span, fun _ _ x => T.aS x, fun _ H _ => H⟩), (65, ⟨List T.Span, fun _ _ x => T.aS x, fun _ H _ => H⟩), (118, ⟨Bool, fun _ _ x => .bool x, fun _ H _ => H⟩), (141, ⟨Bool, fun _ _ x => .bool x, fun _ H _ => H⟩), (82, ⟨List T.Span, fun _ _ x => T.aS x, fun _ H _ => H⟩), (55, ⟨List T.Span, fun _ _ x => T.aS x, fun _ H _ => H⟩), (104, ⟨List T.Span, fun _ _ x => T.aS x, fun _ H _ => H⟩),
  (120, ⟨List T.Span, fun _ _ x => T.aS x, fun _ H _ => H⟩), (68, ⟨List T.Span, fun _ _ x => T.aS x, fun _ H _ => H⟩), (147, ⟨Bool, fun _ _ x => .bool x, fun _ H _ => H⟩), (119, ⟨Bool, fun _ _ x => .bool x, fun _ H _ => H⟩), (153, ⟨Bool, fun _ _ x => .bool x, fun _ H _ => H⟩), (152, ⟨List Int, fun _ _ x => .sl 1 (.map encI 0 x) .none, fun _ H _ => H⟩), (192, ⟨List Int, fun _ _ x => .sl 1 (.map encI 0 x) .none, fun _ H _ => H⟩),
  (140, ⟨T.Term, fun _ _ x => .agg (T.encT x), fun _ H _ => H⟩), (95, ⟨T.Term, fun _ _ x => .agg (T.encT x), fun _ H _ => H⟩), (96, ⟨Bool, fun _ _ x => .bool x, fun _ H _ => H⟩), (52, ⟨Bool, fun _ _ x => .bool x, fun _ H _ => H⟩), (94, ⟨Bool, fun _ _ x => .bool x, fun _ H _ => H⟩), (93, ⟨Bool, fun _ _ x => .bool x, fun _ H _ => H⟩), (145, ⟨T.Term, fun _ _ x => .agg (T.encT x), fun _ H _ => H⟩), (113, ⟨Bool, fun _ _ x => .bool x, fun _ H _ => H⟩), (111, ⟨Bool, fun _ _ x => .bool x, fun _ H _ => H⟩), (9036, ⟨Bool, fun _ _ x => .bool x, fun _ H _ => H⟩), (56, ⟨Bool, fun _ _ x => .bool x, fun _ H _ => H⟩)]
def rets : FuncId → List Ret := lookupR (retG ++ C.retC ++ V.retL)
def l185 : Nat → List Nat
  | 3 => [0, 1, 2, 8, 9, 10]
  | _ => []
def g185 : Cfg := { N := 49, live := l185, cut := nof, mu := nof, ret := rets }
def c185 : Code := bodyOf Tryz.f185
def q185_0 (n : Nat) (Post : PT) : AQ := endQ prog (resultsOf Tryz.f185) Post
def q185_1 (n : Nat) (Post : PT) : AQ := seqQ (fun s' H' => awp prog g185 n (codeSnd (codeSnd (codeSnd (codeSnd c185)))) s' H' (q185_0 n Post)) (q185_0 n Post)
def q185_2 (n : Nat) (Post : PT) : AQ := blockQ 0 (q185_1 n Post)
def c185_3 : Code := codeFst (codeFst (codeSnd (codeSnd (codeSnd c185))))
theorem s185 : ∀ (l : List T.Span) (p : Int) (Post : PT),
  AWP prog 49 0 c185_3 [(0, T.aS l), (1, .int .i64 p), (2, .fn (186 : FuncId) []), (8, .int .i64 l.length), (9, .int .i64 0), (10, .int .i64 l.length)] [] (q185_2 0 Post) → ASpec prog 185 [T.aS l, .int .i64 p, AV.fn (186 : FuncId) []] [] Post := fun l p Post h => ASpec.of_vc g185 Tryz.func185 (by kernel_rfl) (by kernel_rfl) (by kernel_rfl) (kc (by kernel_rfl) h)
theorem v185_3 : ∀ (l : List T.Span) (p n i j : Int) (n_1 : Nat) (Post : PT),
  condP (decide (i < j)) (needP ((0 : Int) ≤ (1 : Int)) (needP ((0 : Int) ≤ IntKind.wrap .i64 (Int.fdiv (IntKind.wrap .u64 (IntKind.wrap .i64 (i + j))) (2 : Int)) ∧ IntKind.wrap .i64 (Int.fdiv (IntKind.wrap .u64 (IntKind.wrap .i64 (i + j))) (2 : Int)) < (↑l.length : Int)) (ASpec prog 186 [AV.agg [AV.int .i64 (Prod.fst (l.getD (Int.toNat (IntKind.wrap .i64 (Int.fdiv (IntKind.wrap .u64 (IntKind.wrap .i64 (i + j))) (2 : Int)))) ((0 : Int), (0 : Int)))), AV.int .i64 (Prod.snd (l.getD (Int.toNat (IntKind.wrap .i64 (Int.fdiv (IntKind.wrap .u64 (IntKind.wrap .i64 (i + j))) (2 : Int)))) ((0 : Int), (0 : Int))))], AV.int .i64 p] [] fun r H' => ∃ (x : Int), r = AV.int .i64 x ∧ H' = [] ∧ condP (decide (x < (0 : Int))) (AWP prog 49 n_1 c185_3 [(0, T.aS l), (1, .int .i64 p), (2, .fn (186 : FuncId) []), (8, .int .i64 n), (9, AV.int .i64 (IntKind.wrap .i64 (IntKind.wrap .i64 (Int.fdiv (IntKind.wrap .u64 (IntKind.wrap .i64 (i + j))) (2 : Int)) + (1 : Int)))), (10, .int .i64 j)] [] (q185_2 n_1 Post)) (AWP prog 49 n_1 c185_3 [(0, T.aS l), (1, .int .i64 p), (2, .fn (186 : FuncId) []), (8, .int .i64 n), (9, .int .i64 i), (10, .int .i64 (IntKind.wrap .i64 (Int.fdiv (IntKind.wrap .u64 (IntKind.wrap .i64 (i + j))) (2 : Int))))] [] (q185_2 n_1 Post))))) (condP (decide (i < n)) (needP (0 ≤ i ∧ i < (↑l.length : Int)) (ASpec prog 186 [AV.agg [AV.int .i64 (l.getD i.toNat ((0 : Int), (0 : Int))).1, .int .i64 (l.getD i.toNat ((0 : Int), (0 : Int))).2], AV.int .i64 p] [] fun r H' => ∃ (x : Int), r = AV.int .i64 x ∧ H' = [] ∧ Post (.tup [.int .i64 i, AV.bool (x == (0 : Int))]) [])) (Post (.tup [.int .i64 i, AV.bool false]) [])) → AWP prog 49 n_1 c185_3 [(0, T.aS l), (1, .int .i64 p), (2, .fn (186 : FuncId) []), (8, .int .i64 n), (9, .int .i64 i), (10, .int .i64 j)] [] (q185_2 n_1 Post) := fun l p n i j n Post h => AWP.loop' g185 (Cfg.live g185) c185_3 (by kernel_rfl) (by kernel_rfl) (kc (by kernel_rfl) h)
def g186 : Cfg := { N := 9, live := nol, cut := nof, mu := nof, ret := rets }
theorem s186 : ∀ (x : T.Span) (p : Int) (Post : PT),
  condP (decide (Prod.snd x ≤ p)) (Post (.int .i64 (-1)) [AObj.cells [.int .i64 x.1, .int .i64 x.2]]) (Post (.int .i64 1) [AObj.cells [.int .i64 x.1, .int .i64 x.2]]) → ASpec prog 186 [.agg (T.encS x), .int .i64 p] [] Post := fun x p Post h => ASpec.of_vc g186 Tryz.func186 (by kernel_rfl) (by kernel_rfl) (by kernel_rfl) (kc (by kernel_rfl) h)
def g144 : Cfg := { N := 14, live := nol, cut := nof, mu := nof, ret := rets }
theorem s144 : ∀ (l : List T.Span) (p : Int) (Post : PT),
  (ASpec prog 185 [T.aS l, .int .i64 p, AV.fn 186 []] [] fun r H' => ∃ (x : Int × Bool), r = AV.tup [.int .i64 x.1, .bool x.2] ∧ H' = [] ∧ Post (.int .i64 x.1) []) → ASpec prog 144 [T.aS l, .int .i64 p] [] Post := fun l p Post h => ASpec.of_vc g144 Tryz.func144 (by kernel_rfl) (by kernel_rfl) (by kernel_rfl) (kc (by kernel_rfl) h)
def g101 : Cfg := { N := 22, live := nol, cut := nof, mu := nof, ret := rets }
theorem s101 : ∀ (l : List T.Span) (p : Int) (Post : PT),
  (ASpec prog 144 [T.aS l, .int .i64 p] [] fun r H' => ∃ (x : Int), r = AV.int .i64 x ∧ H' = [] ∧ condP (decide (x < (↑l.length : Int))) (needP (0 ≤ x ∧ x < (↑l.length : Int)) (Post (.bool (decide ((l.getD x.toNat ((0 : Int), (0 : Int))).1 ≤ p))) [])) (Post (.bool false) [])) → ASpec prog 101 [T.aS l, .int .i64 p] [] Post := fun l p Post h => ASpec.of_vc g101 Tryz.func101 (by kernel_rfl) (by kernel_rfl) (by kernel_rfl) (kc (by kernel_rfl) h)
def g150 : Cfg := { N := 32, live := nol, cut := nof, mu := nof, ret := rets }
theorem s150 : ∀ (l : List T.Span) (p : Int) (Post : PT),
  (ASpec prog 144 [T.aS l, .int .i64 p] [] fun r H' => ∃ (x : Int), r = AV.int .i64 x ∧ H' = [] ∧ condP (x == (↑l.length : Int)) (Post (.int .i64 1000000000) []) (needP (0 ≤ x ∧ x < (↑l.length : Int)) (condP (decide ((l.getD x.toNat ((0 : Int), (0 : Int))).1 > p)) (needP (0 ≤ x ∧ x < (↑l.length : Int)) (Post (.int .i64 (l.getD x.toNat ((0 : Int), (0 : Int))).1) [])) (needP (0 ≤ x ∧ x < (↑l.length : Int)) (Post (.int .i64 (l.getD x.toNat ((0 : Int), (0 : Int))).2) []))))) → ASpec prog 150 [T.aS l, .int .i64 p] [] Post := fun l p Post h => ASpec.of_vc g150 Tryz.func150 (by kernel_rfl) (by kernel_rfl) (by kernel_rfl) (kc (by kernel_rfl) h)
def m151 : Nat → Bool
  | 37 => true
  | _ => false
def g151 : Cfg := { N := 38, live := nol, cut := nof, mu := m151, ret := rets }
theorem s151n : ∀ (s : T.Span) (Post : PT),
  needP (16 ≤ 140737488351232) (needP (1 ≤ 1) (Post (.msl 2 1 0 1) [AObj.cells [.int .i64 s.1, .int .i64 s.2], .arr 2 (.raw [[.int .i64 s.1, .int .i64 s.2]])])) → ASpec prog 151 [.sl 0 (.raw []) .nil, AV.agg (T.encS s)] [] Post := fun s Post h => ASpec.of_vc g151 Tryz.func151 (by kernel_rfl) (by kernel_rfl) (by kernel_rfl) (kc (by kernel_rfl) h)
abbrev hps151m0 (s : T.Span) (o : List T.Span) : List AObj := [AObj.gone, .cells [.int .i64 s.1, .int .i64 s.2], .arr 2 (.app (.map T.encS (0, 0) o) (.raw [[.int .i64 s.1, .int .i64 s.2]]))]
theorem s151m : ∀ (o : List T.Span) (k : Nat) (s : T.Span) (Post : PT),
  condP (decide (IntKind.wrap .i64 ((↑k : Int) - (1 : Int)) ≥ (0 : Int))) (needP ((0 : Int) ≤ IntKind.wrap .i64 ((↑k : Int) - (1 : Int)) ∧ IntKind.wrap .i64 ((↑k : Int) - (1 : Int)) < (↑k : Int)) (needP (0 + Int.toNat (IntKind.wrap .i64 ((↑k : Int) - (1 : Int))) < List.length o) (condP (decide (Prod.fst s ≤ Prod.snd (o.getD (0 + Int.toNat (IntKind.wrap .i64 ((↑k : Int) - (1 : Int)))) ((0 : Int), (0 : Int))))) (needP ((0 : Int) ≤ IntKind.wrap .i64 ((↑k : Int) - (1 : Int)) ∧ IntKind.wrap .i64 ((↑k : Int) - (1 : Int)) < (↑k : Int)) (needP (0 + Int.toNat (IntKind.wrap .i64 ((↑k : Int) - (1 : Int))) < List.length o) (needP ((0 : Int) ≤ IntKind.wrap .i64 ((↑k : Int) - (1 : Int)) ∧ IntKind.wrap .i64 ((↑k : Int) - (1 : Int)) < (↑k : Int)) (needP (0 + Int.toNat (IntKind.wrap .i64 ((↑k : Int) - (1 : Int))) < List.length o) (Post (.msl 2 0 0 k) [AObj.arr 2 (.raw (List.set (Seq.toList (.map T.encS (0, 0) o)) (0 + Int.toNat (IntKind.wrap .i64 ((↑k : Int) - (1 : Int)))) [.int .i64 (Prod.fst (o.getD (0 + Int.toNat (IntKind.wrap .i64 ((↑k : Int) - (1 : Int)))) ((0 : Int), (0 : Int)))), AV.int .i64 (if Prod.snd s > Prod.snd (o.getD (0 + Int.toNat (IntKind.wrap .i64 ((↑k : Int) - (1 : Int)))) ((0 : Int), (0 : Int))) then Prod.snd s else Prod.snd (o.getD (0 + Int.toNat (IntKind.wrap .i64 ((↑k : Int) - (1 : Int)))) ((0 : Int), (0 : Int))))])), .cells [.int .i64 s.1, .int .i64 s.2]]))))) (needP (k = List.length o ∧ (k + 1) * 16 ≤ 140737488351232) (Post (.msl 2 2 0 (k + 1)) (hps151m0 s o)))))) (needP (k = List.length o ∧ (k + 1) * 16 ≤ 140737488351232) (Post (.msl 2 2 0 (k + 1)) (hps151m0 s o))) → ASpec prog 151 [.msl 2 0 0 k, AV.agg (T.encS s)] [AObj.arr 2 (.map T.encS (0, 0) o)] Post := fun o k s Post h => ASpec.of_vc g151 Tryz.func151 (by kernel_rfl) (by kernel_rfl) (by kernel_rfl) (kc (by kernel_rfl) h)
def l117 : Nat → List Nat
  | 3 => [0, 1, 2, 7, 8]
  | 8 => [7]
  | _ => []
def u117 : Nat → Bool
  | 8 => true
  | _ => false
def g117 : Cfg := { N := 34, live := l117, cut := u117, mu := nof, ret := rets }
def c117 : Code := bodyOf Tryz.f117
def q117_0 (n : Nat) (Post : PT) : AQ := endQ prog (resultsOf Tryz.f117) Post
def c117_8 : Code := codeSnd (codeSnd (codeSnd c117))
def q117_1 (n : Nat) (Post : PT) : AQ := seqQ (fun (s' : Slots) (H' : List AObj) => AWP prog (Cfg.N g117) n c117_8 (restrict s' (Cfg.live g117 8)) H' (q117_0 n Post)) (q117_0 n Post)
def q117_2 (n : Nat) (Post : PT) : AQ := blockQ 0 (q117_1 n Post)
def c117_3 : Code := codeFst (codeSnd (codeFst (codeSnd (codeSnd c117))))
theorem s117 : ∀ (a b : List T.Span) (Post : PT),
  AWP prog 34 0 c117_3 [(0, T.aS a), (1, T.aS b), (2, .fn (118 : FuncId) []), (7, .sl 0 (.raw []) .nil), (8, .int .i64 0)] [] (q117_2 0 Post) → ASpec prog 117 [T.aS a, T.aS b, .fn (118 : FuncId) []] [] Post := fun a b Post h => ASpec.of_vc g117 Tryz.func117 (by kernel_rfl) (by kernel_rfl) (by kernel_rfl) (kc (by kernel_rfl) h)
theorem v117_3n : ∀ (a b : List T.Span) (p : Int) (n : Nat) (Post : PT),
  condP (decide (p < (1000000000 : Int))) (ASpec prog 150 [T.aS a, .int .i64 p] [] fun r H' => ∃ (x : Int), r = AV.int .i64 x ∧ H' = [] ∧ ASpec prog 150 [T.aS b, .int .i64 p] [] fun r H' => ∃ (x_1 : Int), r = AV.int .i64 x_1 ∧ H' = [] ∧ ASpec prog 101 [T.aS a, .int .i64 p] [] fun r H' => ∃ (x_2 : Bool), r = AV.bool x_2 ∧ H' = [] ∧ ASpec prog 101 [T.aS b, .int .i64 p] [] fun r H' => ∃ (x_3 : Bool), r = AV.bool x_3 ∧ H' = [] ∧ ASpec prog 118 [.bool x_2, .bool x_3] [] fun r H' => ∃ (x_4 : Bool), r = AV.bool x_4 ∧ H' = [] ∧ condP x_4 (ASpec prog 151 [.sl 0 (.raw []) .nil, AV.agg [.int .i64 p, AV.int .i64 (if x_1 < x then x_1 else x)]] [] fun r H' => (∃ (x_5 : Int × Int), r = AV.msl 2 0 0 1 ∧ H' = [AObj.arr 2 (.map T.encS (0, 0) [x_5])] ∧ AWP prog 34 n c117_3 [(0, T.aS a), (1, T.aS b), (2, .fn (118 : FuncId) []), (7, .msl 2 0 0 1), (8, .int .i64 (if x_1 < x then x_1 else x))] [AObj.arr 2 (.map T.encS (0, 0) [x_5])] (q117_2 n Post)) ∨ (∃ (x_5 : List T.Span), r = AV.sl 0 (.raw []) .nil ∧ H' = [] ∧ AWP prog 34 n c117_3 [(0, T.aS a), (1, T.aS b), (2, .fn (118 : FuncId) []), (7, .sl 0 (.raw []) .nil), (8, .int .i64 (if x_1 < x then x_1 else x))] [] (q117_2 n Post)) ∨ ∃ (x_5 : List T.Span), r = AV.msl 2 0 0 x_5.length ∧ H' = [] ∧ AWP prog 34 n c117_3 [(0, T.aS a), (1, T.aS b), (2, .fn (118 : FuncId) []), (7, .msl 2 0 0 x_5.length), (8, .int .i64 (if x_1 < x then x_1 else x))] [] (q117_2 n Post)) (AWP prog 34 n c117_3 [(0, T.aS a), (1, T.aS b), (2, .fn (118 : FuncId) []), (7, .sl 0 (.raw []) .nil), (8, .int .i64 (if x_1 < x then x_1 else x))] [] (q117_2 n Post))) (AWP prog 34 n c117_8 [(7, .sl 0 (.raw []) .nil)] [] (q117_0 n Post)) → AWP prog 34 n c117_3 [(0, T.aS a), (1, T.aS b), (2, .fn (118 : FuncId) []), (7, .sl 0 (.raw []) .nil), (8, .int .i64 p)] [] (q117_2 n Post) := fun a b p n Post h => AWP.loop' g117 (Cfg.live g117) c117_3 (by kernel_rfl) (by kernel_rfl) (kc (by kernel_rfl) h)
theorem v117_3m : ∀ (a b o : List T.Span) (k : Nat) (p : Int) (n : Nat) (Post : PT),
  condP (decide (p < (1000000000 : Int))) (ASpec prog 150 [T.aS a, .int .i64 p] [AObj.arr 2 (.map T.encS (0, 0) o)] fun r H' => ∃ (x : Int), r = AV.int .i64 x ∧ H' = [AObj.arr 2 (.map T.encS (0, 0) o)] ∧ ASpec prog 150 [T.aS b, .int .i64 p] [AObj.arr 2 (.map T.encS (0, 0) o)] fun r H' => ∃ (x_1 : Int), r = AV.int .i64 x_1 ∧ H' = [AObj.arr 2 (.map T.encS (0, 0) o)] ∧ ASpec prog 101 [T.aS a, .int .i64 p] [AObj.arr 2 (.map T.encS (0, 0) o)] fun r H' => ∃ (x_2 : Bool), r = AV.bool x_2 ∧ H' = [AObj.arr 2 (.map T.encS (0, 0) o)] ∧ ASpec prog 101 [T.aS b, .int .i64 p] [AObj.arr 2 (.map T.encS (0, 0) o)] fun r H' => ∃ (x_3 : Bool), r = AV.bool x_3 ∧ H' = [AObj.arr 2 (.map T.encS (0, 0) o)] ∧ ASpec prog 118 [.bool x_2, .bool x_3] [AObj.arr 2 (.map T.encS (0, 0) o)] fun r H' => ∃ (x_4 : Bool), r = AV.bool x_4 ∧ H' = [AObj.arr 2 (.map T.encS (0, 0) o)] ∧ condP x_4 (ASpec prog 151 [.msl 2 0 0 k, AV.agg [.int .i64 p, AV.int .i64 (if x_1 < x then x_1 else x)]] [AObj.arr 2 (.map T.encS (0, 0) o)] fun r H' => (∃ (x_5 : Int × Int), r = AV.msl 2 1 0 1 ∧ H' = [AObj.arr 2 (.map T.encS (0, 0) o), .arr 2 (.map T.encS (0, 0) [x_5])] ∧ AWP prog 34 n c117_3 [(0, T.aS a), (1, T.aS b), (2, .fn (118 : FuncId) []), (7, .msl 2 1 0 1), (8, .int .i64 (if x_1 < x then x_1 else x))] [AObj.arr 2 (.map T.encS (0, 0) o), .arr 2 (.map T.encS (0, 0) [x_5])] (q117_2 n Post)) ∨ (∃ (x_5 : List T.Span), r = AV.msl 2 0 0 k ∧ H' = [AObj.arr 2 (.map T.encS (0, 0) x_5)] ∧ AWP prog 34 n c117_3 [(0, T.aS a), (1, T.aS b), (2, .fn (118 : FuncId) []), (7, .msl 2 0 0 k), (8, .int .i64 (if x_1 < x then x_1 else x))] [AObj.arr 2 (.map T.encS (0, 0) x_5)] (q117_2 n Post)) ∨ ∃ (x_5 : List T.Span), r = AV.msl 2 1 0 x_5.length ∧ H' = [AObj.gone, .arr 2 (.map T.encS (0, 0) x_5)] ∧ AWP prog 34 n c117_3 [(0, T.aS a), (1, T.aS b), (2, .fn (118 : FuncId) []), (7, .msl 2 1 0 x_5.length), (8, .int .i64 (if x_1 < x then x_1 else x))] [AObj.gone, .arr 2 (.map T.encS (0, 0) x_5)] (q117_2 n Post)) (AWP prog 34 n c117_3 [(0, T.aS a), (1, T.aS b), (2, .fn (118 : FuncId) []), (7, .msl 2 0 0 k), (8, .int .i64 (if x_1 < x then x_1 else x))] [AObj.arr 2 (.map T.encS (0, 0) o)] (q117_2 n Post))) (AWP prog 34 n c117_8 [(7, .msl 2 0 0 k)] [AObj.arr 2 (.map T.encS (0, 0) o)] (q117_0 n Post)) → AWP prog 34 n c117_3 [(0, T.aS a), (1, T.aS b), (2, .fn (118 : FuncId) []), (7, .msl 2 0 0 k), (8, .int .i64 p)] [AObj.arr 2 (.map T.encS (0, 0) o)] (q117_2 n Post) := fun a b o k p n Post h => AWP.loop' g117 (Cfg.live g117) c117_3 (by kernel_rfl) (by kernel_rfl) (kc (by kernel_rfl) h)
theorem v117_8n : ∀ (n : Nat) (Post : PT), Post (.sl 0 (.raw []) .nil) [] → AWP prog 34 n c117_8 [(7, .sl 0 (.raw []) .nil)] [] (q117_0 n Post) := fun n Post h => Go.Ab.awp_sound g117 n _ _ _ _ (kc (by kernel_rfl) h)
theorem v117_8s : ∀ (o : List T.Span) (n : Nat) (Post : PT),
  Post (T.aS o) [] → AWP prog 34 n c117_8 [(7, T.aS o)] [] (q117_0 n Post) := fun o n Post h => Go.Ab.awp_sound g117 n _ _ _ _ (kc (by kernel_rfl) h)
def g65 : Cfg := { N := 8, live := nol, cut := nof, mu := nof, ret := rets }
theorem s65 : ∀ (a b : List T.Span) (Post : PT),
  (ASpec prog 117 [T.aS a, T.aS b, .fn 118 []] [] fun r H' => ∃ (x : List T.Span), r = T.aS x ∧ H' = [] ∧ Post (T.aS x) []) → ASpec prog 65 [T.aS a, T.aS b] [] Post := fun a b Post h => ASpec.of_vc g65 Tryz.func65 (by kernel_rfl) (by kernel_rfl) (by kernel_rfl) (kc (by kernel_rfl) h)
def g118 : Cfg := { N := 9, live := nol, cut := nof, mu := nof, ret := rets }
theorem s118 : ∀ (x y : Bool) (Post : PT), condP x (Post (.bool y) []) (Post (.bool false) []) → ASpec prog 118 [.bool x, AV.bool y] [] Post := fun x y Post h => ASpec.of_vc g118 Tryz.func118 (by kernel_rfl) (by kernel_rfl) (by kernel_rfl) (kc (by kernel_rfl) h)
end
end Sg
end

noncomputable section
open Go Go.Ab Go.Proofs
namespace T
abbrev Ch := List Need × List Pk
def encCh (x : Ch) : List AV := [.sl 2 (.map encN ([], []) x.1) .none, .sl 2 (.map encPk noPk x.2) .none]
def encAk (root : List Need) (l : List Pk) : List AV := [.ptr 1 0, .sl 2 (.map encN ([], []) root) .none, .sl 2 (.map encPk noPk l) .none]
def HF (es : Kn) (root : List Need) (l : List Pk) : List AObj := HX es ++ [.cells (encAk root l)]
def HV (es : Kn) (root : List Need) (l : List Pk) (o : List (List UInt8)) : List AObj :=
 HX es ++ [.cells [.sl 2 (.map encPk noPk l) .none], .cells (encAk root l), .cells [.ptr 3 0], .mp (.typed EB (seenM o)), .cells [.map 5], .cells [.fn 208 [.ptr 6 0, .ptr 2 0, .ptr 4 0, .ptr 7 0]]]
end T
end

noncomputable section
open Go Go.Ab Go.Proofs
open Go.Proofs.Tryz (prog)
namespace Ft
noncomputable section
def retFt : List (Nat × Ret) := [
  (160, ⟨Bool, fun _ _ x => .bool x, fun _ H _ => H⟩),
  (162, ⟨Bool, fun _ _ x => .bool x, fun _ H _ => H⟩),
  (164, ⟨Bool, fun _ _ x => .bool x, fun _ H _ => H⟩),
  (165, ⟨Bool, fun _ _ x => .bool x, fun _ H _ => H⟩),
  (166, ⟨Bool, fun _ _ x => .bool x, fun _ H _ => H⟩),
  (168, ⟨Bool, fun _ _ x => .bool x, fun _ H _ => H⟩),
  (193, ⟨Int, fun _ _ x => .int .i64 x, fun _ H _ => H⟩),
  (126, ⟨Int, fun _ _ x => .int .i64 x, fun _ H _ => H⟩),
  (132, ⟨ByteArray × Bool, fun _ _ x => .tup [.str x.1, .bool x.2], fun _ H _ => H⟩),
  (133, ⟨ByteArray × Bool, fun _ _ x => .tup [.str x.1, .bool x.2], fun _ H _ => H⟩),
  (134, ⟨ByteArray × Bool, fun _ _ x => .tup [.str x.1, .bool x.2], fun _ H _ => H⟩),
  (135, ⟨ByteArray × Bool, fun _ _ x => .tup [.str x.1, .bool x.2], fun _ H _ => H⟩),
  (136, ⟨ByteArray × Bool, fun _ _ x => .tup [.str x.1, .bool x.2], fun _ H _ => H⟩),
  (161, ⟨ByteArray × Bool, fun _ _ x => .tup [.str x.1, .bool x.2], fun _ H _ => H⟩),
  (163, ⟨T.Rel × Bool, fun _ _ x => .tup [.agg (T.encR x.1), .bool x.2], fun _ H _ => H⟩),
  (125, ⟨T.Rel × Bool, fun _ _ x => .tup [.agg (T.encR x.1), .bool x.2], fun _ H _ => H⟩),
  (76, ⟨Int × Bool, fun _ _ x => .tup [.int .i64 x.1, .bool x.2], fun _ H _ => H⟩),
  (124, ⟨Int, fun _ _ x => .int .i64 x, fun _ H _ => H⟩),
  (159, ⟨Bool, fun _ _ x => .bool x, fun _ H _ => H⟩),
  (207, ⟨Bool, fun _ _ x => .bool x, fun _ H _ => H⟩),
  (156, ⟨Int × Bool, fun _ _ x => .tup [.int .i64 x.1, .bool x.2], fun _ H _ => H⟩),
  (195, ⟨Int, fun _ _ x => .int .i64 x, fun _ H _ => H⟩),
  (101, ⟨Bool, fun _ _ x => .bool x, fun _ H _ => H⟩),
  (39, ⟨Bool, fun _ _ x => .bool x, fun _ H _ => H⟩),
  (167, ⟨List (List UInt8), fun _ _ x => T.aL x, fun _ H _ => H⟩),
  (148, ⟨List T.Pk, fun _ _ x => T.aK x, fun _ H _ => H⟩),
  (30, ⟨Bool, fun _ _ x => .bool x, fun _ H _ => H⟩),
  (194, ⟨Int × Bool, fun _ _ x => .tup [.int .i64 x.1, .bool x.2], fun _ H _ => H⟩),
  (89, ⟨Int × ByteArray, fun _ _ x => .tup [.int .i64 x.1, .str x.2], fun _ H _ => H⟩),
  (208, ⟨List (List UInt8), fun _ _ _ => .tup [], fun _ H x => H.set 5 (.mp (.typed T.EB (T.seenM x)))⟩),
  (99, ⟨T.Rel, fun _ _ x => .agg (T.encR x), fun _ H _ => H⟩),
  (9031, ⟨Unit, fun _ _ _ => .bool true, fun _ H _ => H⟩)]
def rets : FuncId → List Ret := fun f => match lookupR retFt f with
  | [] => (match Wn.rets f with | [] => Rc.rets f | l => l)
  | l => l
def l124 : Nat → List Nat
  | 2 => [0, 1, 5, 6]
  | _ => []
def m124 : Nat → Bool
  | _ => false
def g195 : Cfg := { N := 9, live := nol, cut := nof, mu := nof, ret := rets }
theorem s195 : ∀ (x : T.Rel) (v : Int) (Post : PT),
  Post (.int .i64 (IntKind.wrap .i64 (Prod.fst x - v))) [AObj.cells [.int .i64 x.1, T.aN x.2]] → ASpec prog 195 [.agg (T.encR x), .int .i64 v] [] Post := fun x v Post h => ASpec.of_vc g195 Tryz.func195 (by kernel_rfl) (by kernel_rfl) (by kernel_rfl) (kc (by kernel_rfl) h)
def l194 : Nat → List Nat
  | 3 => [0, 1, 2, 8, 9, 10]
  | _ => []
def g194 : Cfg := { N := 49, live := l194, cut := nof, mu := nof, ret := rets }
def c194 : Code := bodyOf Tryz.f194
def q194_0 (n : Nat) (Post : PT) : AQ := endQ prog (resultsOf Tryz.f194) Post
def q194_1 (n : Nat) (Post : PT) : AQ := seqQ (fun s' H' => awp prog g194 n (codeSnd (codeSnd (codeSnd (codeSnd c194)))) s' H' (q194_0 n Post)) (q194_0 n Post)
def q194_2 (n : Nat) (Post : PT) : AQ := blockQ 0 (q194_1 n Post)
def c194_3 : Code := codeFst (codeFst (codeSnd (codeSnd (codeSnd c194))))
theorem s194 : ∀ (rs : List T.Rel) (v : Int) (Post : PT),
  AWP prog 49 0 c194_3 [(0, T.aR rs), (1, .int .i64 v), (2, .fn (195 : FuncId) []), (8, .int .i64 rs.length), (9, .int .i64 0), (10, .int .i64 rs.length)] [] (q194_2 0 Post) → ASpec prog 194 [T.aR rs, .int .i64 v, AV.fn (195 : FuncId) []] [] Post := fun rs v Post h => ASpec.of_vc g194 Tryz.func194 (by kernel_rfl) (by kernel_rfl) (by kernel_rfl) (kc (by kernel_rfl) h)
theorem v194_3 : ∀ (rs : List T.Rel) (v n i j : Int) (n_1 : Nat) (Post : PT),
  condP (decide (i < j)) (needP ((0 : Int) ≤ (1 : Int)) (needP ((0 : Int) ≤ IntKind.wrap .i64 (Int.fdiv (IntKind.wrap .u64 (IntKind.wrap .i64 (i + j))) (2 : Int)) ∧ IntKind.wrap .i64 (Int.fdiv (IntKind.wrap .u64 (IntKind.wrap .i64 (i + j))) (2 : Int)) < (↑rs.length : Int)) (ASpec prog 195 [AV.agg [.int .i64 (Prod.fst (rs.getD (Int.toNat (IntKind.wrap .i64 (Int.fdiv (IntKind.wrap .u64 (IntKind.wrap .i64 (i + j))) (2 : Int)))) ((0 : Int), []))), AV.sl 2 (.map T.encN ([], []) (Prod.snd (rs.getD (Int.toNat (IntKind.wrap .i64 (Int.fdiv (IntKind.wrap .u64 (IntKind.wrap .i64 (i + j))) (2 : Int)))) ((0 : Int), [])))) .none], AV.int .i64 v] [] fun r H' => ∃ (x : Int), r = AV.int .i64 x ∧ H' = [] ∧ condP (decide (x < (0 : Int))) (AWP prog 49 n_1 c194_3 [(0, T.aR rs), (1, .int .i64 v), (2, .fn (195 : FuncId) []), (8, .int .i64 n), (9, AV.int .i64 (IntKind.wrap .i64 (IntKind.wrap .i64 (Int.fdiv (IntKind.wrap .u64 (IntKind.wrap .i64 (i + j))) (2 : Int)) + (1 : Int)))), (10, .int .i64 j)] [] (q194_2 n_1 Post)) (AWP prog 49 n_1 c194_3 [(0, T.aR rs), (1, .int .i64 v), (2, .fn (195 : FuncId) []), (8, .int .i64 n), (9, .int .i64 i), (10, .int .i64 (IntKind.wrap .i64 (Int.fdiv (IntKind.wrap .u64 (IntKind.wrap .i64 (i + j))) (2 : Int))))] [] (q194_2 n_1 Post))))) (condP (decide (i < n)) (needP (0 ≤ i ∧ i < (↑rs.length : Int)) (ASpec prog 195 [AV.agg [.int .i64 (rs.getD i.toNat ((0 : Int), [])).1, AV.sl 2 (.map T.encN ([], []) (rs.getD i.toNat ((0 : Int), [])).2) .none], AV.int .i64 v] [] fun r H' => ∃ (x : Int), r = AV.int .i64 x ∧ H' = [] ∧ Post (.tup [.int .i64 i, AV.bool (x == (0 : Int))]) [])) (Post (.tup [.int .i64 i, AV.bool false]) [])) → AWP prog 49 n_1 c194_3 [(0, T.aR rs), (1, .int .i64 v), (2, .fn (195 : FuncId) []), (8, .int .i64 n), (9, .int .i64 i), (10, .int .i64 j)] [] (q194_2 n_1 Post) := fun rs v n i j n Post h => AWP.loop' g194 (Cfg.live g194) c194_3 (by kernel_rfl) (by kernel_rfl) (kc (by kernel_rfl) h)
def g156 : Cfg := { N := 12, live := nol, cut := nof, mu := nof, ret := rets }
theorem s156 : ∀ (m : T.Mani) (v : Int) (Post : PT),
  (ASpec prog 194 [T.aR m.2, .int .i64 v, AV.fn 195 []] [AObj.cells [T.sB m.1, T.aR m.2]] fun r H' => ∃ (x : Int × Bool), r = AV.tup [.int .i64 x.1, .bool x.2] ∧ H' = [AObj.cells [T.sB m.1, T.aR m.2]] ∧ Post (.tup [.int .i64 x.1, .bool x.2]) [AObj.cells [T.sB m.1, T.aR m.2]]) → ASpec prog 156 [.agg (T.encM m), .int .i64 v] [] Post := fun m v Post h => ASpec.of_vc g156 Tryz.func156 (by kernel_rfl) (by kernel_rfl) (by kernel_rfl) (kc (by kernel_rfl) h)
def g125 : Cfg := { N := 30, live := nol, cut := nof, mu := nof, ret := rets }
abbrev hps1250 (m : T.Mani) : List AObj := [AObj.cells [T.sB m.1, T.aR m.2], .cells [.int .i64 0, .sl 0 (.raw []) .nil]]
theorem s125 : ∀ (m : T.Mani) (v : Int) (Post : PT),
  condP (decide (v < (0 : Int))) (Post (.tup [.agg [.int .i64 0, .sl 0 (.raw []) .nil], .bool false]) (hps1250 m)) (condP (decide (v ≥ (1000000000 : Int))) (Post (.tup [.agg [.int .i64 0, .sl 0 (.raw []) .nil], .bool false]) (hps1250 m)) (ASpec prog 156 [.agg [T.sB m.1, T.aR m.2], .int .i64 v] (hps1250 m) fun r H' => ∃ (x : Int × Bool), r = AV.tup [.int .i64 x.1, .bool x.2] ∧ H' = (hps1250 m) ∧ condP (!Prod.snd x) (Post (.tup [.agg [.int .i64 0, .sl 0 (.raw []) .nil], .bool false]) (hps1250 m)) (needP ((0 : Int) ≤ Prod.fst x ∧ Prod.fst x < (↑m.2.length : Int)) (ASpec prog 99 [AV.agg [.int .i64 (m.2.getD x.1.toNat ((0 : Int), [])).1, AV.sl 2 (.map T.encN ([], []) (m.2.getD x.1.toNat ((0 : Int), [])).2) .none]] (hps1250 m) fun r H' => ∃ (x : Int × List T.Need), r = AV.agg [.int .i64 x.1, T.aN x.2] ∧ H' = (hps1250 m) ∧ Post (.tup [.agg [.int .i64 x.1, T.aN x.2], .bool true]) [AObj.cells [T.sB m.1, T.aR m.2], .cells [.int .i64 x.1, T.aN x.2]])))) → ASpec prog 125 [.agg (T.encM m), .int .i64 v] [] Post := fun m v Post h => ASpec.of_vc g125 Tryz.func125 (by kernel_rfl) (by kernel_rfl) (by kernel_rfl) (kc (by kernel_rfl) h)
def g163 : Cfg := { N := 24, live := nol, cut := nof, mu := nof, ret := rets }
theorem s163 : ∀ (es : T.Kn) (root : List T.Need) (l : List T.Pk) (p : T.Pk) (Post : PT),
  (ASpec prog 16 [.ptr 1 0, T.sB p.1] [AObj.mp (.typed T.EK es), .cells [AV.map 0], .cells [.ptr 1 0, T.aN root, T.aK l], .cells [T.sB p.1, .int .i64 p.2], .cells [AV.int .i64 0, .sl 0 (.raw []) .nil]] fun r H' => ∃ (x : T.Mani × Bool), r = AV.tup [.agg [T.sB x.1.1, T.aR x.1.2], .bool x.2] ∧ H' = [T.mX es, T.m0, .cells [.ptr 1 0, T.aN root, T.aK l], .cells [T.sB p.1, .int .i64 p.2], .cells [AV.int .i64 0, .sl 0 (.raw []) .nil]] ∧ (AV.str ⟨p.1.toArray⟩ = AV.str ⟨p.1.toArray⟩ ∧ [AObj.mp (.typed T.EK es), .cells [AV.map 0], .cells [.ptr 1 0, T.aN root, T.aK l], .cells [T.sB p.1, .int .i64 p.2], .cells [AV.int .i64 0, .sl 0 (.raw []) .nil], .cells [.str ⟨#[]⟩, .sl 0 (.raw []) .nil]] = [T.mX es, T.m0, .cells [.ptr 1 0, T.aN root, T.aK l], .cells [T.sB p.1, .int .i64 p.2], .cells [AV.int .i64 0, .sl 0 (.raw []) .nil], .cells [.str ⟨#[]⟩, .sl 0 (.raw []) .nil]]) ∧ (AV.ptr 1 0 = AV.ptr 1 0 ∧ [T.mX es, T.m0, .cells [.ptr 1 0, T.aN root, T.aK l], .cells [T.sB p.1, .int .i64 p.2], .cells [AV.int .i64 0, .sl 0 (.raw []) .nil], .cells [.str ⟨#[]⟩, .sl 0 (.raw []) .nil]] = [T.mX es, T.m0, .cells [.ptr 1 0, T.aN root, T.aK l], .cells [T.sB p.1, .int .i64 p.2], .cells [AV.int .i64 0, .sl 0 (.raw []) .nil], .cells [.str ⟨#[]⟩, .sl 0 (.raw []) .nil]]) ∧ ASpec prog 125 [.agg [T.sB x.1.1, T.aR x.1.2], .int .i64 p.2] [T.mX es, T.m0, .cells [.ptr 1 0, T.aN root, T.aK l], .cells [T.sB p.1, .int .i64 p.2], .cells [AV.int .i64 0, .sl 0 (.raw []) .nil], .cells [T.sB x.1.1, T.aR x.1.2]] fun r H' => ∃ (x_1 : T.Rel × Bool), r = AV.tup [.agg [.int .i64 x_1.1.1, T.aN x_1.1.2], .bool x_1.2] ∧ H' = [T.mX es, T.m0, .cells [.ptr 1 0, T.aN root, T.aK l], .cells [T.sB p.1, .int .i64 p.2], .cells [AV.int .i64 0, .sl 0 (.raw []) .nil], .cells [T.sB x.1.1, T.aR x.1.2]] ∧ Post (.tup [.agg [.int .i64 x_1.1.1, T.aN x_1.1.2], .bool x_1.2]) [T.mX es, T.m0, .cells [.ptr 1 0, T.aN root, T.aK l], .cells [T.sB p.1, .int .i64 p.2], .cells [AV.int .i64 x_1.1.1, T.aN x_1.1.2], .cells [T.sB x.1.1, T.aR x.1.2]]) → ASpec prog 163 [.ptr 2 0, .agg (T.encPk p)] (T.HF es root l) Post := fun es root l p Post h => ASpec.of_vc g163 Tryz.func163 (by kernel_rfl) (by kernel_rfl) (by kernel_rfl) (kc (by kernel_rfl) h)
def g160 : Cfg := { N := 24, live := nol, cut := nof, mu := nof, ret := rets }
theorem s160 : ∀ (es : T.Kn) (root : List T.Need) (l : List T.Pk) (n : T.Need) (Post : PT),
  (ASpec prog 76 [T.aK l, T.sB n.1] [AObj.mp (.typed T.EK es), .cells [AV.map 0], .cells [.ptr 1 0, T.aN root, T.aK l], .cells [T.sB n.1, T.aS n.2]] fun r H' => ∃ (x : Int × Bool), r = AV.tup [.int .i64 x.1, .bool x.2] ∧ H' = [T.mX es, T.m0, .cells [.ptr 1 0, T.aN root, T.aK l], .cells [T.sB n.1, T.aS n.2]] ∧ condP x.2 (ASpec prog 101 [T.aS n.2, .int .i64 x.1] [T.mX es, T.m0, .cells [.ptr 1 0, T.aN root, T.aK l], .cells [T.sB n.1, T.aS n.2]] fun r H' => ∃ (x : Bool), r = AV.bool x ∧ H' = [T.mX es, T.m0, .cells [.ptr 1 0, T.aN root, T.aK l], .cells [T.sB n.1, T.aS n.2]] ∧ Post (.bool x) [T.mX es, T.m0, .cells [.ptr 1 0, T.aN root, T.aK l], .cells [T.sB n.1, T.aS n.2]]) (Post (.bool false) [T.mX es, T.m0, .cells [.ptr 1 0, T.aN root, T.aK l], .cells [T.sB n.1, T.aS n.2]])) → ASpec prog 160 [.ptr 2 0, .agg (T.encN n)] (T.HF es root l) Post := fun es root l n Post h => ASpec.of_vc g160 Tryz.func160 (by kernel_rfl) (by kernel_rfl) (by kernel_rfl) (kc (by kernel_rfl) h)
def g132 : Cfg := { N := 10, live := nol, cut := nof, mu := nof, ret := rets }
theorem s132 : ∀ (es : T.Kn) (root : List T.Need) (l : List T.Pk) (Post : PT),
  (ASpec prog 159 [T.aK l] [T.mX es, T.m0, .cells [.ptr 1 0, T.aN root, T.aK l]] fun r H' => ∃ (x : Bool), r = AV.bool x ∧ H' = [T.mX es, T.m0, .cells [.ptr 1 0, T.aN root, T.aK l]] ∧ Post (.tup [.str ⟨#[]⟩, .bool !x]) [T.mX es, T.m0, .cells [.ptr 1 0, T.aN root, T.aK l]]) → ASpec prog 132 [.ptr 2 0] (T.HF es root l) Post := fun es root l Post h => ASpec.of_vc g132 Tryz.func132 (by kernel_rfl) (by kernel_rfl) (by kernel_rfl) (kc (by kernel_rfl) h)
def l133 : Nat → List Nat
  | 2 => [0, 9, 10, 11]
  | _ => []
def g133 : Cfg := { N := 22, live := l133, cut := nof, mu := nof, ret := rets }
def c133 : Code := bodyOf Tryz.f133
def q133_0 (n : Nat) (Post : PT) : AQ := endQ prog (resultsOf Tryz.f133) Post
def q133_1 (n : Nat) (Post : PT) : AQ := seqQ (fun s' H' => awp prog g133 n (codeSnd (codeSnd c133)) s' H' (q133_0 n Post)) (q133_0 n Post)
def q133_2 (n : Nat) (Post : PT) : AQ := blockQ 0 (q133_1 n Post)
def c133_2 : Code := codeFst (codeSnd (codeFst (codeSnd c133)))
theorem s133 : ∀ (es : T.Kn) (root : List T.Need) (l : List T.Pk) (Post : PT),
  AWP prog 22 3 c133_2 [(0, .ptr 2 0), (9, T.aN root), (10, .int .i64 root.length), (11, .int .i64 0)] [T.mX es, T.m0, .cells [.ptr 1 0, T.aN root, T.aK l]] (q133_2 3 Post) → ASpec prog 133 [.ptr 2 0] (T.HF es root l) Post := fun es root l Post h => ASpec.of_vc g133 Tryz.func133 (by kernel_rfl) (by kernel_rfl) (by kernel_rfl) (kc (by kernel_rfl) h)
theorem v133_2 : ∀ (es : T.Kn) (root : List T.Need) (l : List T.Pk) (n i : Int) (n_1 : Nat) (Post : PT),
  condP (decide (i < n)) (needP (0 ≤ i ∧ i < (↑root.length : Int)) (ASpec prog 160 [AV.ptr 2 0, AV.agg [.str ⟨(root.getD i.toNat ([], [])).1.toArray⟩, .sl 2 (.map T.encS (0, 0) (root.getD i.toNat ([], [])).2) .none]] [T.mX es, T.m0, .cells [.ptr 1 0, T.aN root, T.aK l], .cells [.str ⟨(root.getD i.toNat ([], [])).1.toArray⟩, .sl 2 (.map T.encS (0, 0) (root.getD i.toNat ([], [])).2) .none]] fun r H' => ∃ (x : Bool), r = AV.bool x ∧ H' = [T.mX es, T.m0, .cells [.ptr 1 0, T.aN root, T.aK l], .cells [.str ⟨(root.getD i.toNat ([], [])).1.toArray⟩, .sl 2 (.map T.encS (0, 0) (root.getD i.toNat ([], [])).2) .none]] ∧ condP (!x) (Post (.tup [.str ⟨(root.getD i.toNat ([], [])).1.toArray⟩, .bool true]) [T.mX es, T.m0, .cells [.ptr 1 0, T.aN root, T.aK l], .cells [.str ⟨(root.getD i.toNat ([], [])).1.toArray⟩, .sl 2 (.map T.encS (0, 0) (root.getD i.toNat ([], [])).2) .none]]) (AWP prog 22 n_1 c133_2 [(0, .ptr 2 0), (9, T.aN root), (10, .int .i64 n), (11, .int .i64 (IntKind.wrap .i64 (i + (1 : Int))))] [T.mX es, T.m0, .cells [.ptr 1 0, T.aN root, T.aK l], .cells [.str ⟨(root.getD i.toNat ([], [])).1.toArray⟩, .sl 2 (.map T.encS (0, 0) (root.getD i.toNat ([], [])).2) .none]] (q133_2 n_1 Post)))) (Post (.tup [.str ⟨#[]⟩, .bool false]) [T.mX es, T.m0, .cells [.ptr 1 0, T.aN root, T.aK l]]) → AWP prog 22 n_1 c133_2 [(0, .ptr 2 0), (9, T.aN root), (10, .int .i64 n), (11, .int .i64 i)] (T.HF es root l) (q133_2 n_1 Post) := fun es root l n i n Post h => AWP.loop' g133 (Cfg.live g133) c133_2 (by kernel_rfl) (by kernel_rfl) (kc (by kernel_rfl) h)
def g134 : Cfg := { N := 9, live := nol, cut := nof, mu := nof, ret := rets }
theorem s134 : ∀ (es : T.Kn) (root : List T.Need) (l : List T.Pk) (Post : PT),
  (ASpec prog 161 [.ptr 2 0, .fn 162 [.ptr 3 0]] [T.mX es, T.m0, .cells [.ptr 1 0, T.aN root, T.aK l], .cells [.ptr 2 0]] fun r H' => ∃ (x : ByteArray × Bool), r = AV.tup [.str x.1, .bool x.2] ∧ H' = [T.mX es, T.m0, .cells [.ptr 1 0, T.aN root, T.aK l], .cells [.ptr 2 0]] ∧ Post (.tup [.str x.1, .bool x.2]) [T.mX es, T.m0, .cells [.ptr 1 0, T.aN root, T.aK l], .cells [.ptr 2 0]]) → ASpec prog 134 [.ptr 2 0] (T.HF es root l) Post := fun es root l Post h => ASpec.of_vc g134 Tryz.func134 (by kernel_rfl) (by kernel_rfl) (by kernel_rfl) (kc (by kernel_rfl) h)
def g135 : Cfg := { N := 9, live := nol, cut := nof, mu := nof, ret := rets }
theorem s135 : ∀ (es : T.Kn) (root : List T.Need) (l : List T.Pk) (Post : PT),
  (ASpec prog 161 [.ptr 2 0, .fn 164 [.ptr 3 0]] [T.mX es, T.m0, .cells [.ptr 1 0, T.aN root, T.aK l], .cells [.ptr 2 0]] fun r H' => ∃ (x : ByteArray × Bool), r = AV.tup [.str x.1, .bool x.2] ∧ H' = [T.mX es, T.m0, .cells [.ptr 1 0, T.aN root, T.aK l], .cells [.ptr 2 0]] ∧ Post (.tup [.str x.1, .bool x.2]) [T.mX es, T.m0, .cells [.ptr 1 0, T.aN root, T.aK l], .cells [.ptr 2 0]]) → ASpec prog 135 [.ptr 2 0] (T.HF es root l) Post := fun es root l Post h => ASpec.of_vc g135 Tryz.func135 (by kernel_rfl) (by kernel_rfl) (by kernel_rfl) (kc (by kernel_rfl) h)
def g136 : Cfg := { N := 23, live := nol, cut := nof, mu := nof, ret := rets }
theorem s136 : ∀ (es : T.Kn) (root : List T.Need) (l : List T.Pk) (Post : PT),
  (ASpec prog 167 [.ptr 1 0, T.aN root, T.aK l] [T.mX es, T.m0, .cells [.ptr 1 0, T.aN root, T.aK l]] fun r H' => ∃ (x : List (List UInt8)), r = T.aL x ∧ H' = [T.mX es, T.m0, .cells [.ptr 1 0, T.aN root, T.aK l]] ∧ (T.aK l = T.aK l ∧ [T.mX es, T.m0, .cells [.ptr 1 0, T.aN root, T.aK l], .cells [.sl 0 (.raw []) .nil]] = [T.mX es, T.m0, .cells [.ptr 1 0, T.aN root, T.aK l], .cells [.sl 0 (.raw []) .nil]]) ∧ (T.aN root = T.aN root ∧ [T.mX es, T.m0, .cells [.ptr 1 0, T.aN root, T.aK l], .cells [.sl 0 (.raw []) .nil]] = [T.mX es, T.m0, .cells [.ptr 1 0, T.aN root, T.aK l], .cells [.sl 0 (.raw []) .nil]]) ∧ (AV.ptr 1 0 = AV.ptr 1 0 ∧ [T.mX es, T.m0, .cells [.ptr 1 0, T.aN root, T.aK l], .cells [.sl 0 (.raw []) .nil]] = [T.mX es, T.m0, .cells [.ptr 1 0, T.aN root, T.aK l], .cells [.sl 0 (.raw []) .nil]]) ∧ ASpec prog 161 [.ptr 2 0, .fn 168 [.ptr 3 0]] [T.mX es, T.m0, .cells [.ptr 1 0, T.aN root, T.aK l], .cells [T.aL x]] fun r H' => ∃ (x_1 : ByteArray × Bool), r = AV.tup [.str x_1.1, .bool x_1.2] ∧ H' = [T.mX es, T.m0, .cells [.ptr 1 0, T.aN root, T.aK l], .cells [T.aL x]] ∧ Post (.tup [.str x_1.1, .bool x_1.2]) [T.mX es, T.m0, .cells [.ptr 1 0, T.aN root, T.aK l], .cells [T.aL x]]) → ASpec prog 136 [.ptr 2 0] (T.HF es root l) Post := fun es root l Post h => ASpec.of_vc g136 Tryz.func136 (by kernel_rfl) (by kernel_rfl) (by kernel_rfl) (kc (by kernel_rfl) h)
def g162 : Cfg := { N := 14, live := nol, cut := nof, mu := nof, ret := rets }
theorem s162 : ∀ (es : T.Kn) (root : List T.Need) (l : List T.Pk) (p : T.Pk) (Post : PT),
  (ASpec prog 163 [.ptr 2 0, .agg [T.sB p.1, .int .i64 p.2]] [T.mX es, T.m0, .cells [.ptr 1 0, T.aN root, T.aK l], .cells [.ptr 2 0], .cells [T.sB p.1, .int .i64 p.2]] fun r H' => ∃ (x : T.Rel × Bool), r = AV.tup [.agg [.int .i64 x.1.1, T.aN x.1.2], .bool x.2] ∧ H' = [T.mX es, T.m0, .cells [.ptr 1 0, T.aN root, T.aK l], .cells [.ptr 2 0], .cells [T.sB p.1, .int .i64 p.2]] ∧ Post (.bool !Prod.snd x) [T.mX es, T.m0, .cells [.ptr 1 0, T.aN root, T.aK l], .cells [.ptr 2 0], .cells [T.sB p.1, .int .i64 p.2], .cells [AV.int .i64 x.1.1, T.aN x.1.2]]) → ASpec prog 162 [.agg (T.encPk p), .ptr 3 0] (T.HF es root l ++ [AObj.cells [.ptr 2 0]]) Post := fun es root l p Post h => ASpec.of_vc g162 Tryz.func162 (by kernel_rfl) (by kernel_rfl) (by kernel_rfl) (kc (by kernel_rfl) h)
def g164 : Cfg := { N := 16, live := nol, cut := nof, mu := nof, ret := rets }
theorem s164 : ∀ (es : T.Kn) (root : List T.Need) (l : List T.Pk) (p : T.Pk) (Post : PT),
  (ASpec prog 163 [.ptr 2 0, .agg [T.sB p.1, .int .i64 p.2]] [T.mX es, T.m0, .cells [.ptr 1 0, T.aN root, T.aK l], .cells [.ptr 2 0], .cells [T.sB p.1, .int .i64 p.2]] fun r H' => ∃ (x : T.Rel × Bool), r = AV.tup [.agg [.int .i64 x.1.1, T.aN x.1.2], .bool x.2] ∧ H' = [T.mX es, T.m0, .cells [.ptr 1 0, T.aN root, T.aK l], .cells [.ptr 2 0], .cells [T.sB p.1, .int .i64 p.2]] ∧ ASpec prog 165 [T.aN x.1.2, .fn 166 [.ptr 3 0]] [T.mX es, T.m0, .cells [.ptr 1 0, T.aN root, T.aK l], .cells [.ptr 2 0], .cells [T.sB p.1, .int .i64 p.2], .cells [AV.int .i64 x.1.1, T.aN x.1.2]] fun r H' => ∃ (x_1 : Bool), r = AV.bool x_1 ∧ H' = [T.mX es, T.m0, .cells [.ptr 1 0, T.aN root, T.aK l], .cells [.ptr 2 0], .cells [T.sB p.1, .int .i64 p.2], .cells [AV.int .i64 x.1.1, T.aN x.1.2]] ∧ Post (.bool x_1) [T.mX es, T.m0, .cells [.ptr 1 0, T.aN root, T.aK l], .cells [.ptr 2 0], .cells [T.sB p.1, .int .i64 p.2], .cells [AV.int .i64 x.1.1, T.aN x.1.2]]) → ASpec prog 164 [.agg (T.encPk p), .ptr 3 0] (T.HF es root l ++ [AObj.cells [.ptr 2 0]]) Post := fun es root l p Post h => ASpec.of_vc g164 Tryz.func164 (by kernel_rfl) (by kernel_rfl) (by kernel_rfl) (kc (by kernel_rfl) h)
def g166 : Cfg := { N := 8, live := nol, cut := nof, mu := nof, ret := rets }
theorem s166 : ∀ (es : T.Kn) (root : List T.Need) (l : List T.Pk) (n : T.Need) (Post : PT),
  (ASpec prog 160 [.ptr 2 0, .agg [T.sB n.1, T.aS n.2]] [T.mX es, T.m0, .cells [.ptr 1 0, T.aN root, T.aK l], .cells [.ptr 2 0], .cells [T.sB n.1, T.aS n.2]] fun r H' => ∃ (x : Bool), r = AV.bool x ∧ H' = [T.mX es, T.m0, .cells [.ptr 1 0, T.aN root, T.aK l], .cells [.ptr 2 0], .cells [T.sB n.1, T.aS n.2]] ∧ Post (.bool !x) [T.mX es, T.m0, .cells [.ptr 1 0, T.aN root, T.aK l], .cells [.ptr 2 0], .cells [T.sB n.1, T.aS n.2]]) → ASpec prog 166 [.agg (T.encN n), .ptr 3 0] (T.HF es root l ++ [AObj.cells [.ptr 2 0]]) Post := fun es root l n Post h => ASpec.of_vc g166 Tryz.func166 (by kernel_rfl) (by kernel_rfl) (by kernel_rfl) (kc (by kernel_rfl) h)
def g168 : Cfg := { N := 9, live := nol, cut := nof, mu := nof, ret := rets }
theorem s168 : ∀ (es : T.Kn) (root : List T.Need) (l : List T.Pk) (q : List (List UInt8)) (p : T.Pk) (Post : PT),
  (ASpec prog 169 [T.aL q, T.sB p.1] [AObj.mp (.typed T.EK es), .cells [AV.map 0], .cells [.ptr 1 0, T.aN root, T.aK l], .cells [T.aL q], .cells [T.sB p.1, .int .i64 p.2]] fun r H' => ∃ (x : Bool), r = AV.bool x ∧ H' = [T.mX es, T.m0, .cells [.ptr 1 0, T.aN root, T.aK l], .cells [T.aL q], .cells [T.sB p.1, .int .i64 p.2]] ∧ Post (.bool !x) [T.mX es, T.m0, .cells [.ptr 1 0, T.aN root, T.aK l], .cells [T.aL q], .cells [T.sB p.1, .int .i64 p.2]]) → ASpec prog 168 [.agg (T.encPk p), .ptr 3 0] (T.HF es root l ++ [AObj.cells [T.aL q]]) Post := fun es root l q p Post h => ASpec.of_vc g168 Tryz.func168 (by kernel_rfl) (by kernel_rfl) (by kernel_rfl) (kc (by kernel_rfl) h)
def g165 : Cfg := { N := 9, live := nol, cut := nof, mu := nof, ret := rets }
theorem s165 : ∀ (es : T.Kn) (root : List T.Need) (l : List T.Pk) (ns : List T.Need) (Post : PT),
  (ASpec prog 126 [T.aN ns, .fn (166 : FuncId) [.ptr 3 0]] [T.mX es, T.m0, .cells [.ptr 1 0, T.aN root, T.aK l], .cells [.ptr 2 0]] fun r H' => ∃ (x : Int), r = AV.int .i64 x ∧ H' = [T.mX es, T.m0, .cells [.ptr 1 0, T.aN root, T.aK l], .cells [.ptr 2 0]] ∧ Post (.bool (decide (x ≥ (0 : Int)))) [T.mX es, T.m0, .cells [.ptr 1 0, T.aN root, T.aK l], .cells [.ptr 2 0]]) → ASpec prog 165 [T.aN ns, .fn (166 : FuncId) [.ptr 3 0]] (T.HF es root l ++ [AObj.cells [.ptr 2 0]]) Post := fun es root l ns Post h => ASpec.of_vc g165 Tryz.func165 (by kernel_rfl) (by kernel_rfl) (by kernel_rfl) (kc (by kernel_rfl) h)
def l126 : Nat → List Nat
  | 2 => [0, 1, 7, 8]
  | _ => []
def g126 : Cfg := { N := 19, live := l126, cut := nof, mu := nof, ret := rets }
def c126 : Code := bodyOf Tryz.f126
def q126_0 (n : Nat) (Post : PT) : AQ := endQ prog (resultsOf Tryz.f126) Post
def q126_1 (n : Nat) (Post : PT) : AQ := seqQ (fun s' H' => awp prog g126 n (codeSnd (codeSnd c126)) s' H' (q126_0 n Post)) (q126_0 n Post)
def q126_2 (n : Nat) (Post : PT) : AQ := blockQ 0 (q126_1 n Post)
def c126_2 : Code := codeFst (codeSnd (codeFst (codeSnd c126)))
theorem s126 : ∀ (es : T.Kn) (root : List T.Need) (l : List T.Pk) (ns : List T.Need) (Post : PT),
  AWP prog 19 4 c126_2 [(0, T.aN ns), (1, .fn (166 : FuncId) [.ptr 3 0]), (7, .int .i64 ns.length), (8, .int .i64 0)] [T.mX es, T.m0, .cells [.ptr 1 0, T.aN root, T.aK l], .cells [.ptr 2 0]] (q126_2 4 Post) → ASpec prog 126 [T.aN ns, .fn (166 : FuncId) [.ptr 3 0]] (T.HF es root l ++ [AObj.cells [.ptr 2 0]]) Post := fun es root l ns Post h => ASpec.of_vc g126 Tryz.func126 (by kernel_rfl) (by kernel_rfl) (by kernel_rfl) (kc (by kernel_rfl) h)
theorem v126_2 : ∀ (es : T.Kn) (root : List T.Need) (l : List T.Pk) (ns : List T.Need) (n i : Int) (n_1 : Nat) (Post : PT),
  condP (decide (i < n)) (needP (0 ≤ i ∧ i < (↑ns.length : Int)) (ASpec prog 166 [AV.agg [AV.str ⟨(ns.getD i.toNat ([], [])).1.toArray⟩, .sl 2 (.map T.encS (0, 0) (ns.getD i.toNat ([], [])).2) .none], AV.ptr 3 0] [T.mX es, T.m0, .cells [.ptr 1 0, T.aN root, T.aK l], .cells [.ptr 2 0]] fun r H' => ∃ (x : Bool), r = AV.bool x ∧ H' = [T.mX es, T.m0, .cells [.ptr 1 0, T.aN root, T.aK l], .cells [.ptr 2 0]] ∧ condP x (Post (.int .i64 i) [T.mX es, T.m0, .cells [.ptr 1 0, T.aN root, T.aK l], .cells [.ptr 2 0]]) (AWP prog 19 n_1 c126_2 [(0, T.aN ns), (1, .fn (166 : FuncId) [.ptr 3 0]), (7, .int .i64 n), (8, .int .i64 (IntKind.wrap .i64 (i + (1 : Int))))] [T.mX es, T.m0, .cells [.ptr 1 0, T.aN root, T.aK l], .cells [.ptr 2 0]] (q126_2 n_1 Post)))) (Post (.int .i64 (-1)) [T.mX es, T.m0, .cells [.ptr 1 0, T.aN root, T.aK l], .cells [.ptr 2 0]]) → AWP prog 19 n_1 c126_2 [(0, T.aN ns), (1, .fn (166 : FuncId) [.ptr 3 0]), (7, .int .i64 n), (8, .int .i64 i)] (T.HF es root l ++ [AObj.cells [.ptr 2 0]]) (q126_2 n_1 Post) := fun es root l ns n i n Post h => AWP.loop' g126 (Cfg.live g126) c126_2 (by kernel_rfl) (by kernel_rfl) (kc (by kernel_rfl) h)
def g161 : Cfg := { N := 23, live := nol, cut := nof, mu := nof, ret := rets }
theorem s161a : ∀ (es : T.Kn) (root : List T.Need) (l : List T.Pk) (Post : PT),
  (ASpec prog 193 [T.aK l, .fn (162 : FuncId) [.ptr 3 0]] [T.mX es, T.m0, .cells [.ptr 1 0, T.aN root, T.aK l], .cells [.ptr 2 0]] fun r H' => ∃ (x : Int), r = AV.int .i64 x ∧ H' = [T.mX es, T.m0, .cells [.ptr 1 0, T.aN root, T.aK l], .cells [.ptr 2 0]] ∧ condP (decide (x < (0 : Int))) (Post (.tup [.str ⟨#[]⟩, .bool false]) [T.mX es, T.m0, .cells [.ptr 1 0, T.aN root, T.aK l], .cells [.ptr 2 0]]) (needP (0 ≤ x ∧ x < (↑l.length : Int)) (Post (.tup [AV.str ⟨(l.getD x.toNat T.noPk).1.toArray⟩, .bool true]) [T.mX es, T.m0, .cells [.ptr 1 0, T.aN root, T.aK l], .cells [.ptr 2 0]]))) → ASpec prog 161 [.ptr 2 0, .fn (162 : FuncId) [.ptr 3 0]] (T.HF es root l ++ [AObj.cells [.ptr 2 0]]) Post := fun es root l Post h => ASpec.of_vc g161 Tryz.func161 (by kernel_rfl) (by kernel_rfl) (by kernel_rfl) (kc (by kernel_rfl) h)
theorem s161l : ∀ (es : T.Kn) (root : List T.Need) (l : List T.Pk) (Post : PT),
  (ASpec prog 193 [T.aK l, .fn (164 : FuncId) [.ptr 3 0]] [T.mX es, T.m0, .cells [.ptr 1 0, T.aN root, T.aK l], .cells [.ptr 2 0]] fun r H' => ∃ (x : Int), r = AV.int .i64 x ∧ H' = [T.mX es, T.m0, .cells [.ptr 1 0, T.aN root, T.aK l], .cells [.ptr 2 0]] ∧ condP (decide (x < (0 : Int))) (Post (.tup [.str ⟨#[]⟩, .bool false]) [T.mX es, T.m0, .cells [.ptr 1 0, T.aN root, T.aK l], .cells [.ptr 2 0]]) (needP (0 ≤ x ∧ x < (↑l.length : Int)) (Post (.tup [AV.str ⟨(l.getD x.toNat T.noPk).1.toArray⟩, .bool true]) [T.mX es, T.m0, .cells [.ptr 1 0, T.aN root, T.aK l], .cells [.ptr 2 0]]))) → ASpec prog 161 [.ptr 2 0, .fn (164 : FuncId) [.ptr 3 0]] (T.HF es root l ++ [AObj.cells [.ptr 2 0]]) Post := fun es root l Post h => ASpec.of_vc g161 Tryz.func161 (by kernel_rfl) (by kernel_rfl) (by kernel_rfl) (kc (by kernel_rfl) h)
theorem s161i : ∀ (es : T.Kn) (root : List T.Need) (l : List T.Pk) (q : List (List UInt8)) (Post : PT),
  (ASpec prog 193 [T.aK l, .fn (168 : FuncId) [.ptr 3 0]] [T.mX es, T.m0, .cells [.ptr 1 0, T.aN root, T.aK l], .cells [T.aL q]] fun r H' => ∃ (x : Int), r = AV.int .i64 x ∧ H' = [T.mX es, T.m0, .cells [.ptr 1 0, T.aN root, T.aK l], .cells [T.aL q]] ∧ condP (decide (x < (0 : Int))) (Post (.tup [.str ⟨#[]⟩, .bool false]) [T.mX es, T.m0, .cells [.ptr 1 0, T.aN root, T.aK l], .cells [T.aL q]]) (needP (0 ≤ x ∧ x < (↑l.length : Int)) (Post (.tup [AV.str ⟨(l.getD x.toNat T.noPk).1.toArray⟩, .bool true]) [T.mX es, T.m0, .cells [.ptr 1 0, T.aN root, T.aK l], .cells [T.aL q]]))) → ASpec prog 161 [.ptr 2 0, .fn (168 : FuncId) [.ptr 3 0]] (T.HF es root l ++ [AObj.cells [T.aL q]]) Post := fun es root l q Post h => ASpec.of_vc g161 Tryz.func161 (by kernel_rfl) (by kernel_rfl) (by kernel_rfl) (kc (by kernel_rfl) h)
def l193 : Nat → List Nat
  | 2 => [0, 1, 7, 8]
  | _ => []
def g193 : Cfg := { N := 19, live := l193, cut := nof, mu := nof, ret := rets }
def c193 : Code := bodyOf Tryz.f193
def q193_0 (n : Nat) (Post : PT) : AQ := endQ prog (resultsOf Tryz.f193) Post
def q193_1 (n : Nat) (Post : PT) : AQ := seqQ (fun s' H' => awp prog g193 n (codeSnd (codeSnd c193)) s' H' (q193_0 n Post)) (q193_0 n Post)
def q193_2 (n : Nat) (Post : PT) : AQ := blockQ 0 (q193_1 n Post)
def c193_2 : Code := codeFst (codeSnd (codeFst (codeSnd c193)))
theorem s193a : ∀ (es : T.Kn) (root : List T.Need) (l : List T.Pk) (Post : PT),
  AWP prog 19 4 c193_2 [(0, T.aK l), (1, .fn (162 : FuncId) [.ptr 3 0]), (7, .int .i64 l.length), (8, .int .i64 0)] [T.mX es, T.m0, .cells [.ptr 1 0, T.aN root, T.aK l], .cells [.ptr 2 0]] (q193_2 4 Post) → ASpec prog 193 [T.aK l, .fn (162 : FuncId) [.ptr 3 0]] (T.HF es root l ++ [AObj.cells [.ptr 2 0]]) Post := fun es root l Post h => ASpec.of_vc g193 Tryz.func193 (by kernel_rfl) (by kernel_rfl) (by kernel_rfl) (kc (by kernel_rfl) h)
theorem s193l : ∀ (es : T.Kn) (root : List T.Need) (l : List T.Pk) (Post : PT),
  AWP prog 19 4 c193_2 [(0, T.aK l), (1, .fn (164 : FuncId) [.ptr 3 0]), (7, .int .i64 l.length), (8, .int .i64 0)] [T.mX es, T.m0, .cells [.ptr 1 0, T.aN root, T.aK l], .cells [.ptr 2 0]] (q193_2 4 Post) → ASpec prog 193 [T.aK l, .fn (164 : FuncId) [.ptr 3 0]] (T.HF es root l ++ [AObj.cells [.ptr 2 0]]) Post := fun es root l Post h => ASpec.of_vc g193 Tryz.func193 (by kernel_rfl) (by kernel_rfl) (by kernel_rfl) (kc (by kernel_rfl) h)
theorem s193i : ∀ (es : T.Kn) (root : List T.Need) (l : List T.Pk) (q : List (List UInt8)) (Post : PT),
  AWP prog 19 4 c193_2 [(0, T.aK l), (1, .fn (168 : FuncId) [.ptr 3 0]), (7, .int .i64 l.length), (8, .int .i64 0)] [T.mX es, T.m0, .cells [.ptr 1 0, T.aN root, T.aK l], .cells [T.aL q]] (q193_2 4 Post) → ASpec prog 193 [T.aK l, .fn (168 : FuncId) [.ptr 3 0]] (T.HF es root l ++ [AObj.cells [T.aL q]]) Post := fun es root l q Post h => ASpec.of_vc g193 Tryz.func193 (by kernel_rfl) (by kernel_rfl) (by kernel_rfl) (kc (by kernel_rfl) h)
theorem v193_2a : ∀ (es : T.Kn) (root : List T.Need) (l : List T.Pk) (n i : Int) (n_1 : Nat) (Post : PT),
  condP (decide (i < n)) (needP (0 ≤ i ∧ i < (↑l.length : Int)) (ASpec prog 162 [AV.agg [AV.str ⟨(l.getD i.toNat T.noPk).1.toArray⟩, .int .i64 (l.getD i.toNat T.noPk).2], .ptr 3 0] [T.mX es, T.m0, .cells [.ptr 1 0, T.aN root, T.aK l], .cells [.ptr 2 0]] fun r H' => ∃ (x : Bool), r = AV.bool x ∧ H' = [T.mX es, T.m0, .cells [.ptr 1 0, T.aN root, T.aK l], .cells [.ptr 2 0]] ∧ condP x (Post (.int .i64 i) [T.mX es, T.m0, .cells [.ptr 1 0, T.aN root, T.aK l], .cells [.ptr 2 0]]) (AWP prog 19 n_1 c193_2 [(0, T.aK l), (1, .fn (162 : FuncId) [.ptr 3 0]), (7, .int .i64 n), (8, .int .i64 (IntKind.wrap .i64 (i + (1 : Int))))] [T.mX es, T.m0, .cells [.ptr 1 0, T.aN root, T.aK l], .cells [.ptr 2 0]] (q193_2 n_1 Post)))) (Post (.int .i64 (-1)) [T.mX es, T.m0, .cells [.ptr 1 0, T.aN root, T.aK l], .cells [.ptr 2 0]]) → AWP prog 19 n_1 c193_2 [(0, T.aK l), (1, .fn (162 : FuncId) [.ptr 3 0]), (7, .int .i64 n), (8, .int .i64 i)] (T.HF es root l ++ [AObj.cells [.ptr 2 0]]) (q193_2 n_1 Post) := fun es root l n i n Post h => AWP.loop' g193 (Cfg.live g193) c193_2 (by kernel_rfl) (by kernel_rfl) (kc (by kernel_rfl) h)
theorem v193_2l : ∀ (es : T.Kn) (root : List T.Need) (l : List T.Pk) (n i : Int) (n_1 : Nat) (Post : PT),
  condP (decide (i < n)) (needP (0 ≤ i ∧ i < (↑l.length : Int)) (ASpec prog 164 [AV.agg [AV.str ⟨(l.getD i.toNat T.noPk).1.toArray⟩, .int .i64 (l.getD i.toNat T.noPk).2], .ptr 3 0] [T.mX es, T.m0, .cells [.ptr 1 0, T.aN root, T.aK l], .cells [.ptr 2 0]] fun r H' => ∃ (x : Bool), r = AV.bool x ∧ H' = [T.mX es, T.m0, .cells [.ptr 1 0, T.aN root, T.aK l], .cells [.ptr 2 0]] ∧ condP x (Post (.int .i64 i) [T.mX es, T.m0, .cells [.ptr 1 0, T.aN root, T.aK l], .cells [.ptr 2 0]]) (AWP prog 19 n_1 c193_2 [(0, T.aK l), (1, .fn (164 : FuncId) [.ptr 3 0]), (7, .int .i64 n), (8, .int .i64 (IntKind.wrap .i64 (i + (1 : Int))))] [T.mX es, T.m0, .cells [.ptr 1 0, T.aN root, T.aK l], .cells [.ptr 2 0]] (q193_2 n_1 Post)))) (Post (.int .i64 (-1)) [T.mX es, T.m0, .cells [.ptr 1 0, T.aN root, T.aK l], .cells [.ptr 2 0]]) → AWP prog 19 n_1 c193_2 [(0, T.aK l), (1, .fn (164 : FuncId) [.ptr 3 0]), (7, .int .i64 n), (8, .int .i64 i)] (T.HF es root l ++ [AObj.cells [.ptr 2 0]]) (q193_2 n_1 Post) := fun es root l n i n Post h => AWP.loop' g193 (Cfg.live g193) c193_2 (by kernel_rfl) (by kernel_rfl) (kc (by kernel_rfl) h)
theorem v193_2i : ∀ (es : T.Kn) (root : List T.Need) (l : List T.Pk) (q : List (List UInt8)) (n i : Int) (n_1 : Nat) (Post : PT),
  condP (decide (i < n)) (needP (0 ≤ i ∧ i < (↑l.length : Int)) (ASpec prog 168 [AV.agg [AV.str ⟨(l.getD i.toNat T.noPk).1.toArray⟩, .int .i64 (l.getD i.toNat T.noPk).2], .ptr 3 0] [T.mX es, T.m0, .cells [.ptr 1 0, T.aN root, T.aK l], .cells [T.aL q]] fun r H' => ∃ (x : Bool), r = AV.bool x ∧ H' = [T.mX es, T.m0, .cells [.ptr 1 0, T.aN root, T.aK l], .cells [T.aL q]] ∧ condP x (Post (.int .i64 i) [T.mX es, T.m0, .cells [.ptr 1 0, T.aN root, T.aK l], .cells [T.aL q]]) (AWP prog 19 n_1 c193_2 [(0, T.aK l), (1, .fn (168 : FuncId) [.ptr 3 0]), (7, .int .i64 n), (8, .int .i64 (IntKind.wrap .i64 (i + (1 : Int))))] [T.mX es, T.m0, .cells [.ptr 1 0, T.aN root, T.aK l], .cells [T.aL q]] (q193_2 n_1 Post)))) (Post (.int .i64 (-1)) [T.mX es, T.m0, .cells [.ptr 1 0, T.aN root, T.aK l], .cells [T.aL q]]) → AWP prog 19 n_1 c193_2 [(0, T.aK l), (1, .fn (168 : FuncId) [.ptr 3 0]), (7, .int .i64 n), (8, .int .i64 i)] (T.HF es root l ++ [AObj.cells [T.aL q]]) (q193_2 n_1 Post) := fun es root l q n i n Post h => AWP.loop' g193 (Cfg.live g193) c193_2 (by kernel_rfl) (by kernel_rfl) (kc (by kernel_rfl) h)
def l89 : Nat → List Nat
  | 4 => [30, 31]
  | _ => []
def g89 : Cfg := { N := 45, live := l89, cut := nof, mu := nof, ret := rets }
def c89 : Code := bodyOf Tryz.f89
def q89_0 (n : Nat) (Post : PT) : AQ := endQ prog (resultsOf Tryz.f89) Post
def q89_1 (n : Nat) (Post : PT) : AQ := seqQ (fun s' H' => awp prog g89 n (codeSnd (codeSnd (codeSnd (codeSnd c89)))) s' H' (q89_0 n Post)) (q89_0 n Post)
def q89_2 (n : Nat) (Post : PT) : AQ := blockQ 0 (q89_1 n Post)
def c89_4 : Code := codeFst (codeSnd (codeFst (codeSnd (codeSnd (codeSnd c89)))))
theorem s89 : ∀ (es : T.Kn) (root : List T.Need) (l : List T.Pk) (Post : PT),
  AWP prog 45 2 c89_4 [(30, AV.agg [.bfn 132 [.ptr 2 0], .bfn 133 [.ptr 2 0], .bfn 134 [.ptr 2 0], AV.bfn 135 [.ptr 2 0], .bfn 136 [.ptr 2 0]]), (31, .int .i64 0)] [T.mX es, T.m0, .cells [.ptr 1 0, T.aN root, T.aK l], .cells [.bfn 132 [.ptr 2 0], .bfn 133 [.ptr 2 0], .bfn 134 [.ptr 2 0], AV.bfn 135 [.ptr 2 0], .bfn 136 [.ptr 2 0]]] (q89_2 2 Post) → ASpec prog 89 [.ptr 1 0, T.aN root, T.aK l] (T.HX es) Post := fun es root l Post h => ASpec.of_vc g89 Tryz.func89 (by kernel_rfl) (by kernel_rfl) (by kernel_rfl) (kc (by kernel_rfl) h)
theorem v89_4a : ∀ (es : T.Kn) (root : List T.Need) (l : List T.Pk) (n : Nat) (Post : PT),
  needP ((0 : Int) ≤ (0 : Int) ∧ (0 : Int) < (5 : Int)) (ASpec prog 132 [.ptr 2 0] [T.mX es, T.m0, .cells [.ptr 1 0, T.aN root, T.aK l]] fun r H' => ∃ (x : ByteArray × Bool), r = AV.tup [.str x.1, .bool x.2] ∧ H' = [T.mX es, T.m0, .cells [.ptr 1 0, T.aN root, T.aK l]] ∧ condP x.2 (Post (.tup [.int .i64 1, .str x.1]) [T.mX es, T.m0, .cells [.ptr 1 0, T.aN root, T.aK l]]) (AWP prog 45 n c89_4 [(30, AV.agg [.bfn (132 : FuncId) [.ptr 2 0], .bfn (133 : FuncId) [.ptr 2 0], .bfn (134 : FuncId) [.ptr 2 0], AV.bfn (135 : FuncId) [.ptr 2 0], .bfn (136 : FuncId) [.ptr 2 0]]), (31, .int .i64 1)] [T.mX es, T.m0, .cells [.ptr 1 0, T.aN root, T.aK l]] (q89_2 n Post))) → AWP prog 45 n c89_4 [(30, AV.agg [.bfn (132 : FuncId) [.ptr 2 0], .bfn (133 : FuncId) [.ptr 2 0], .bfn (134 : FuncId) [.ptr 2 0], AV.bfn (135 : FuncId) [.ptr 2 0], .bfn (136 : FuncId) [.ptr 2 0]]), (31, .int .i64 0)] (T.HF es root l) (q89_2 n Post) := fun es root l n Post h => AWP.loop' g89 (Cfg.live g89) c89_4 (by kernel_rfl) (by kernel_rfl) (kc (by kernel_rfl) h)
theorem v89_4b : ∀ (es : T.Kn) (root : List T.Need) (l : List T.Pk) (n : Nat) (Post : PT),
  needP ((0 : Int) ≤ (1 : Int) ∧ (1 : Int) < (5 : Int)) (ASpec prog 133 [.ptr 2 0] [T.mX es, T.m0, .cells [.ptr 1 0, T.aN root, T.aK l]] fun r H' => ∃ (x : ByteArray × Bool), r = AV.tup [.str x.1, .bool x.2] ∧ H' = [T.mX es, T.m0, .cells [.ptr 1 0, T.aN root, T.aK l]] ∧ condP x.2 (Post (.tup [.int .i64 2, .str x.1]) [T.mX es, T.m0, .cells [.ptr 1 0, T.aN root, T.aK l]]) (AWP prog 45 n c89_4 [(30, AV.agg [.bfn (132 : FuncId) [.ptr 2 0], .bfn (133 : FuncId) [.ptr 2 0], .bfn (134 : FuncId) [.ptr 2 0], AV.bfn (135 : FuncId) [.ptr 2 0], .bfn (136 : FuncId) [.ptr 2 0]]), (31, .int .i64 2)] [T.mX es, T.m0, .cells [.ptr 1 0, T.aN root, T.aK l]] (q89_2 n Post))) → AWP prog 45 n c89_4 [(30, AV.agg [.bfn (132 : FuncId) [.ptr 2 0], .bfn (133 : FuncId) [.ptr 2 0], .bfn (134 : FuncId) [.ptr 2 0], AV.bfn (135 : FuncId) [.ptr 2 0], .bfn (136 : FuncId) [.ptr 2 0]]), (31, .int .i64 1)] (T.HF es root l) (q89_2 n Post) := fun es root l n Post h => AWP.loop' g89 (Cfg.live g89) c89_4 (by kernel_rfl) (by kernel_rfl) (kc (by kernel_rfl) h)
theorem v89_4c : ∀ (es : T.Kn) (root : List T.Need) (l : List T.Pk) (n : Nat) (Post : PT),
  needP ((0 : Int) ≤ (2 : Int) ∧ (2 : Int) < (5 : Int)) (ASpec prog 134 [.ptr 2 0] [T.mX es, T.m0, .cells [.ptr 1 0, T.aN root, T.aK l]] fun r H' => ∃ (x : ByteArray × Bool), r = AV.tup [.str x.1, .bool x.2] ∧ H' = [T.mX es, T.m0, .cells [.ptr 1 0, T.aN root, T.aK l]] ∧ condP x.2 (Post (.tup [.int .i64 3, .str x.1]) [T.mX es, T.m0, .cells [.ptr 1 0, T.aN root, T.aK l]]) (AWP prog 45 n c89_4 [(30, AV.agg [.bfn (132 : FuncId) [.ptr 2 0], .bfn (133 : FuncId) [.ptr 2 0], .bfn (134 : FuncId) [.ptr 2 0], AV.bfn (135 : FuncId) [.ptr 2 0], .bfn (136 : FuncId) [.ptr 2 0]]), (31, .int .i64 3)] [T.mX es, T.m0, .cells [.ptr 1 0, T.aN root, T.aK l]] (q89_2 n Post))) → AWP prog 45 n c89_4 [(30, AV.agg [.bfn (132 : FuncId) [.ptr 2 0], .bfn (133 : FuncId) [.ptr 2 0], .bfn (134 : FuncId) [.ptr 2 0], AV.bfn (135 : FuncId) [.ptr 2 0], .bfn (136 : FuncId) [.ptr 2 0]]), (31, .int .i64 2)] (T.HF es root l) (q89_2 n Post) := fun es root l n Post h => AWP.loop' g89 (Cfg.live g89) c89_4 (by kernel_rfl) (by kernel_rfl) (kc (by kernel_rfl) h)
theorem v89_4d : ∀ (es : T.Kn) (root : List T.Need) (l : List T.Pk) (n : Nat) (Post : PT),
  needP ((0 : Int) ≤ (3 : Int) ∧ (3 : Int) < (5 : Int)) (ASpec prog 135 [.ptr 2 0] [T.mX es, T.m0, .cells [.ptr 1 0, T.aN root, T.aK l]] fun r H' => ∃ (x : ByteArray × Bool), r = AV.tup [.str x.1, .bool x.2] ∧ H' = [T.mX es, T.m0, .cells [.ptr 1 0, T.aN root, T.aK l]] ∧ condP x.2 (Post (.tup [.int .i64 4, .str x.1]) [T.mX es, T.m0, .cells [.ptr 1 0, T.aN root, T.aK l]]) (AWP prog 45 n c89_4 [(30, AV.agg [.bfn (132 : FuncId) [.ptr 2 0], .bfn (133 : FuncId) [.ptr 2 0], .bfn (134 : FuncId) [.ptr 2 0], AV.bfn (135 : FuncId) [.ptr 2 0], .bfn (136 : FuncId) [.ptr 2 0]]), (31, .int .i64 4)] [T.mX es, T.m0, .cells [.ptr 1 0, T.aN root, T.aK l]] (q89_2 n Post))) → AWP prog 45 n c89_4 [(30, AV.agg [.bfn (132 : FuncId) [.ptr 2 0], .bfn (133 : FuncId) [.ptr 2 0], .bfn (134 : FuncId) [.ptr 2 0], AV.bfn (135 : FuncId) [.ptr 2 0], .bfn (136 : FuncId) [.ptr 2 0]]), (31, .int .i64 3)] (T.HF es root l) (q89_2 n Post) := fun es root l n Post h => AWP.loop' g89 (Cfg.live g89) c89_4 (by kernel_rfl) (by kernel_rfl) (kc (by kernel_rfl) h)
theorem v89_4e : ∀ (es : T.Kn) (root : List T.Need) (l : List T.Pk) (n : Nat) (Post : PT),
  needP ((0 : Int) ≤ (4 : Int) ∧ (4 : Int) < (5 : Int)) (ASpec prog 136 [.ptr 2 0] [T.mX es, T.m0, .cells [.ptr 1 0, T.aN root, T.aK l]] fun r H' => ∃ (x : ByteArray × Bool), r = AV.tup [.str x.1, .bool x.2] ∧ H' = [T.mX es, T.m0, .cells [.ptr 1 0, T.aN root, T.aK l]] ∧ condP x.2 (Post (.tup [.int .i64 5, .str x.1]) [T.mX es, T.m0, .cells [.ptr 1 0, T.aN root, T.aK l]]) (AWP prog 45 n c89_4 [(30, AV.agg [.bfn (132 : FuncId) [.ptr 2 0], .bfn (133 : FuncId) [.ptr 2 0], .bfn (134 : FuncId) [.ptr 2 0], AV.bfn (135 : FuncId) [.ptr 2 0], .bfn (136 : FuncId) [.ptr 2 0]]), (31, .int .i64 5)] [T.mX es, T.m0, .cells [.ptr 1 0, T.aN root, T.aK l]] (q89_2 n Post))) → AWP prog 45 n c89_4 [(30, AV.agg [.bfn (132 : FuncId) [.ptr 2 0], .bfn (133 : FuncId) [.ptr 2 0], .bfn (134 : FuncId) [.ptr 2 0], AV.bfn (135 : FuncId) [.ptr 2 0], .bfn (136 : FuncId) [.ptr 2 0]]), (31, .int .i64 4)] (T.HF es root l) (q89_2 n Post) := fun es root l n Post h => AWP.loop' g89 (Cfg.live g89) c89_4 (by kernel_rfl) (by kernel_rfl) (kc (by kernel_rfl) h)
theorem v89_4f : ∀ (es : T.Kn) (root : List T.Need) (l : List T.Pk) (n : Nat) (Post : PT),
  Post (.tup [.int .i64 0, .str ⟨#[]⟩]) [T.mX es, T.m0, .cells [.ptr 1 0, T.aN root, T.aK l]] → AWP prog 45 n c89_4 [(30, AV.agg [.bfn (132 : FuncId) [.ptr 2 0], .bfn (133 : FuncId) [.ptr 2 0], .bfn (134 : FuncId) [.ptr 2 0], AV.bfn (135 : FuncId) [.ptr 2 0], .bfn (136 : FuncId) [.ptr 2 0]]), (31, .int .i64 5)] (T.HF es root l) (q89_2 n Post) := fun es root l n Post h => AWP.loop' g89 (Cfg.live g89) c89_4 (by kernel_rfl) (by kernel_rfl) (kc (by kernel_rfl) h)
def g39 : Cfg := { N := 18, live := nol, cut := nof, mu := nof, ret := rets }
theorem s39 : ∀ (es : T.Kn) (root : List T.Need) (l : List T.Pk) (Post : PT),
  (ASpec prog 89 [.ptr 1 0, T.aN root, T.aK l] [T.mX es, T.m0] fun r H' => ∃ (x : Int × ByteArray), r = AV.tup [.int .i64 x.1, .str x.2] ∧ H' = [T.mX es, T.m0] ∧ Post (.bool (Prod.fst x == (0 : Int))) [T.mX es, T.m0]) → ASpec prog 39 [.ptr 1 0, T.aN root, T.aK l] (T.HX es) Post := fun es root l Post h => ASpec.of_vc g39 Tryz.func39 (by kernel_rfl) (by kernel_rfl) (by kernel_rfl) (kc (by kernel_rfl) h)
def l208 : Nat → List Nat
  | 1 => [1, 2, 3, 4, 12, 13, 14]
  | 5 => [1, 2, 3, 4, 7, 12, 13, 14]
  | _ => []
def u208 : Nat → Bool
  | 5 => true
  | _ => false
def g208 : Cfg := { N := 47, live := l208, cut := u208, mu := nof, ret := rets }
def c208 : Code := bodyOf Tryz.f208
def q208_0 (n : Nat) (Post : PT) : AQ := endQ prog (resultsOf Tryz.f208) Post
def q208_1 (n : Nat) (Post : PT) : AQ := blockQ 0 (q208_0 n Post)
def c208_1 : Code := codeFst (codeSnd c208)
theorem s208 : ∀ (es : T.Kn) (root : List T.Need) (l : List T.Pk) (o : List (List UInt8)) (ns : List T.Need) (Post : PT),
  AWP prog 47 8 c208_1 [(1, .ptr 6 0), (2, .ptr 2 0), (3, .ptr 4 0), (4, .ptr 7 0), (12, T.aN ns), (13, .int .i64 ns.length), (14, .int .i64 0)] [T.mX es, T.m0, .cells [T.aK l], .cells [.ptr 1 0, T.aN root, T.aK l], .cells [.ptr 3 0], .mp (.typed T.EB (T.seenM o)), .cells [.map 5], .cells [.fn (208 : FuncId) [.ptr 6 0, .ptr 2 0, .ptr 4 0, .ptr 7 0]]] (q208_1 8 Post) → ASpec prog 208 [T.aN ns, .ptr 6 0, .ptr 2 0, .ptr 4 0, .ptr 7 0] (T.HV es root l o) Post := fun es root l o ns Post h => ASpec.of_vc g208 Tryz.func208 (by kernel_rfl) (by kernel_rfl) (by kernel_rfl) (kc (by kernel_rfl) h)
def q208_2 (n : Nat) (Post : PT) : AQ := loopQ prog 47 n c208_1 (q208_1 n Post) (Cfg.live g208)
def q208_3 (n : Nat) (Post : PT) : AQ := seqQ (fun s' H' => awp prog g208 n (codeSnd (codeSnd (codeSnd (codeFst c208_1)))) s' H' (q208_2 n Post)) (q208_2 n Post)
def q208_4 (n : Nat) (Post : PT) : AQ := blockQ 1 (q208_3 n Post)
def c208_5 : Code := codeSnd (codeSnd (codeSnd (codeFst (codeFst (codeSnd (codeSnd (codeFst c208_1)))))))
theorem v208_1 : ∀ (es : T.Kn) (root : List T.Need) (l : List T.Pk) (o : List (List UInt8)) (ns : List T.Need) (n i : Int) (n_1 : Nat) (Post : PT),
  condP (decide (i < n)) (needP (0 ≤ i ∧ i < (↑ns.length : Int)) (optionP (findM (T.seenM o) ⟨(ns.getD i.toNat ([], [])).1.toArray⟩) (fun (x : Bool) => condP x (AWP prog 47 n_1 c208_1 [(1, .ptr 6 0), (2, .ptr 2 0), (3, .ptr 4 0), (4, .ptr 7 0), (12, T.aN ns), (13, .int .i64 n), (14, .int .i64 (IntKind.wrap .i64 (i + (1 : Int))))] [T.mX es, T.m0, .cells [T.aK l], .cells [.ptr 1 0, T.aN root, T.aK l], .cells [.ptr 3 0], .mp (.typed T.EB (T.seenM o)), .cells [.map 5], .cells [.fn (208 : FuncId) [.ptr 6 0, .ptr 2 0, .ptr 4 0, .ptr 7 0]], .cells [.str ⟨(ns.getD i.toNat ([], [])).1.toArray⟩, .sl 2 (.map T.encS (0, 0) (ns.getD i.toNat ([], [])).2) .none]] (q208_1 n_1 Post)) (AWP prog 47 n_1 c208_5 [(1, .ptr 6 0), (2, .ptr 2 0), (3, .ptr 4 0), (4, .ptr 7 0), (7, .ptr 8 0), (12, T.aN ns), (13, .int .i64 n), (14, .int .i64 i)] [T.mX es, T.m0, .cells [T.aK l], .cells [.ptr 1 0, T.aN root, T.aK l], .cells [.ptr 3 0], .mp (MM.put (MM.typed T.EB (T.seenM o)) ⟨(ns.getD i.toNat ([], [])).1.toArray⟩ (AV.bool true)), .cells [AV.map 5], .cells [.fn (208 : FuncId) [.ptr 6 0, .ptr 2 0, .ptr 4 0, .ptr 7 0]], .cells [.str ⟨(ns.getD i.toNat ([], [])).1.toArray⟩, .sl 2 (.map T.encS (0, 0) (ns.getD i.toNat ([], [])).2) .none]] (q208_4 n_1 Post))) (AWP prog 47 n_1 c208_5 [(1, .ptr 6 0), (2, .ptr 2 0), (3, .ptr 4 0), (4, .ptr 7 0), (7, .ptr 8 0), (12, T.aN ns), (13, .int .i64 n), (14, .int .i64 i)] [T.mX es, T.m0, .cells [T.aK l], .cells [.ptr 1 0, T.aN root, T.aK l], .cells [.ptr 3 0], .mp (MM.put (MM.typed T.EB (T.seenM o)) ⟨(ns.getD i.toNat ([], [])).1.toArray⟩ (AV.bool true)), .cells [AV.map 5], .cells [.fn (208 : FuncId) [.ptr 6 0, .ptr 2 0, .ptr 4 0, .ptr 7 0]], .cells [.str ⟨(ns.getD i.toNat ([], [])).1.toArray⟩, .sl 2 (.map T.encS (0, 0) (ns.getD i.toNat ([], [])).2) .none]] (q208_4 n_1 Post)))) (Post (.tup []) [T.mX es, T.m0, .cells [T.aK l], .cells [.ptr 1 0, T.aN root, T.aK l], .cells [.ptr 3 0], .mp (.typed T.EB (T.seenM o)), .cells [.map 5], .cells [.fn (208 : FuncId) [.ptr 6 0, .ptr 2 0, .ptr 4 0, .ptr 7 0]]]) → AWP prog 47 n_1 c208_1 [(1, .ptr 6 0), (2, .ptr 2 0), (3, .ptr 4 0), (4, .ptr 7 0), (12, T.aN ns), (13, .int .i64 n), (14, .int .i64 i)] (T.HV es root l o) (q208_1 n_1 Post) := fun es root l o ns n i n Post h => AWP.loop' g208 (Cfg.live g208) c208_1 (by kernel_rfl) (by kernel_rfl) (kc (by kernel_rfl) h)
theorem v208_5 : ∀ (es : T.Kn) (root : List T.Need) (l : List T.Pk) (o : List (List UInt8)) (ns : List T.Need) (x : T.Need) (n i : Int) (n_1 : Nat) (Post : PT),
  (ASpec prog 76 [T.aK l, T.sB x.1] [AObj.mp (.typed T.EK es), .cells [AV.map 0], .cells [T.aK l], .cells [.ptr 1 0, T.aN root, T.aK l], .cells [.ptr 3 0], .mp (.typed T.EB (T.seenM o)), .cells [.map 5], .cells [.fn (208 : FuncId) [.ptr 6 0, .ptr 2 0, .ptr 4 0, .ptr 7 0]], .cells [T.sB x.1, T.aS x.2]] fun r H' => ∃ (x_1 : Int × Bool), r = AV.tup [.int .i64 x_1.1, .bool x_1.2] ∧ H' = [T.mX es, T.m0, .cells [T.aK l], .cells [.ptr 1 0, T.aN root, T.aK l], .cells [.ptr 3 0], .mp (.typed T.EB (T.seenM o)), .cells [.map 5], .cells [.fn (208 : FuncId) [.ptr 6 0, .ptr 2 0, .ptr 4 0, .ptr 7 0]], .cells [T.sB x.1, T.aS x.2]] ∧ condP x_1.2 (ASpec prog 163 [.ptr 3 0, .agg [T.sB x.1, .int .i64 x_1.1]] [T.mX es, T.m0, .cells [T.aK l], .cells [.ptr 1 0, T.aN root, T.aK l], .cells [.ptr 3 0], .mp (.typed T.EB (T.seenM o)), .cells [.map 5], .cells [.fn (208 : FuncId) [.ptr 6 0, .ptr 2 0, .ptr 4 0, .ptr 7 0]], .cells [T.sB x.1, T.aS x.2]] fun r H' => ∃ (x_2 : T.Rel × Bool), r = AV.tup [.agg [.int .i64 x_2.1.1, T.aN x_2.1.2], .bool x_2.2] ∧ H' = [T.mX es, T.m0, .cells [T.aK l], .cells [.ptr 1 0, T.aN root, T.aK l], .cells [.ptr 3 0], .mp (.typed T.EB (T.seenM o)), .cells [.map 5], .cells [.fn (208 : FuncId) [.ptr 6 0, .ptr 2 0, .ptr 4 0, .ptr 7 0]], .cells [T.sB x.1, T.aS x.2]] ∧ ASpec prog 208 [T.aN x_2.1.2, .ptr 6 0, .ptr 2 0, .ptr 4 0, AV.ptr 7 0] [T.mX es, T.m0, .cells [T.aK l], .cells [.ptr 1 0, T.aN root, T.aK l], .cells [.ptr 3 0], .mp (.typed T.EB (T.seenM o)), .cells [.map 5], .cells [.fn (208 : FuncId) [.ptr 6 0, .ptr 2 0, .ptr 4 0, .ptr 7 0]], .cells [T.sB x.1, T.aS x.2], .cells [.int .i64 x_2.1.1, T.aN x_2.1.2]] fun r H' => ∃ (x_3 : List (List UInt8)), r = AV.tup [] ∧ H' = [T.mX es, T.m0, .cells [T.aK l], .cells [.ptr 1 0, T.aN root, T.aK l], .cells [.ptr 3 0], .mp (.typed T.EB (T.seenM x_3)), .cells [.map 5], .cells [.fn (208 : FuncId) [.ptr 6 0, .ptr 2 0, .ptr 4 0, .ptr 7 0]], .cells [T.sB x.1, T.aS x.2], .cells [.int .i64 x_2.1.1, T.aN x_2.1.2]] ∧ AWP prog 47 n_1 c208_1 [(1, .ptr 6 0), (2, .ptr 2 0), (3, .ptr 4 0), (4, .ptr 7 0), (12, T.aN ns), (13, .int .i64 n), (14, .int .i64 (IntKind.wrap .i64 (i + (1 : Int))))] [T.mX es, T.m0, .cells [T.aK l], .cells [.ptr 1 0, T.aN root, T.aK l], .cells [.ptr 3 0], .mp (.typed T.EB (T.seenM x_3)), .cells [.map 5], .cells [.fn (208 : FuncId) [.ptr 6 0, .ptr 2 0, .ptr 4 0, .ptr 7 0]], .cells [T.sB x.1, T.aS x.2], .cells [.int .i64 x_2.1.1, T.aN x_2.1.2]] (q208_1 n_1 Post)) (AWP prog 47 n_1 c208_1 [(1, .ptr 6 0), (2, .ptr 2 0), (3, .ptr 4 0), (4, .ptr 7 0), (12, T.aN ns), (13, .int .i64 n), (14, .int .i64 (IntKind.wrap .i64 (i + (1 : Int))))] [T.mX es, T.m0, .cells [T.aK l], .cells [.ptr 1 0, T.aN root, T.aK l], .cells [.ptr 3 0], .mp (.typed T.EB (T.seenM o)), .cells [.map 5], .cells [.fn (208 : FuncId) [.ptr 6 0, .ptr 2 0, .ptr 4 0, .ptr 7 0]], .cells [T.sB x.1, T.aS x.2]] (q208_1 n_1 Post))) → AWP prog 47 n_1 c208_5 [(1, .ptr 6 0), (2, .ptr 2 0), (3, .ptr 4 0), (4, .ptr 7 0), (7, .ptr 8 0), (12, T.aN ns), (13, .int .i64 n), (14, .int .i64 i)] (T.HV es root l o ++ [AObj.cells (T.encN x)]) (q208_4 n_1 Post) := fun es root l o ns x n i n Post h => Go.Ab.awp_sound g208 n _ _ _ _ (kc (by kernel_rfl) h)
def l167 : Nat → List Nat
  | 6 => [8]
  | 8 => [10, 23]
  | 11 => [10]
  | _ => []
def u167 : Nat → Bool
  | 6 => true
  | 11 => true
  | _ => false
def m167 : Nat → Bool
  | 31 => true
  | _ => false
def g167 : Cfg := { N := 35, live := l167, cut := u167, mu := m167, ret := rets }
def c167 : Code := bodyOf Tryz.f167
def q167_0 (n : Nat) (Post : PT) : AQ := endQ prog (resultsOf Tryz.f167) Post
def c167_6 : Code := codeSnd (codeSnd (codeSnd (codeSnd (codeSnd (codeSnd c167)))))
theorem s167 : ∀ (es : T.Kn) (root : List T.Need) (l : List T.Pk) (Post : PT),
  (ASpec prog 208 [T.aN root, .ptr 6 0, .ptr 2 0, .ptr 4 0, .ptr 7 0] [T.mX es, T.m0, .cells [T.aK l], .cells [.ptr 1 0, T.aN root, T.aK l], .cells [.ptr 3 0], .mp MM.nil, .cells [.map 5], .cells [.fn 208 [.ptr 6 0, .ptr 2 0, .ptr 4 0, .ptr 7 0]]] fun r H' => ∃ (x : List (List UInt8)), r = AV.tup [] ∧ H' = [T.mX es, T.m0, .cells [T.aK l], .cells [.ptr 1 0, T.aN root, T.aK l], .cells [.ptr 3 0], .mp (.typed T.EB (T.seenM x)), .cells [.map 5], .cells [.fn 208 [.ptr 6 0, .ptr 2 0, .ptr 4 0, .ptr 7 0]]] ∧ AWP prog 35 2 c167_6 [(8, .ptr 6 0)] [T.mX es, T.m0, .cells [T.aK l], .cells [.ptr 1 0, T.aN root, T.aK l], .cells [.ptr 3 0], .mp (.typed T.EB (T.seenM x)), .cells [.map 5], .cells [.fn 208 [.ptr 6 0, .ptr 2 0, .ptr 4 0, .ptr 7 0]]] (q167_0 2 Post)) → ASpec prog 167 [.ptr 1 0, T.aN root, T.aK l] (T.HX es) Post := fun es root l Post h => ASpec.of_vc g167 Tryz.func167 (by kernel_rfl) (by kernel_rfl) (by kernel_rfl) (kc (by kernel_rfl) h)
def c167_11 : Code := codeSnd (codeSnd c167_6)
def q167_1 (n : Nat) (Post : PT) : AQ := seqQ (fun (s' : Slots) (H' : List AObj) => AWP prog (Cfg.N g167) n c167_11 (restrict s' (Cfg.live g167 11)) H' (q167_0 n Post)) (q167_0 n Post)
def q167_2 (n : Nat) (Post : PT) : AQ := blockQ 0 (q167_1 n Post)
def c167_8 : Code := codeFst (codeSnd (codeFst (codeSnd c167_6)))
theorem v167_6 : ∀ (es : T.Kn) (o : List (List UInt8)) (n : Nat) (Post : PT),
  (∀ (z : List Nat × Nat), List.Nodup z.1 ∧ List.length z.1 = MM.len (MM.typed T.EB (T.seenM o)) → AWP prog 35 n c167_8 [(10, .sl 0 (.raw []) .nil), (23, .ptr 4 0)] [T.mX es, T.m0, .mpv (MM.typed T.EB (T.seenM o)) z, .cells [.map 2], .mit 2 z []] (q167_2 n Post)) → AWP prog 35 n c167_6 [(8, .ptr 3 0)] (T.HX es ++ [AObj.mp (.typed T.EB (T.seenM o)), .cells [.map 2]]) (q167_0 n Post) := fun es o n Post h => Go.Ab.awp_sound g167 n _ _ _ _ (kc (by kernel_rfl) h)
theorem v167_8n : ∀ (es : T.Kn) (o : List (List UInt8)) (z : List Nat × Nat) (ps : List Nat) (n : Nat) (Post : PT),
  needP (z = z) (((∀ (i : Nat), i < MM.len (MM.typed T.EB (T.seenM o)) → i ∈ ps) → AWP prog 35 n c167_11 [(10, .sl 0 (.raw []) .nil)] [T.mX es, T.m0, .mpv (MM.typed T.EB (T.seenM o)) z, .cells [.map 2], .mit 2 z ps] (q167_0 n Post)) ∧ ∀ (i : Nat), i < MM.len (MM.typed T.EB (T.seenM o)) → (i ∈ ps → False) → ∀ (k : ByteArray) (v : Bool), (T.seenM o)[i]? = some (k, v) → needP (z = z ∧ i < MM.len (MM.typed T.EB (T.seenM o))) (∀ (k : ByteArray) (v : Bool), (T.seenM o)[i]? = some (k, v) → needP (16 ≤ 140737488351232) (needP (1 ≤ 1) (AWP prog 35 n c167_8 [(10, .msl 1 5 0 1), (23, .ptr 4 0)] [T.mX es, T.m0, .mpv (MM.typed T.EB (T.seenM o)) z, .cells [.map 2], .mit 2 z (i :: ps), .arr 1 (.raw [[.str k]])] (q167_2 n Post))))) → AWP prog 35 n c167_8 [(10, .sl 0 (.raw []) .nil), (23, .ptr 4 0)] (T.HX es ++ [AObj.mpv (MM.typed T.EB (T.seenM o)) z, .cells [.map 2], .mit 2 z ps]) (q167_2 n Post) := fun es o z ps n Post h => AWP.loop' g167 (Cfg.live g167) c167_8 (by kernel_rfl) (by kernel_rfl) (kc (by kernel_rfl) h)
theorem v167_8m : ∀ (es : T.Kn) (o : List (List UInt8)) (z : List Nat × Nat) (ps : List Nat) (w : List (List UInt8)) (n : Nat) (Post : PT),
  needP (z = z) (((∀ (i : Nat), i < MM.len (MM.typed T.EB (T.seenM o)) → i ∈ ps) → AWP prog 35 n c167_11 [(10, .msl 1 5 0 w.length)] [AObj.mp (.typed T.EK es), .cells [AV.map 0], .mpv (MM.typed T.EB (T.seenM o)) z, .cells [.map 2], .mit 2 z ps, .arr 1 (.map T.encL [] w)] (q167_0 n Post)) ∧ ∀ (i : Nat), i < MM.len (MM.typed T.EB (T.seenM o)) → (i ∈ ps → False) → ∀ (k : ByteArray) (v : Bool), (T.seenM o)[i]? = some (k, v) → needP (z = z ∧ i < MM.len (MM.typed T.EB (T.seenM o))) (∀ (k : ByteArray) (v : Bool), (T.seenM o)[i]? = some (k, v) → needP (List.length w = List.length w ∧ (List.length w + 1) * 16 ≤ 140737488351232) (AWP prog 35 n c167_8 [(10, .msl 1 6 0 (List.length w + 1)), (23, .ptr 4 0)] [T.mX es, T.m0, .mpv (MM.typed T.EB (T.seenM o)) z, .cells [.map 2], .mit 2 z (i :: ps), .gone, .arr 1 (.app (.map T.encL [] w) (.raw [[.str k]]))] (q167_2 n Post)))) → AWP prog 35 n c167_8 [(10, .msl 1 5 0 w.length), (23, .ptr 4 0)] (T.HX es ++ [AObj.mpv (MM.typed T.EB (T.seenM o)) z, .cells [.map 2], .mit 2 z ps, .arr 1 (.map T.encL [] w)]) (q167_2 n Post) := fun es o z ps w n Post h => AWP.loop' g167 (Cfg.live g167) c167_8 (by kernel_rfl) (by kernel_rfl) (kc (by kernel_rfl) h)
theorem v167_11n : ∀ (es : T.Kn) (n : Nat) (Post : PT),
  (ASpec prog 131 [.sl 0 (.raw []) .nil] [T.mX es, T.m0] fun r H' => (∃ (x : Unit), r = AV.tup [] ∧ H' = [T.mX es, T.m0] ∧ Post (.sl 0 (.raw []) .nil) [T.mX es, T.m0]) ∨ ∃ (x : List (List UInt8)), r = AV.tup [] ∧ H' = [T.mX es, T.m0] ∧ Post (.sl 0 (.raw []) .nil) [T.mX es, T.m0]) → AWP prog 35 n c167_11 [(10, .sl 0 (.raw []) .nil)] (T.HX es) (q167_0 n Post) := fun es n Post h => Go.Ab.awp_sound g167 n _ _ _ _ (kc (by kernel_rfl) h)
theorem v167_11m : ∀ (es : T.Kn) (w : List (List UInt8)) (n : Nat) (Post : PT),
  (ASpec prog 131 [.msl 1 2 0 w.length] [AObj.mp (.typed T.EK es), .cells [AV.map 0], .arr 1 (.map T.encL [] w)] fun r H' => (∃ (x : Unit), r = AV.tup [] ∧ H' = [T.mX es, T.m0, .arr 1 (.map T.encL [] w)] ∧ Post (.msl 1 2 0 w.length) [AObj.mp (.typed T.EK es), .cells [AV.map 0], .arr 1 (.map T.encL [] w)]) ∨ ∃ (x : List (List UInt8)), r = AV.tup [] ∧ H' = [T.mX es, T.m0, .arr 1 (.map T.encL [] x)] ∧ Post (.msl 1 2 0 w.length) [AObj.mp (.typed T.EK es), .cells [AV.map 0], .arr 1 (.map T.encL [] x)]) → AWP prog 35 n c167_11 [(10, .msl 1 2 0 w.length)] (T.HX es ++ [AObj.arr 1 (.map T.encL [] w)]) (q167_0 n Post) := fun es w n Post h => Go.Ab.awp_sound g167 n _ _ _ _ (kc (by kernel_rfl) h)
end
end Ft
end
