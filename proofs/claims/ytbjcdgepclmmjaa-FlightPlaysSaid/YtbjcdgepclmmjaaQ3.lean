/- Q3: several of this proof's own texts, one behind the other: what each proves stands at its head. -/
import Derived.Test.YtbjcdgepclmmjaaProg
import Derived.Test.YtbjcdgepclmmjaaA1
import Derived.Test.YtbjcdgepclmmjaaA2
import Derived.Test.YtbjcdgepclmmjaaChecked
import Derived.KernelRfl
import Derived.JoinedOf
section
/- Printed: what the code of functions 140, 141, 150, 151, 142, 143, 145, 144, 251, 146, 147, 148, 149, 250, 252 asks for, by the framework's own reading of it; each line is checked against the code. -/

set_option linter.unusedVariables false
set_option maxRecDepth 100000
set_option maxHeartbeats 4000000
open Go Go.Ab Go.Proofs
namespace V
noncomputable section

noncomputable def encR (x : Int × Int) : List AV := [.int .i64 x.1, .int .i64 x.2]
noncomputable def rd (bs : List UInt8) (p e : Int) : AObj := .cells [.sl 1 (.map encB 0 bs) .none, .int .i64 p, .int .i64 e]
noncomputable def upd3 (args : List AV) (H : List AObj) (p e : Int) : List AObj := match args with
  | .ptr id _ :: _ => match H[id]? with
    | some (.cells [b, _, _]) => H.set id (.cells [b, .int .i64 p, .int .i64 e])
    | _ => H
  | _ => H
noncomputable def upd2 (args : List AV) (H : List AObj) (s : ByteArray) (e : Int) : List AObj := match args with
  | .ptr id _ :: _ => H.set id (.cells [.str s, .int .i64 e])
  | _ => H
noncomputable def retL : List (Nat × Ret) := [
  (9016, ⟨Unit, fun _ _ _ => .bool true, fun _ H _ => H⟩),
  (140, ⟨List UInt8, fun _ H l => .sl 1 (.map encB 0 l) (.tok H.length), fun _ H _ => H ++ [.tok]⟩),
  (141, ⟨List UInt8, fun _ H l => .sl 1 (.map encB 0 l) (.tok H.length), fun _ H _ => H ++ [.tok]⟩),
  (9019, ⟨ByteArray, fun _ _ s => .str s, fun _ H _ => H⟩),
  (151, ⟨ByteArray, fun _ _ s => .str s, fun _ H _ => H⟩),
  (142, ⟨List UInt8, fun _ H _ => .ptr H.length 0, fun _ H l => H ++ [rd l 0 0]⟩),
  (143, ⟨Int × Int × Int, fun _ _ x => .int .i64 x.1, fun a H x => upd3 a H x.2.1 x.2.2⟩),
  (145, ⟨ByteArray × Int × Int, fun _ _ x => .str x.1, fun a H x => upd3 a H x.2.1 x.2.2⟩),
  (144, ⟨Int, fun _ _ x => .int .i64 x, fun _ H _ => H⟩),
  (251, ⟨Int, fun _ _ x => .int .i64 x, fun _ H _ => H⟩),
  (147, ⟨Int × ByteArray × Int, fun _ _ x => .int .i64 x.1, fun a H x => upd2 a H x.2.1 x.2.2⟩),
  (148, ⟨ByteArray × ByteArray × Int, fun _ _ x => .str x.1, fun a H x => upd2 a H x.2.1 x.2.2⟩),
  (9028, ⟨Int × Int, fun _ _ x => .tup [], fun a H x => upd3 a H x.1 x.2⟩),
  (9029, ⟨ByteArray × Int, fun _ _ x => .tup [], fun a H x => upd2 a H x.1 x.2⟩),
  (146, ⟨Int, fun _ _ x => .int .i64 x, fun _ H _ => H⟩),
  (149, ⟨Int, fun _ _ x => .int .i64 x, fun _ H _ => H⟩),
  (150, ⟨ByteArray, fun _ _ s => .str s, fun _ H _ => H⟩),
  (250, ⟨Int × Int × Int × Int, fun _ _ x => .tup [.int .i64 x.1, .int .i64 x.2.1], fun a H x => upd3 a H x.2.2.1 x.2.2.2⟩),
  (252, ⟨Int × Int × Int, fun _ _ x => .tup [.int .i64 x.1, .int .i64 x.2.1, .int .i64 x.2.2], fun _ H _ => H⟩)]
end
end V
end

section
/- Spans, needs, releases and manifests as cells. -/

open Go Go.Ab Go.Proofs
namespace T
abbrev Span := Int × Int
abbrev Need := List UInt8 × List Span
abbrev Rel := Int × List Need
noncomputable def encS (x : Span) : List AV := [.int .i64 x.1, .int .i64 x.2]
noncomputable def encN (x : Need) : List AV := [.str ⟨x.1.toArray⟩, .sl 2 (.map encS (0, 0) x.2) .none]
noncomputable def encR (x : Rel) : List AV := [.int .i64 x.1, .sl 2 (.map encN ([], []) x.2) .none]
end T
end

section
/- Printed: what the code of functions 256, 285, 232, 239, 185, 186, 231, 130, 66, 163, 173, 62 asks for, by the framework's own reading of it; each line is checked against the code. -/

set_option linter.unusedVariables false
set_option maxRecDepth 100000
set_option maxHeartbeats 4000000
open Go Go.Ab Go.Proofs
namespace C
noncomputable section

noncomputable def retC : List (Nat × Ret) := [
  (39, ⟨Bool, fun _ _ x => .bool x, fun _ H _ => H⟩), (66, ⟨Bool, fun _ _ x => .bool x, fun _ H _ => H⟩), (62, ⟨Bool, fun _ _ x => .bool x, fun _ H _ => H⟩), (186, ⟨Bool, fun _ _ x => .bool x, fun _ H _ => H⟩),
  (154, ⟨Bool, fun _ _ x => .bool x, fun _ H _ => H⟩), (130, ⟨Bool, fun _ _ x => .bool x, fun _ H _ => H⟩), (185, ⟨Bool, fun _ _ x => .bool x, fun _ H _ => H⟩), (173, ⟨Bool, fun _ _ x => .bool x, fun _ H _ => H⟩),
  (231, ⟨Bool, fun _ _ x => .bool x, fun _ H _ => H⟩), (239, ⟨Bool, fun _ _ x => .bool x, fun _ H _ => H⟩), (163, ⟨Bool, fun _ _ x => .bool x, fun _ H _ => H⟩), (232, ⟨Bool, fun _ _ x => .bool x, fun _ H _ => H⟩),
  (285, ⟨Bool, fun _ _ x => .bool x, fun _ H _ => H⟩), (256, ⟨Bool, fun _ _ x => .bool x, fun _ H _ => H⟩)]
end
end C
end

section
/- Entries, and what an index knows. -/

open Go Go.Ab Go.Proofs
namespace T
end T
end

section
/- Names as cells. -/

open Go Go.Ab Go.Proofs
namespace T
end T
end

section
/- What is under way as cells. -/

open Go Go.Ab Go.Proofs
namespace T
/-- a ticket and a name -/
abbrev Seat := Int × List UInt8
abbrev noSeat : Seat := (0, [])
/-- eight seats, the window, how many were given -/
abbrev Fl := List Seat × Int × Int
noncomputable def encSe (x : Seat) : List AV := [.int .i64 x.1, .str ⟨x.2.toArray⟩]
noncomputable def encFl (x : Fl) : List AV := [.int .i64 (x.1.getD 0 noSeat).1, .str ⟨(x.1.getD 0 noSeat).2.toArray⟩, .int .i64 (x.1.getD 1 noSeat).1, .str ⟨(x.1.getD 1 noSeat).2.toArray⟩,
  .int .i64 (x.1.getD 2 noSeat).1, .str ⟨(x.1.getD 2 noSeat).2.toArray⟩, .int .i64 (x.1.getD 3 noSeat).1, .str ⟨(x.1.getD 3 noSeat).2.toArray⟩,
  .int .i64 (x.1.getD 4 noSeat).1, .str ⟨(x.1.getD 4 noSeat).2.toArray⟩, .int .i64 (x.1.getD 5 noSeat).1, .str ⟨(x.1.getD 5 noSeat).2.toArray⟩,
  .int .i64 (x.1.getD 6 noSeat).1, .str ⟨(x.1.getD 6 noSeat).2.toArray⟩, .int .i64 (x.1.getD 7 noSeat).1, .str ⟨(x.1.getD 7 noSeat).2.toArray⟩, .int .i64 x.2.1, .int .i64 x.2.2]
/-- what is done: an end?, a ticket, a name -/
abbrev Fd := Bool × Int × List UInt8
abbrev noFd : Fd := (false, 0, [])
noncomputable def encFd (x : Fd) : List AV := [.bool x.1, .int .i64 x.2.1, .str ⟨x.2.2.toArray⟩]
/-- the document's: the window, tickets and names, how many were given -/
abbrev Xf := Int × List Seat × Int
noncomputable def encXf (x : Xf) : List AV := [.int .i64 x.1, .sl 2 (.map encSe noSeat x.2.1) .none, .int .i64 x.2.2]
end T
end

section
/- Printed: what the code of functions 94, 215, 214, 300, 299, 213, 216, 97, 98, 99, 102, 103, 100, 104, 96, 95, 12 asks for, by the framework's own reading of it; each line is checked against the code. -/

set_option linter.unusedVariables false
set_option maxRecDepth 100000
set_option maxHeartbeats 4000000
open Go Go.Ab Go.Proofs
namespace Fy
noncomputable section

noncomputable def addP (args : List AV) (H : List AObj) (o : AObj) : List AObj := match args with
  | .ptr id _ :: _ => H.set id o
  | _ => H
noncomputable def addHz (args : List AV) (H : List AObj) (o : AObj) : List AObj := match args with
  | .msl _ id _ _ :: _ => H.set id o
  | _ => H
noncomputable def retF : List (Nat × Ret) := [
  (94, ⟨Bool, fun _ _ x => .bool x, fun _ H _ => H⟩), (95, ⟨Unit, fun _ _ _ => .bool true, fun _ H _ => H⟩), (214, ⟨Bool, fun _ _ x => .bool x, fun _ H _ => H⟩), (215, ⟨Bool, fun _ _ x => .bool x, fun _ H _ => H⟩), (300, ⟨Bool, fun _ _ x => .bool x, fun _ H _ => H⟩), (299, ⟨Int, fun _ _ x => .int .i64 x, fun _ H _ => H⟩), (213, ⟨Int, fun _ _ x => .int .i64 x, fun _ H _ => H⟩), (216, ⟨Int, fun _ _ x => .int .i64 x, fun _ H _ => H⟩), (97, ⟨Bool, fun _ _ x => .bool x, fun _ H _ => H⟩), (100, ⟨Int, fun _ _ x => .int .i64 x, fun _ H _ => H⟩), (104, ⟨Int, fun _ _ x => .int .i64 x, fun _ H _ => H⟩), (102, ⟨List UInt8 × Bool, fun _ _ x => .tup [.str ⟨x.1.toArray⟩, .bool x.2], fun _ H _ => H⟩), (103, ⟨List Int, fun _ _ x => .sl 1 (.map Ab.encI 0 x) .none, fun _ H _ => H⟩), (107, ⟨List UInt8 × Bool, fun _ _ x => .tup [.str ⟨x.1.toArray⟩, .bool x.2], fun _ H _ => H⟩), (108, ⟨Bool, fun _ _ x => .bool x, fun _ H _ => H⟩), (109, ⟨Bool, fun _ _ x => .bool x, fun _ H _ => H⟩), (110, ⟨List Int, fun _ _ x => .sl 1 (.map Ab.encI 0 x) .none, fun _ H _ => H⟩),
  (96, ⟨Unit, fun _ _ _ => .nilp, fun _ H _ => H⟩), (96, ⟨T.Fl, fun _ H _ => .ptr H.length 0, fun _ H x => H ++ [.cells (T.encFl x)]⟩),
  (98, ⟨Int × Bool, fun _ _ x => .tup [.int .i64 x.1, .bool x.2], fun _ H _ => H⟩), (98, ⟨(Int × Bool) × T.Fl, fun _ _ x => .tup [.int .i64 x.1.1, .bool x.1.2], fun a H x => addP a H (.cells (T.encFl x.2))⟩),
  (99, ⟨List UInt8 × Bool, fun _ _ x => .tup [.str ⟨x.1.toArray⟩, .bool x.2], fun _ H _ => H⟩), (99, ⟨(List UInt8 × Bool) × T.Fl, fun _ _ x => .tup [.str ⟨x.1.1.toArray⟩, .bool x.1.2], fun a H x => addP a H (.cells (T.encFl x.2))⟩),
  (101, ⟨T.Xf × Bool, fun _ _ x => .tup [.agg (T.encXf x.1), .bool x.2], fun _ H _ => H⟩),
  (105, ⟨(List UInt8 × Bool) × T.Xf, fun _ _ x => .tup [.str ⟨x.1.1.toArray⟩, .bool x.1.2], fun a H x => addP a H (.cells (T.encXf x.2))⟩),
  (106, ⟨(Int × Bool) × T.Xf, fun _ _ x => .tup [.int .i64 x.1.1, .bool x.1.2], fun a H x => addP a H (.cells (T.encXf x.2))⟩),
  (217, ⟨Unit, fun _ _ _ => .tup [], fun _ H _ => H⟩), (217, ⟨List Int, fun _ _ _ => .tup [], fun a H x => addHz a H (.arr 1 (.map Ab.encI 0 x))⟩)]
noncomputable def rets : FuncId → List Ret := lookupR (retF ++ C.retC ++ V.retL)

noncomputable def seats (f : T.Fl) : List AV := (T.encFl f).take 16

-- 94
noncomputable def l94 : Nat → List Nat
  | 4 => [0, 3]
  | _ => []
noncomputable def u94 : Nat → Bool
  | _ => false
noncomputable def m94 : Nat → Bool
  | _ => false
noncomputable def g94 : Cfg := { N := 20, live := l94, cut := u94, mu := m94, ret := rets }
noncomputable def c94 : Go.Code := Go.Ab.bodyOf Go.Proofs.Try.f94
noncomputable def q94_0 : Nat → (AV → List AObj → Prop) → AQ := fun (n : Nat) (Post : AV → List AObj → Prop) => endQ Try.prog (resultsOf Try.f94) Post
noncomputable def q94_1 : Nat → (AV → List AObj → Prop) → AQ := fun (n : Nat) (Post : AV → List AObj → Prop) => seqQ (fun (s' : Slots) (H' : List AObj) => awp Try.prog g94 n (codeSnd (codeSnd (codeSnd c94))) s' H' (q94_0 n Post)) (q94_0 n Post)
noncomputable def q94_2 : Nat → (AV → List AObj → Prop) → AQ := fun (n : Nat) (Post : AV → List AObj → Prop) => blockQ 0 (q94_1 n Post)
noncomputable def c94_4 : Go.Code := codeFst (codeSnd (codeFst (codeSnd (codeSnd c94))))
theorem s94 : ∀ (l : List T.Fd) (Post : AV → List AObj → Prop),
  condP (decide ((↑(List.length l) : Int) > (150 : Int))) (Post (AV.bool true) [])
      (AWP Try.prog 20 0 c94_4 [(0, AV.sl 3 (Seq.map T.encFd T.noFd l) Tip.none), (3, AV.int IntKind.i64 (0 : Int))] [] (q94_2 0 Post)) →
    ASpec Try.prog 94 [AV.sl 3 (Seq.map T.encFd T.noFd l) Tip.none] [] Post := fun l Post h => Go.Ab.ASpec.of_vc g94 Go.Proofs.Try.func94 (by kernel_rfl) (by kernel_rfl) (by kernel_rfl) (Go.Ab.kc (by kernel_rfl) h)
theorem v94_4 : ∀ (l : List T.Fd) (i : Int) (n : Nat) (Post : AV → List AObj → Prop),
  condP (decide (i < (↑(List.length l) : Int)))
      (needP ((0 : Int) ≤ i ∧ i < (↑(List.length l) : Int))
        (condP (decide ((↑(ByteArray.size { data := List.toArray (Prod.snd (Prod.snd (List.getD l (Int.toNat i) T.noFd))) }) : Int) > (60 : Int))) (Post (AV.bool true) [])
        (AWP Try.prog 20 n c94_4 [(0, AV.sl 3 (Seq.map T.encFd T.noFd l) Tip.none), (3, AV.int IntKind.i64 (IntKind.wrap IntKind.i64 (i + (1 : Int))))] []
        (q94_2 n Post))))
      (Post (AV.bool false) []) →
    AWP Try.prog 20 n c94_4 [(0, AV.sl 3 (Seq.map T.encFd T.noFd l) Tip.none), (3, AV.int IntKind.i64 i)] [] (q94_2 n Post) := fun l i n Post h => Go.Ab.AWP.loop' g94 (Cfg.live g94) c94_4 (by kernel_rfl) (by kernel_rfl) (Go.Ab.kc (by kernel_rfl) h)

-- 215
noncomputable def l215 : Nat → List Nat
  | _ => []
noncomputable def u215 : Nat → Bool
  | _ => false
noncomputable def m215 : Nat → Bool
  | _ => false
noncomputable def g215 : Cfg := { N := 6, live := l215, cut := u215, mu := m215, ret := rets }
theorem s215 : ∀ (x : T.Seat) (Post : AV → List AObj → Prop),
  Post (AV.bool (Prod.fst x == (0 : Int))) [AObj.cells [AV.int IntKind.i64 (Prod.fst x), AV.str { data := List.toArray (Prod.snd x) }]] → ASpec Try.prog 215 [AV.agg (T.encSe x)] [] Post := fun x Post h => Go.Ab.ASpec.of_vc g215 Go.Proofs.Try.func215 (by kernel_rfl) (by kernel_rfl) (by kernel_rfl) (Go.Ab.kc (by kernel_rfl) h)

-- 214
noncomputable def l214 : Nat → List Nat
  | _ => []
noncomputable def u214 : Nat → Bool
  | _ => false
noncomputable def m214 : Nat → Bool
  | _ => false
noncomputable def g214 : Cfg := { N := 13, live := l214, cut := u214, mu := m214, ret := rets }
theorem s214 : ∀ (f : T.Fl) (x : T.Seat) (s : List UInt8) (Post : AV → List AObj → Prop),
  condP (decide (Prod.fst x > (0 : Int)))
      (Post (AV.bool (ByteArray.toList { data := List.toArray (Prod.snd x) } == ByteArray.toList { data := List.toArray s }))
        [AObj.cells
        (T.encFl f),
        AObj.cells [AV.str { data := List.toArray s }], AObj.cells [AV.int IntKind.i64 (Prod.fst x), AV.str { data := List.toArray (Prod.snd x) }]])
      (Post (AV.bool false)
        [AObj.cells
        (T.encFl f),
        AObj.cells [AV.str { data := List.toArray s }], AObj.cells [AV.int IntKind.i64 (Prod.fst x), AV.str { data := List.toArray (Prod.snd x) }]]) →
    ASpec Try.prog 214 [AV.agg (T.encSe x), AV.ptr 1 0] [AObj.cells (T.encFl f), AObj.cells [AV.str { data := List.toArray s }]] Post := fun f x s Post h => Go.Ab.ASpec.of_vc g214 Go.Proofs.Try.func214 (by kernel_rfl) (by kernel_rfl) (by kernel_rfl) (Go.Ab.kc (by kernel_rfl) h)

-- 300
noncomputable def l300 : Nat → List Nat
  | _ => []
noncomputable def u300 : Nat → Bool
  | _ => false
noncomputable def m300 : Nat → Bool
  | _ => false
noncomputable def g300 : Cfg := { N := 13, live := l300, cut := u300, mu := m300, ret := rets }
theorem s300 : ∀ (f : T.Fl) (x : T.Seat) (t : Int) (Post : AV → List AObj → Prop),
  condP (decide (Prod.fst x > (0 : Int)))
      (Post (AV.bool (Prod.fst x == t))
        [AObj.cells
        (T.encFl f),
        AObj.cells [AV.int IntKind.i64 t], AObj.cells [AV.int IntKind.i64 (Prod.fst x), AV.str { data := List.toArray (Prod.snd x) }]])
      (Post (AV.bool false)
        [AObj.cells
        (T.encFl f),
        AObj.cells [AV.int IntKind.i64 t], AObj.cells [AV.int IntKind.i64 (Prod.fst x), AV.str { data := List.toArray (Prod.snd x) }]]) →
    ASpec Try.prog 300 [AV.agg (T.encSe x), AV.ptr 1 0] [AObj.cells (T.encFl f), AObj.cells [AV.int IntKind.i64 t]] Post := fun f x t Post h => Go.Ab.ASpec.of_vc g300 Go.Proofs.Try.func300 (by kernel_rfl) (by kernel_rfl) (by kernel_rfl) (Go.Ab.kc (by kernel_rfl) h)

-- 299
noncomputable def l299 : Nat → List Nat
  | 2 => [0, 1, 7, 8]
  | _ => []
noncomputable def u299 : Nat → Bool
  | _ => false
noncomputable def m299 : Nat → Bool
  | _ => false
noncomputable def g299 : Cfg := { N := 19, live := l299, cut := u299, mu := m299, ret := rets }
noncomputable def c299 : Go.Code := Go.Ab.bodyOf Go.Proofs.Try.f299
noncomputable def q299_0 : Nat → (AV → List AObj → Prop) → AQ := fun (n : Nat) (Post : AV → List AObj → Prop) => endQ Try.prog (resultsOf Try.f299) Post
noncomputable def q299_1 : Nat → (AV → List AObj → Prop) → AQ := fun (n : Nat) (Post : AV → List AObj → Prop) => seqQ (fun (s' : Slots) (H' : List AObj) => awp Try.prog g299 n (codeSnd (codeSnd c299)) s' H' (q299_0 n Post)) (q299_0 n Post)
noncomputable def q299_2 : Nat → (AV → List AObj → Prop) → AQ := fun (n : Nat) (Post : AV → List AObj → Prop) => blockQ 0 (q299_1 n Post)
noncomputable def c299_2 : Go.Code := codeFst (codeSnd (codeFst (codeSnd c299)))
theorem s299a : ∀ (f : T.Fl) (w : Nat) (Post : AV → List AObj → Prop),
  AWP Try.prog 19 1 c299_2
      [(0, AV.csl 2 0 0 w), (1, AV.fn (215 : FuncId) []), (7, AV.int IntKind.i64 (↑w : Int)), (8, AV.int IntKind.i64 (0 : Int))]
      [AObj.cells
        (T.encFl f)]
      (q299_2 1 Post) →
    ASpec Try.prog 299 [AV.csl 2 0 0 w, AV.fn (215 : FuncId) []] [AObj.cells (T.encFl f)] Post := fun f w Post h => Go.Ab.ASpec.of_vc g299 Go.Proofs.Try.func299 (by kernel_rfl) (by kernel_rfl) (by kernel_rfl) (Go.Ab.kc (by kernel_rfl) h)
theorem s299h : ∀ (f : T.Fl) (s : List UInt8) (w : Nat) (Post : AV → List AObj → Prop),
  AWP Try.prog 19 2 c299_2
      [(0, AV.csl 2 0 0 w), (1, AV.fn (214 : FuncId) [AV.ptr 1 0]), (7, AV.int IntKind.i64 (↑w : Int)),
        (8, AV.int IntKind.i64 (0 : Int))]
      [AObj.cells
        (T.encFl f),
        AObj.cells [AV.str { data := List.toArray s }]]
      (q299_2 2 Post) →
    ASpec Try.prog 299 [AV.csl 2 0 0 w, AV.fn (214 : FuncId) [AV.ptr 1 0]] [AObj.cells (T.encFl f), AObj.cells [AV.str { data := List.toArray s }]] Post := fun f s w Post h => Go.Ab.ASpec.of_vc g299 Go.Proofs.Try.func299 (by kernel_rfl) (by kernel_rfl) (by kernel_rfl) (Go.Ab.kc (by kernel_rfl) h)
theorem s299b : ∀ (f : T.Fl) (t : Int) (w : Nat) (Post : AV → List AObj → Prop),
  AWP Try.prog 19 2 c299_2
      [(0, AV.csl 2 0 0 w), (1, AV.fn (300 : FuncId) [AV.ptr 1 0]), (7, AV.int IntKind.i64 (↑w : Int)),
        (8, AV.int IntKind.i64 (0 : Int))]
      [AObj.cells
        (T.encFl f),
        AObj.cells [AV.int IntKind.i64 t]]
      (q299_2 2 Post) →
    ASpec Try.prog 299 [AV.csl 2 0 0 w, AV.fn (300 : FuncId) [AV.ptr 1 0]] [AObj.cells (T.encFl f), AObj.cells [AV.int IntKind.i64 t]] Post := fun f t w Post h => Go.Ab.ASpec.of_vc g299 Go.Proofs.Try.func299 (by kernel_rfl) (by kernel_rfl) (by kernel_rfl) (Go.Ab.kc (by kernel_rfl) h)
theorem v299_2a0 : ∀ (f : T.Fl) (w : Nat) (n : Int) (n_1 : Nat) (Post : AV → List AObj → Prop),
  condP (decide ((0 : Int) < n))
      (needP ((0 : Int) ≤ (0 : Int) ∧ (0 : Int) < (↑w : Int))
        (ASpec Try.prog 215
        [AV.agg [AV.int IntKind.i64 (Prod.fst (List.getD (Prod.fst f) 0 T.noSeat)), AV.str { data := List.toArray (Prod.snd (List.getD (Prod.fst f) 0 T.noSeat)) }]]
        [AObj.cells
        (T.encFl f)]
        fun (r : AV) (H' : List AObj) =>
        ∃ (x : Bool),
        r = AV.bool x ∧
        H' =
        [AObj.cells
        (T.encFl f)] ∧
        condP x
        (Post (AV.int IntKind.i64 (0 : Int))
        [AObj.cells
        (T.encFl f)])
        (AWP Try.prog 19 n_1 c299_2
        [(0, AV.csl 2 0 0 w), (1, AV.fn (215 : FuncId) []), (7, AV.int IntKind.i64 n), (8, AV.int IntKind.i64 (1 : Int))]
        [AObj.cells
        (T.encFl f)]
        (q299_2 n_1 Post))))
      (Post (AV.int IntKind.i64 (-1 : Int))
        [AObj.cells
        (T.encFl f)]) →
    AWP Try.prog 19 n_1 c299_2
      [(0, AV.csl 2 0 0 w), (1, AV.fn (215 : FuncId) []), (7, AV.int IntKind.i64 n), (8, AV.int IntKind.i64 (0 : Int))] [AObj.cells (T.encFl f)]
      (q299_2 n_1 Post) := fun f w n n Post h => Go.Ab.AWP.loop' g299 (Cfg.live g299) c299_2 (by kernel_rfl) (by kernel_rfl) (Go.Ab.kc (by kernel_rfl) h)
theorem v299_2a1 : ∀ (f : T.Fl) (w : Nat) (n : Int) (n_1 : Nat) (Post : AV → List AObj → Prop),
  condP (decide ((1 : Int) < n))
      (needP ((0 : Int) ≤ (1 : Int) ∧ (1 : Int) < (↑w : Int))
        (ASpec Try.prog 215
        [AV.agg [AV.int IntKind.i64 (Prod.fst (List.getD (Prod.fst f) 1 T.noSeat)), AV.str { data := List.toArray (Prod.snd (List.getD (Prod.fst f) 1 T.noSeat)) }]]
        [AObj.cells
        (T.encFl f)]
        fun (r : AV) (H' : List AObj) =>
        ∃ (x : Bool),
        r = AV.bool x ∧
        H' =
        [AObj.cells
        (T.encFl f)] ∧
        condP x
        (Post (AV.int IntKind.i64 (1 : Int))
        [AObj.cells
        (T.encFl f)])
        (AWP Try.prog 19 n_1 c299_2
        [(0, AV.csl 2 0 0 w), (1, AV.fn (215 : FuncId) []), (7, AV.int IntKind.i64 n), (8, AV.int IntKind.i64 (2 : Int))]
        [AObj.cells
        (T.encFl f)]
        (q299_2 n_1 Post))))
      (Post (AV.int IntKind.i64 (-1 : Int))
        [AObj.cells
        (T.encFl f)]) →
    AWP Try.prog 19 n_1 c299_2
      [(0, AV.csl 2 0 0 w), (1, AV.fn (215 : FuncId) []), (7, AV.int IntKind.i64 n), (8, AV.int IntKind.i64 (1 : Int))] [AObj.cells (T.encFl f)]
      (q299_2 n_1 Post) := fun f w n n Post h => Go.Ab.AWP.loop' g299 (Cfg.live g299) c299_2 (by kernel_rfl) (by kernel_rfl) (Go.Ab.kc (by kernel_rfl) h)
theorem v299_2a2 : ∀ (f : T.Fl) (w : Nat) (n : Int) (n_1 : Nat) (Post : AV → List AObj → Prop),
  condP (decide ((2 : Int) < n))
      (needP ((0 : Int) ≤ (2 : Int) ∧ (2 : Int) < (↑w : Int))
        (ASpec Try.prog 215
        [AV.agg [AV.int IntKind.i64 (Prod.fst (List.getD (Prod.fst f) 2 T.noSeat)), AV.str { data := List.toArray (Prod.snd (List.getD (Prod.fst f) 2 T.noSeat)) }]]
        [AObj.cells
        (T.encFl f)]
        fun (r : AV) (H' : List AObj) =>
        ∃ (x : Bool),
        r = AV.bool x ∧
        H' =
        [AObj.cells
        (T.encFl f)] ∧
        condP x
        (Post (AV.int IntKind.i64 (2 : Int))
        [AObj.cells
        (T.encFl f)])
        (AWP Try.prog 19 n_1 c299_2
        [(0, AV.csl 2 0 0 w), (1, AV.fn (215 : FuncId) []), (7, AV.int IntKind.i64 n), (8, AV.int IntKind.i64 (3 : Int))]
        [AObj.cells
        (T.encFl f)]
        (q299_2 n_1 Post))))
      (Post (AV.int IntKind.i64 (-1 : Int))
        [AObj.cells
        (T.encFl f)]) →
    AWP Try.prog 19 n_1 c299_2
      [(0, AV.csl 2 0 0 w), (1, AV.fn (215 : FuncId) []), (7, AV.int IntKind.i64 n), (8, AV.int IntKind.i64 (2 : Int))] [AObj.cells (T.encFl f)]
      (q299_2 n_1 Post) := fun f w n n Post h => Go.Ab.AWP.loop' g299 (Cfg.live g299) c299_2 (by kernel_rfl) (by kernel_rfl) (Go.Ab.kc (by kernel_rfl) h)
theorem v299_2a3 : ∀ (f : T.Fl) (w : Nat) (n : Int) (n_1 : Nat) (Post : AV → List AObj → Prop),
  condP (decide ((3 : Int) < n))
      (needP ((0 : Int) ≤ (3 : Int) ∧ (3 : Int) < (↑w : Int))
        (ASpec Try.prog 215
        [AV.agg [AV.int IntKind.i64 (Prod.fst (List.getD (Prod.fst f) 3 T.noSeat)), AV.str { data := List.toArray (Prod.snd (List.getD (Prod.fst f) 3 T.noSeat)) }]]
        [AObj.cells
        (T.encFl f)]
        fun (r : AV) (H' : List AObj) =>
        ∃ (x : Bool),
        r = AV.bool x ∧
        H' =
        [AObj.cells
        (T.encFl f)] ∧
        condP x
        (Post (AV.int IntKind.i64 (3 : Int))
        [AObj.cells
        (T.encFl f)])
        (AWP Try.prog 19 n_1 c299_2
        [(0, AV.csl 2 0 0 w), (1, AV.fn (215 : FuncId) []), (7, AV.int IntKind.i64 n), (8, AV.int IntKind.i64 (4 : Int))]
        [AObj.cells
        (T.encFl f)]
        (q299_2 n_1 Post))))
      (Post (AV.int IntKind.i64 (-1 : Int))
        [AObj.cells
        (T.encFl f)]) →
    AWP Try.prog 19 n_1 c299_2
      [(0, AV.csl 2 0 0 w), (1, AV.fn (215 : FuncId) []), (7, AV.int IntKind.i64 n), (8, AV.int IntKind.i64 (3 : Int))] [AObj.cells (T.encFl f)]
      (q299_2 n_1 Post) := fun f w n n Post h => Go.Ab.AWP.loop' g299 (Cfg.live g299) c299_2 (by kernel_rfl) (by kernel_rfl) (Go.Ab.kc (by kernel_rfl) h)
theorem v299_2a4 : ∀ (f : T.Fl) (w : Nat) (n : Int) (n_1 : Nat) (Post : AV → List AObj → Prop),
  condP (decide ((4 : Int) < n))
      (needP ((0 : Int) ≤ (4 : Int) ∧ (4 : Int) < (↑w : Int))
        (ASpec Try.prog 215
        [AV.agg [AV.int IntKind.i64 (Prod.fst (List.getD (Prod.fst f) 4 T.noSeat)), AV.str { data := List.toArray (Prod.snd (List.getD (Prod.fst f) 4 T.noSeat)) }]]
        [AObj.cells
        (T.encFl f)]
        fun (r : AV) (H' : List AObj) =>
        ∃ (x : Bool),
        r = AV.bool x ∧
        H' =
        [AObj.cells
        (T.encFl f)] ∧
        condP x
        (Post (AV.int IntKind.i64 (4 : Int))
        [AObj.cells
        (T.encFl f)])
        (AWP Try.prog 19 n_1 c299_2
        [(0, AV.csl 2 0 0 w), (1, AV.fn (215 : FuncId) []), (7, AV.int IntKind.i64 n), (8, AV.int IntKind.i64 (5 : Int))]
        [AObj.cells
        (T.encFl f)]
        (q299_2 n_1 Post))))
      (Post (AV.int IntKind.i64 (-1 : Int))
        [AObj.cells
        (T.encFl f)]) →
    AWP Try.prog 19 n_1 c299_2
      [(0, AV.csl 2 0 0 w), (1, AV.fn (215 : FuncId) []), (7, AV.int IntKind.i64 n), (8, AV.int IntKind.i64 (4 : Int))] [AObj.cells (T.encFl f)]
      (q299_2 n_1 Post) := fun f w n n Post h => Go.Ab.AWP.loop' g299 (Cfg.live g299) c299_2 (by kernel_rfl) (by kernel_rfl) (Go.Ab.kc (by kernel_rfl) h)
theorem v299_2a5 : ∀ (f : T.Fl) (w : Nat) (n : Int) (n_1 : Nat) (Post : AV → List AObj → Prop),
  condP (decide ((5 : Int) < n))
      (needP ((0 : Int) ≤ (5 : Int) ∧ (5 : Int) < (↑w : Int))
        (ASpec Try.prog 215
        [AV.agg [AV.int IntKind.i64 (Prod.fst (List.getD (Prod.fst f) 5 T.noSeat)), AV.str { data := List.toArray (Prod.snd (List.getD (Prod.fst f) 5 T.noSeat)) }]]
        [AObj.cells
        (T.encFl f)]
        fun (r : AV) (H' : List AObj) =>
        ∃ (x : Bool),
        r = AV.bool x ∧
        H' =
        [AObj.cells
        (T.encFl f)] ∧
        condP x
        (Post (AV.int IntKind.i64 (5 : Int))
        [AObj.cells
        (T.encFl f)])
        (AWP Try.prog 19 n_1 c299_2
        [(0, AV.csl 2 0 0 w), (1, AV.fn (215 : FuncId) []), (7, AV.int IntKind.i64 n), (8, AV.int IntKind.i64 (6 : Int))]
        [AObj.cells
        (T.encFl f)]
        (q299_2 n_1 Post))))
      (Post (AV.int IntKind.i64 (-1 : Int))
        [AObj.cells
        (T.encFl f)]) →
    AWP Try.prog 19 n_1 c299_2
      [(0, AV.csl 2 0 0 w), (1, AV.fn (215 : FuncId) []), (7, AV.int IntKind.i64 n), (8, AV.int IntKind.i64 (5 : Int))] [AObj.cells (T.encFl f)]
      (q299_2 n_1 Post) := fun f w n n Post h => Go.Ab.AWP.loop' g299 (Cfg.live g299) c299_2 (by kernel_rfl) (by kernel_rfl) (Go.Ab.kc (by kernel_rfl) h)
theorem v299_2a6 : ∀ (f : T.Fl) (w : Nat) (n : Int) (n_1 : Nat) (Post : AV → List AObj → Prop),
  condP (decide ((6 : Int) < n))
      (needP ((0 : Int) ≤ (6 : Int) ∧ (6 : Int) < (↑w : Int))
        (ASpec Try.prog 215
        [AV.agg [AV.int IntKind.i64 (Prod.fst (List.getD (Prod.fst f) 6 T.noSeat)), AV.str { data := List.toArray (Prod.snd (List.getD (Prod.fst f) 6 T.noSeat)) }]]
        [AObj.cells
        (T.encFl f)]
        fun (r : AV) (H' : List AObj) =>
        ∃ (x : Bool),
        r = AV.bool x ∧
        H' =
        [AObj.cells
        (T.encFl f)] ∧
        condP x
        (Post (AV.int IntKind.i64 (6 : Int))
        [AObj.cells
        (T.encFl f)])
        (AWP Try.prog 19 n_1 c299_2
        [(0, AV.csl 2 0 0 w), (1, AV.fn (215 : FuncId) []), (7, AV.int IntKind.i64 n), (8, AV.int IntKind.i64 (7 : Int))]
        [AObj.cells
        (T.encFl f)]
        (q299_2 n_1 Post))))
      (Post (AV.int IntKind.i64 (-1 : Int))
        [AObj.cells
        (T.encFl f)]) →
    AWP Try.prog 19 n_1 c299_2
      [(0, AV.csl 2 0 0 w), (1, AV.fn (215 : FuncId) []), (7, AV.int IntKind.i64 n), (8, AV.int IntKind.i64 (6 : Int))] [AObj.cells (T.encFl f)]
      (q299_2 n_1 Post) := fun f w n n Post h => Go.Ab.AWP.loop' g299 (Cfg.live g299) c299_2 (by kernel_rfl) (by kernel_rfl) (Go.Ab.kc (by kernel_rfl) h)
theorem v299_2a7 : ∀ (f : T.Fl) (w : Nat) (n : Int) (n_1 : Nat) (Post : AV → List AObj → Prop),
  condP (decide ((7 : Int) < n))
      (needP ((0 : Int) ≤ (7 : Int) ∧ (7 : Int) < (↑w : Int))
        (ASpec Try.prog 215
        [AV.agg [AV.int IntKind.i64 (Prod.fst (List.getD (Prod.fst f) 7 T.noSeat)), AV.str { data := List.toArray (Prod.snd (List.getD (Prod.fst f) 7 T.noSeat)) }]]
        [AObj.cells
        (T.encFl f)]
        fun (r : AV) (H' : List AObj) =>
        ∃ (x : Bool),
        r = AV.bool x ∧
        H' =
        [AObj.cells
        (T.encFl f)] ∧
        condP x
        (Post (AV.int IntKind.i64 (7 : Int))
        [AObj.cells
        (T.encFl f)])
        (AWP Try.prog 19 n_1 c299_2
        [(0, AV.csl 2 0 0 w), (1, AV.fn (215 : FuncId) []), (7, AV.int IntKind.i64 n), (8, AV.int IntKind.i64 (8 : Int))]
        [AObj.cells
        (T.encFl f)]
        (q299_2 n_1 Post))))
      (Post (AV.int IntKind.i64 (-1 : Int))
        [AObj.cells
        (T.encFl f)]) →
    AWP Try.prog 19 n_1 c299_2
      [(0, AV.csl 2 0 0 w), (1, AV.fn (215 : FuncId) []), (7, AV.int IntKind.i64 n), (8, AV.int IntKind.i64 (7 : Int))] [AObj.cells (T.encFl f)]
      (q299_2 n_1 Post) := fun f w n n Post h => Go.Ab.AWP.loop' g299 (Cfg.live g299) c299_2 (by kernel_rfl) (by kernel_rfl) (Go.Ab.kc (by kernel_rfl) h)
theorem v299_2a8 : ∀ (f : T.Fl) (w : Nat) (n : Int) (n_1 : Nat) (Post : AV → List AObj → Prop),
  condP (decide ((8 : Int) < n))
      (needP ((0 : Int) ≤ (8 : Int) ∧ (8 : Int) < (↑w : Int))
        (ASpec Try.prog 215 [AV.agg [AV.int IntKind.i64 (Prod.fst (Prod.snd f)), AV.int IntKind.i64 (Prod.snd (Prod.snd f))]]
        [AObj.cells
        (T.encFl f)]
        fun (r : AV) (H' : List AObj) =>
        ∃ (x : Bool),
        r = AV.bool x ∧
        H' =
        [AObj.cells
        (T.encFl f)] ∧
        condP x
        (Post (AV.int IntKind.i64 (8 : Int))
        [AObj.cells
        (T.encFl f)])
        (AWP Try.prog 19 n_1 c299_2
        [(0, AV.csl 2 0 0 w), (1, AV.fn (215 : FuncId) []), (7, AV.int IntKind.i64 n), (8, AV.int IntKind.i64 (9 : Int))]
        [AObj.cells
        (T.encFl f)]
        (q299_2 n_1 Post))))
      (Post (AV.int IntKind.i64 (-1 : Int))
        [AObj.cells
        (T.encFl f)]) →
    AWP Try.prog 19 n_1 c299_2
      [(0, AV.csl 2 0 0 w), (1, AV.fn (215 : FuncId) []), (7, AV.int IntKind.i64 n), (8, AV.int IntKind.i64 (8 : Int))] [AObj.cells (T.encFl f)]
      (q299_2 n_1 Post) := fun f w n n Post h => Go.Ab.AWP.loop' g299 (Cfg.live g299) c299_2 (by kernel_rfl) (by kernel_rfl) (Go.Ab.kc (by kernel_rfl) h)
theorem v299_2h0 : ∀ (f : T.Fl) (s : List UInt8) (w : Nat) (n : Int) (n_1 : Nat) (Post : AV → List AObj → Prop),
  condP (decide ((0 : Int) < n))
      (needP ((0 : Int) ≤ (0 : Int) ∧ (0 : Int) < (↑w : Int))
        (ASpec Try.prog 214
        [AV.agg [AV.int IntKind.i64 (Prod.fst (List.getD (Prod.fst f) 0 T.noSeat)), AV.str { data := List.toArray (Prod.snd (List.getD (Prod.fst f) 0 T.noSeat)) }],
        AV.ptr 1 0]
        [AObj.cells
        (T.encFl f),
        AObj.cells [AV.str { data := List.toArray s }]]
        fun (r : AV) (H' : List AObj) =>
        ∃ (x : Bool),
        r = AV.bool x ∧
        H' =
        [AObj.cells
        (T.encFl f),
        AObj.cells [AV.str { data := List.toArray s }]] ∧
        condP x
        (Post (AV.int IntKind.i64 (0 : Int))
        [AObj.cells
        (T.encFl f),
        AObj.cells [AV.str { data := List.toArray s }]])
        (AWP Try.prog 19 n_1 c299_2
        [(0, AV.csl 2 0 0 w), (1, AV.fn (214 : FuncId) [AV.ptr 1 0]), (7, AV.int IntKind.i64 n),
        (8, AV.int IntKind.i64 (1 : Int))]
        [AObj.cells
        (T.encFl f),
        AObj.cells [AV.str { data := List.toArray s }]]
        (q299_2 n_1 Post))))
      (Post (AV.int IntKind.i64 (-1 : Int))
        [AObj.cells
        (T.encFl f),
        AObj.cells [AV.str { data := List.toArray s }]]) →
    AWP Try.prog 19 n_1 c299_2
      [(0, AV.csl 2 0 0 w), (1, AV.fn (214 : FuncId) [AV.ptr 1 0]), (7, AV.int IntKind.i64 n),
        (8, AV.int IntKind.i64 (0 : Int))]
      [AObj.cells (T.encFl f), AObj.cells [AV.str { data := List.toArray s }]] (q299_2 n_1 Post) := fun f s w n n Post h => Go.Ab.AWP.loop' g299 (Cfg.live g299) c299_2 (by kernel_rfl) (by kernel_rfl) (Go.Ab.kc (by kernel_rfl) h)
theorem v299_2h1 : ∀ (f : T.Fl) (s : List UInt8) (w : Nat) (n : Int) (n_1 : Nat) (Post : AV → List AObj → Prop),
  condP (decide ((1 : Int) < n))
      (needP ((0 : Int) ≤ (1 : Int) ∧ (1 : Int) < (↑w : Int))
        (ASpec Try.prog 214
        [AV.agg [AV.int IntKind.i64 (Prod.fst (List.getD (Prod.fst f) 1 T.noSeat)), AV.str { data := List.toArray (Prod.snd (List.getD (Prod.fst f) 1 T.noSeat)) }],
        AV.ptr 1 0]
        [AObj.cells
        (T.encFl f),
        AObj.cells [AV.str { data := List.toArray s }]]
        fun (r : AV) (H' : List AObj) =>
        ∃ (x : Bool),
        r = AV.bool x ∧
        H' =
        [AObj.cells
        (T.encFl f),
        AObj.cells [AV.str { data := List.toArray s }]] ∧
        condP x
        (Post (AV.int IntKind.i64 (1 : Int))
        [AObj.cells
        (T.encFl f),
        AObj.cells [AV.str { data := List.toArray s }]])
        (AWP Try.prog 19 n_1 c299_2
        [(0, AV.csl 2 0 0 w), (1, AV.fn (214 : FuncId) [AV.ptr 1 0]), (7, AV.int IntKind.i64 n),
        (8, AV.int IntKind.i64 (2 : Int))]
        [AObj.cells
        (T.encFl f),
        AObj.cells [AV.str { data := List.toArray s }]]
        (q299_2 n_1 Post))))
      (Post (AV.int IntKind.i64 (-1 : Int))
        [AObj.cells
        (T.encFl f),
        AObj.cells [AV.str { data := List.toArray s }]]) →
    AWP Try.prog 19 n_1 c299_2
      [(0, AV.csl 2 0 0 w), (1, AV.fn (214 : FuncId) [AV.ptr 1 0]), (7, AV.int IntKind.i64 n),
        (8, AV.int IntKind.i64 (1 : Int))]
      [AObj.cells (T.encFl f), AObj.cells [AV.str { data := List.toArray s }]] (q299_2 n_1 Post) := fun f s w n n Post h => Go.Ab.AWP.loop' g299 (Cfg.live g299) c299_2 (by kernel_rfl) (by kernel_rfl) (Go.Ab.kc (by kernel_rfl) h)
theorem v299_2h2 : ∀ (f : T.Fl) (s : List UInt8) (w : Nat) (n : Int) (n_1 : Nat) (Post : AV → List AObj → Prop),
  condP (decide ((2 : Int) < n))
      (needP ((0 : Int) ≤ (2 : Int) ∧ (2 : Int) < (↑w : Int))
        (ASpec Try.prog 214
        [AV.agg [AV.int IntKind.i64 (Prod.fst (List.getD (Prod.fst f) 2 T.noSeat)), AV.str { data := List.toArray (Prod.snd (List.getD (Prod.fst f) 2 T.noSeat)) }],
        AV.ptr 1 0]
        [AObj.cells
        (T.encFl f),
        AObj.cells [AV.str { data := List.toArray s }]]
        fun (r : AV) (H' : List AObj) =>
        ∃ (x : Bool),
        r = AV.bool x ∧
        H' =
        [AObj.cells
        (T.encFl f),
        AObj.cells [AV.str { data := List.toArray s }]] ∧
        condP x
        (Post (AV.int IntKind.i64 (2 : Int))
        [AObj.cells
        (T.encFl f),
        AObj.cells [AV.str { data := List.toArray s }]])
        (AWP Try.prog 19 n_1 c299_2
        [(0, AV.csl 2 0 0 w), (1, AV.fn (214 : FuncId) [AV.ptr 1 0]), (7, AV.int IntKind.i64 n),
        (8, AV.int IntKind.i64 (3 : Int))]
        [AObj.cells
        (T.encFl f),
        AObj.cells [AV.str { data := List.toArray s }]]
        (q299_2 n_1 Post))))
      (Post (AV.int IntKind.i64 (-1 : Int))
        [AObj.cells
        (T.encFl f),
        AObj.cells [AV.str { data := List.toArray s }]]) →
    AWP Try.prog 19 n_1 c299_2
      [(0, AV.csl 2 0 0 w), (1, AV.fn (214 : FuncId) [AV.ptr 1 0]), (7, AV.int IntKind.i64 n),
        (8, AV.int IntKind.i64 (2 : Int))]
      [AObj.cells (T.encFl f), AObj.cells [AV.str { data := List.toArray s }]] (q299_2 n_1 Post) := fun f s w n n Post h => Go.Ab.AWP.loop' g299 (Cfg.live g299) c299_2 (by kernel_rfl) (by kernel_rfl) (Go.Ab.kc (by kernel_rfl) h)
theorem v299_2h3 : ∀ (f : T.Fl) (s : List UInt8) (w : Nat) (n : Int) (n_1 : Nat) (Post : AV → List AObj → Prop),
  condP (decide ((3 : Int) < n))
      (needP ((0 : Int) ≤ (3 : Int) ∧ (3 : Int) < (↑w : Int))
        (ASpec Try.prog 214
        [AV.agg [AV.int IntKind.i64 (Prod.fst (List.getD (Prod.fst f) 3 T.noSeat)), AV.str { data := List.toArray (Prod.snd (List.getD (Prod.fst f) 3 T.noSeat)) }],
        AV.ptr 1 0]
        [AObj.cells
        (T.encFl f),
        AObj.cells [AV.str { data := List.toArray s }]]
        fun (r : AV) (H' : List AObj) =>
        ∃ (x : Bool),
        r = AV.bool x ∧
        H' =
        [AObj.cells
        (T.encFl f),
        AObj.cells [AV.str { data := List.toArray s }]] ∧
        condP x
        (Post (AV.int IntKind.i64 (3 : Int))
        [AObj.cells
        (T.encFl f),
        AObj.cells [AV.str { data := List.toArray s }]])
        (AWP Try.prog 19 n_1 c299_2
        [(0, AV.csl 2 0 0 w), (1, AV.fn (214 : FuncId) [AV.ptr 1 0]), (7, AV.int IntKind.i64 n),
        (8, AV.int IntKind.i64 (4 : Int))]
        [AObj.cells
        (T.encFl f),
        AObj.cells [AV.str { data := List.toArray s }]]
        (q299_2 n_1 Post))))
      (Post (AV.int IntKind.i64 (-1 : Int))
        [AObj.cells
        (T.encFl f),
        AObj.cells [AV.str { data := List.toArray s }]]) →
    AWP Try.prog 19 n_1 c299_2
      [(0, AV.csl 2 0 0 w), (1, AV.fn (214 : FuncId) [AV.ptr 1 0]), (7, AV.int IntKind.i64 n),
        (8, AV.int IntKind.i64 (3 : Int))]
      [AObj.cells (T.encFl f), AObj.cells [AV.str { data := List.toArray s }]] (q299_2 n_1 Post) := fun f s w n n Post h => Go.Ab.AWP.loop' g299 (Cfg.live g299) c299_2 (by kernel_rfl) (by kernel_rfl) (Go.Ab.kc (by kernel_rfl) h)
theorem v299_2h4 : ∀ (f : T.Fl) (s : List UInt8) (w : Nat) (n : Int) (n_1 : Nat) (Post : AV → List AObj → Prop),
  condP (decide ((4 : Int) < n))
      (needP ((0 : Int) ≤ (4 : Int) ∧ (4 : Int) < (↑w : Int))
        (ASpec Try.prog 214
        [AV.agg [AV.int IntKind.i64 (Prod.fst (List.getD (Prod.fst f) 4 T.noSeat)), AV.str { data := List.toArray (Prod.snd (List.getD (Prod.fst f) 4 T.noSeat)) }],
        AV.ptr 1 0]
        [AObj.cells
        (T.encFl f),
        AObj.cells [AV.str { data := List.toArray s }]]
        fun (r : AV) (H' : List AObj) =>
        ∃ (x : Bool),
        r = AV.bool x ∧
        H' =
        [AObj.cells
        (T.encFl f),
        AObj.cells [AV.str { data := List.toArray s }]] ∧
        condP x
        (Post (AV.int IntKind.i64 (4 : Int))
        [AObj.cells
        (T.encFl f),
        AObj.cells [AV.str { data := List.toArray s }]])
        (AWP Try.prog 19 n_1 c299_2
        [(0, AV.csl 2 0 0 w), (1, AV.fn (214 : FuncId) [AV.ptr 1 0]), (7, AV.int IntKind.i64 n),
        (8, AV.int IntKind.i64 (5 : Int))]
        [AObj.cells
        (T.encFl f),
        AObj.cells [AV.str { data := List.toArray s }]]
        (q299_2 n_1 Post))))
      (Post (AV.int IntKind.i64 (-1 : Int))
        [AObj.cells
        (T.encFl f),
        AObj.cells [AV.str { data := List.toArray s }]]) →
    AWP Try.prog 19 n_1 c299_2
      [(0, AV.csl 2 0 0 w), (1, AV.fn (214 : FuncId) [AV.ptr 1 0]), (7, AV.int IntKind.i64 n),
        (8, AV.int IntKind.i64 (4 : Int))]
      [AObj.cells (T.encFl f), AObj.cells [AV.str { data := List.toArray s }]] (q299_2 n_1 Post) := fun f s w n n Post h => Go.Ab.AWP.loop' g299 (Cfg.live g299) c299_2 (by kernel_rfl) (by kernel_rfl) (Go.Ab.kc (by kernel_rfl) h)
theorem v299_2h5 : ∀ (f : T.Fl) (s : List UInt8) (w : Nat) (n : Int) (n_1 : Nat) (Post : AV → List AObj → Prop),
  condP (decide ((5 : Int) < n))
      (needP ((0 : Int) ≤ (5 : Int) ∧ (5 : Int) < (↑w : Int))
        (ASpec Try.prog 214
        [AV.agg [AV.int IntKind.i64 (Prod.fst (List.getD (Prod.fst f) 5 T.noSeat)), AV.str { data := List.toArray (Prod.snd (List.getD (Prod.fst f) 5 T.noSeat)) }],
        AV.ptr 1 0]
        [AObj.cells
        (T.encFl f),
        AObj.cells [AV.str { data := List.toArray s }]]
        fun (r : AV) (H' : List AObj) =>
        ∃ (x : Bool),
        r = AV.bool x ∧
        H' =
        [AObj.cells
        (T.encFl f),
        AObj.cells [AV.str { data := List.toArray s }]] ∧
        condP x
        (Post (AV.int IntKind.i64 (5 : Int))
        [AObj.cells
        (T.encFl f),
        AObj.cells [AV.str { data := List.toArray s }]])
        (AWP Try.prog 19 n_1 c299_2
        [(0, AV.csl 2 0 0 w), (1, AV.fn (214 : FuncId) [AV.ptr 1 0]), (7, AV.int IntKind.i64 n),
        (8, AV.int IntKind.i64 (6 : Int))]
        [AObj.cells
        (T.encFl f),
        AObj.cells [AV.str { data := List.toArray s }]]
        (q299_2 n_1 Post))))
      (Post (AV.int IntKind.i64 (-1 : Int))
        [AObj.cells
        (T.encFl f),
        AObj.cells [AV.str { data := List.toArray s }]]) →
    AWP Try.prog 19 n_1 c299_2
      [(0, AV.csl 2 0 0 w), (1, AV.fn (214 : FuncId) [AV.ptr 1 0]), (7, AV.int IntKind.i64 n),
        (8, AV.int IntKind.i64 (5 : Int))]
      [AObj.cells (T.encFl f), AObj.cells [AV.str { data := List.toArray s }]] (q299_2 n_1 Post) := fun f s w n n Post h => Go.Ab.AWP.loop' g299 (Cfg.live g299) c299_2 (by kernel_rfl) (by kernel_rfl) (Go.Ab.kc (by kernel_rfl) h)
theorem v299_2h6 : ∀ (f : T.Fl) (s : List UInt8) (w : Nat) (n : Int) (n_1 : Nat) (Post : AV → List AObj → Prop),
  condP (decide ((6 : Int) < n))
      (needP ((0 : Int) ≤ (6 : Int) ∧ (6 : Int) < (↑w : Int))
        (ASpec Try.prog 214
        [AV.agg [AV.int IntKind.i64 (Prod.fst (List.getD (Prod.fst f) 6 T.noSeat)), AV.str { data := List.toArray (Prod.snd (List.getD (Prod.fst f) 6 T.noSeat)) }],
        AV.ptr 1 0]
        [AObj.cells
        (T.encFl f),
        AObj.cells [AV.str { data := List.toArray s }]]
        fun (r : AV) (H' : List AObj) =>
        ∃ (x : Bool),
        r = AV.bool x ∧
        H' =
        [AObj.cells
        (T.encFl f),
        AObj.cells [AV.str { data := List.toArray s }]] ∧
        condP x
        (Post (AV.int IntKind.i64 (6 : Int))
        [AObj.cells
        (T.encFl f),
        AObj.cells [AV.str { data := List.toArray s }]])
        (AWP Try.prog 19 n_1 c299_2
        [(0, AV.csl 2 0 0 w), (1, AV.fn (214 : FuncId) [AV.ptr 1 0]), (7, AV.int IntKind.i64 n),
        (8, AV.int IntKind.i64 (7 : Int))]
        [AObj.cells
        (T.encFl f),
        AObj.cells [AV.str { data := List.toArray s }]]
        (q299_2 n_1 Post))))
      (Post (AV.int IntKind.i64 (-1 : Int))
        [AObj.cells
        (T.encFl f),
        AObj.cells [AV.str { data := List.toArray s }]]) →
    AWP Try.prog 19 n_1 c299_2
      [(0, AV.csl 2 0 0 w), (1, AV.fn (214 : FuncId) [AV.ptr 1 0]), (7, AV.int IntKind.i64 n),
        (8, AV.int IntKind.i64 (6 : Int))]
      [AObj.cells (T.encFl f), AObj.cells [AV.str { data := List.toArray s }]] (q299_2 n_1 Post) := fun f s w n n Post h => Go.Ab.AWP.loop' g299 (Cfg.live g299) c299_2 (by kernel_rfl) (by kernel_rfl) (Go.Ab.kc (by kernel_rfl) h)
theorem v299_2h7 : ∀ (f : T.Fl) (s : List UInt8) (w : Nat) (n : Int) (n_1 : Nat) (Post : AV → List AObj → Prop),
  condP (decide ((7 : Int) < n))
      (needP ((0 : Int) ≤ (7 : Int) ∧ (7 : Int) < (↑w : Int))
        (ASpec Try.prog 214
        [AV.agg [AV.int IntKind.i64 (Prod.fst (List.getD (Prod.fst f) 7 T.noSeat)), AV.str { data := List.toArray (Prod.snd (List.getD (Prod.fst f) 7 T.noSeat)) }],
        AV.ptr 1 0]
        [AObj.cells
        (T.encFl f),
        AObj.cells [AV.str { data := List.toArray s }]]
        fun (r : AV) (H' : List AObj) =>
        ∃ (x : Bool),
        r = AV.bool x ∧
        H' =
        [AObj.cells
        (T.encFl f),
        AObj.cells [AV.str { data := List.toArray s }]] ∧
        condP x
        (Post (AV.int IntKind.i64 (7 : Int))
        [AObj.cells
        (T.encFl f),
        AObj.cells [AV.str { data := List.toArray s }]])
        (AWP Try.prog 19 n_1 c299_2
        [(0, AV.csl 2 0 0 w), (1, AV.fn (214 : FuncId) [AV.ptr 1 0]), (7, AV.int IntKind.i64 n),
        (8, AV.int IntKind.i64 (8 : Int))]
        [AObj.cells
        (T.encFl f),
        AObj.cells [AV.str { data := List.toArray s }]]
        (q299_2 n_1 Post))))
      (Post (AV.int IntKind.i64 (-1 : Int))
        [AObj.cells
        (T.encFl f),
        AObj.cells [AV.str { data := List.toArray s }]]) →
    AWP Try.prog 19 n_1 c299_2
      [(0, AV.csl 2 0 0 w), (1, AV.fn (214 : FuncId) [AV.ptr 1 0]), (7, AV.int IntKind.i64 n),
        (8, AV.int IntKind.i64 (7 : Int))]
      [AObj.cells (T.encFl f), AObj.cells [AV.str { data := List.toArray s }]] (q299_2 n_1 Post) := fun f s w n n Post h => Go.Ab.AWP.loop' g299 (Cfg.live g299) c299_2 (by kernel_rfl) (by kernel_rfl) (Go.Ab.kc (by kernel_rfl) h)
theorem v299_2h8 : ∀ (f : T.Fl) (s : List UInt8) (w : Nat) (n : Int) (n_1 : Nat) (Post : AV → List AObj → Prop),
  condP (decide ((8 : Int) < n))
      (needP ((0 : Int) ≤ (8 : Int) ∧ (8 : Int) < (↑w : Int))
        (ASpec Try.prog 214 [AV.agg [AV.int IntKind.i64 (Prod.fst (Prod.snd f)), AV.int IntKind.i64 (Prod.snd (Prod.snd f))], AV.ptr 1 0]
        [AObj.cells
        (T.encFl f),
        AObj.cells [AV.str { data := List.toArray s }]]
        fun (r : AV) (H' : List AObj) =>
        ∃ (x : Bool),
        r = AV.bool x ∧
        H' =
        [AObj.cells
        (T.encFl f),
        AObj.cells [AV.str { data := List.toArray s }]] ∧
        condP x
        (Post (AV.int IntKind.i64 (8 : Int))
        [AObj.cells
        (T.encFl f),
        AObj.cells [AV.str { data := List.toArray s }]])
        (AWP Try.prog 19 n_1 c299_2
        [(0, AV.csl 2 0 0 w), (1, AV.fn (214 : FuncId) [AV.ptr 1 0]), (7, AV.int IntKind.i64 n),
        (8, AV.int IntKind.i64 (9 : Int))]
        [AObj.cells
        (T.encFl f),
        AObj.cells [AV.str { data := List.toArray s }]]
        (q299_2 n_1 Post))))
      (Post (AV.int IntKind.i64 (-1 : Int))
        [AObj.cells
        (T.encFl f),
        AObj.cells [AV.str { data := List.toArray s }]]) →
    AWP Try.prog 19 n_1 c299_2
      [(0, AV.csl 2 0 0 w), (1, AV.fn (214 : FuncId) [AV.ptr 1 0]), (7, AV.int IntKind.i64 n),
        (8, AV.int IntKind.i64 (8 : Int))]
      [AObj.cells (T.encFl f), AObj.cells [AV.str { data := List.toArray s }]] (q299_2 n_1 Post) := fun f s w n n Post h => Go.Ab.AWP.loop' g299 (Cfg.live g299) c299_2 (by kernel_rfl) (by kernel_rfl) (Go.Ab.kc (by kernel_rfl) h)
theorem v299_2b0 : ∀ (f : T.Fl) (t : Int) (w : Nat) (n : Int) (n_1 : Nat) (Post : AV → List AObj → Prop),
  condP (decide ((0 : Int) < n))
      (needP ((0 : Int) ≤ (0 : Int) ∧ (0 : Int) < (↑w : Int))
        (ASpec Try.prog 300
        [AV.agg [AV.int IntKind.i64 (Prod.fst (List.getD (Prod.fst f) 0 T.noSeat)), AV.str { data := List.toArray (Prod.snd (List.getD (Prod.fst f) 0 T.noSeat)) }],
        AV.ptr 1 0]
        [AObj.cells
        (T.encFl f),
        AObj.cells [AV.int IntKind.i64 t]]
        fun (r : AV) (H' : List AObj) =>
        ∃ (x : Bool),
        r = AV.bool x ∧
        H' =
        [AObj.cells
        (T.encFl f),
        AObj.cells [AV.int IntKind.i64 t]] ∧
        condP x
        (Post (AV.int IntKind.i64 (0 : Int))
        [AObj.cells
        (T.encFl f),
        AObj.cells [AV.int IntKind.i64 t]])
        (AWP Try.prog 19 n_1 c299_2
        [(0, AV.csl 2 0 0 w), (1, AV.fn (300 : FuncId) [AV.ptr 1 0]), (7, AV.int IntKind.i64 n),
        (8, AV.int IntKind.i64 (1 : Int))]
        [AObj.cells
        (T.encFl f),
        AObj.cells [AV.int IntKind.i64 t]]
        (q299_2 n_1 Post))))
      (Post (AV.int IntKind.i64 (-1 : Int))
        [AObj.cells
        (T.encFl f),
        AObj.cells [AV.int IntKind.i64 t]]) →
    AWP Try.prog 19 n_1 c299_2
      [(0, AV.csl 2 0 0 w), (1, AV.fn (300 : FuncId) [AV.ptr 1 0]), (7, AV.int IntKind.i64 n),
        (8, AV.int IntKind.i64 (0 : Int))]
      [AObj.cells (T.encFl f), AObj.cells [AV.int IntKind.i64 t]] (q299_2 n_1 Post) := fun f t w n n Post h => Go.Ab.AWP.loop' g299 (Cfg.live g299) c299_2 (by kernel_rfl) (by kernel_rfl) (Go.Ab.kc (by kernel_rfl) h)
theorem v299_2b1 : ∀ (f : T.Fl) (t : Int) (w : Nat) (n : Int) (n_1 : Nat) (Post : AV → List AObj → Prop),
  condP (decide ((1 : Int) < n))
      (needP ((0 : Int) ≤ (1 : Int) ∧ (1 : Int) < (↑w : Int))
        (ASpec Try.prog 300
        [AV.agg [AV.int IntKind.i64 (Prod.fst (List.getD (Prod.fst f) 1 T.noSeat)), AV.str { data := List.toArray (Prod.snd (List.getD (Prod.fst f) 1 T.noSeat)) }],
        AV.ptr 1 0]
        [AObj.cells
        (T.encFl f),
        AObj.cells [AV.int IntKind.i64 t]]
        fun (r : AV) (H' : List AObj) =>
        ∃ (x : Bool),
        r = AV.bool x ∧
        H' =
        [AObj.cells
        (T.encFl f),
        AObj.cells [AV.int IntKind.i64 t]] ∧
        condP x
        (Post (AV.int IntKind.i64 (1 : Int))
        [AObj.cells
        (T.encFl f),
        AObj.cells [AV.int IntKind.i64 t]])
        (AWP Try.prog 19 n_1 c299_2
        [(0, AV.csl 2 0 0 w), (1, AV.fn (300 : FuncId) [AV.ptr 1 0]), (7, AV.int IntKind.i64 n),
        (8, AV.int IntKind.i64 (2 : Int))]
        [AObj.cells
        (T.encFl f),
        AObj.cells [AV.int IntKind.i64 t]]
        (q299_2 n_1 Post))))
      (Post (AV.int IntKind.i64 (-1 : Int))
        [AObj.cells
        (T.encFl f),
        AObj.cells [AV.int IntKind.i64 t]]) →
    AWP Try.prog 19 n_1 c299_2
      [(0, AV.csl 2 0 0 w), (1, AV.fn (300 : FuncId) [AV.ptr 1 0]), (7, AV.int IntKind.i64 n),
        (8, AV.int IntKind.i64 (1 : Int))]
      [AObj.cells (T.encFl f), AObj.cells [AV.int IntKind.i64 t]] (q299_2 n_1 Post) := fun f t w n n Post h => Go.Ab.AWP.loop' g299 (Cfg.live g299) c299_2 (by kernel_rfl) (by kernel_rfl) (Go.Ab.kc (by kernel_rfl) h)
theorem v299_2b2 : ∀ (f : T.Fl) (t : Int) (w : Nat) (n : Int) (n_1 : Nat) (Post : AV → List AObj → Prop),
  condP (decide ((2 : Int) < n))
      (needP ((0 : Int) ≤ (2 : Int) ∧ (2 : Int) < (↑w : Int))
        (ASpec Try.prog 300
        [AV.agg [AV.int IntKind.i64 (Prod.fst (List.getD (Prod.fst f) 2 T.noSeat)), AV.str { data := List.toArray (Prod.snd (List.getD (Prod.fst f) 2 T.noSeat)) }],
        AV.ptr 1 0]
        [AObj.cells
        (T.encFl f),
        AObj.cells [AV.int IntKind.i64 t]]
        fun (r : AV) (H' : List AObj) =>
        ∃ (x : Bool),
        r = AV.bool x ∧
        H' =
        [AObj.cells
        (T.encFl f),
        AObj.cells [AV.int IntKind.i64 t]] ∧
        condP x
        (Post (AV.int IntKind.i64 (2 : Int))
        [AObj.cells
        (T.encFl f),
        AObj.cells [AV.int IntKind.i64 t]])
        (AWP Try.prog 19 n_1 c299_2
        [(0, AV.csl 2 0 0 w), (1, AV.fn (300 : FuncId) [AV.ptr 1 0]), (7, AV.int IntKind.i64 n),
        (8, AV.int IntKind.i64 (3 : Int))]
        [AObj.cells
        (T.encFl f),
        AObj.cells [AV.int IntKind.i64 t]]
        (q299_2 n_1 Post))))
      (Post (AV.int IntKind.i64 (-1 : Int))
        [AObj.cells
        (T.encFl f),
        AObj.cells [AV.int IntKind.i64 t]]) →
    AWP Try.prog 19 n_1 c299_2
      [(0, AV.csl 2 0 0 w), (1, AV.fn (300 : FuncId) [AV.ptr 1 0]), (7, AV.int IntKind.i64 n),
        (8, AV.int IntKind.i64 (2 : Int))]
      [AObj.cells (T.encFl f), AObj.cells [AV.int IntKind.i64 t]] (q299_2 n_1 Post) := fun f t w n n Post h => Go.Ab.AWP.loop' g299 (Cfg.live g299) c299_2 (by kernel_rfl) (by kernel_rfl) (Go.Ab.kc (by kernel_rfl) h)
theorem v299_2b3 : ∀ (f : T.Fl) (t : Int) (w : Nat) (n : Int) (n_1 : Nat) (Post : AV → List AObj → Prop),
  condP (decide ((3 : Int) < n))
      (needP ((0 : Int) ≤ (3 : Int) ∧ (3 : Int) < (↑w : Int))
        (ASpec Try.prog 300
        [AV.agg [AV.int IntKind.i64 (Prod.fst (List.getD (Prod.fst f) 3 T.noSeat)), AV.str { data := List.toArray (Prod.snd (List.getD (Prod.fst f) 3 T.noSeat)) }],
        AV.ptr 1 0]
        [AObj.cells
        (T.encFl f),
        AObj.cells [AV.int IntKind.i64 t]]
        fun (r : AV) (H' : List AObj) =>
        ∃ (x : Bool),
        r = AV.bool x ∧
        H' =
        [AObj.cells
        (T.encFl f),
        AObj.cells [AV.int IntKind.i64 t]] ∧
        condP x
        (Post (AV.int IntKind.i64 (3 : Int))
        [AObj.cells
        (T.encFl f),
        AObj.cells [AV.int IntKind.i64 t]])
        (AWP Try.prog 19 n_1 c299_2
        [(0, AV.csl 2 0 0 w), (1, AV.fn (300 : FuncId) [AV.ptr 1 0]), (7, AV.int IntKind.i64 n),
        (8, AV.int IntKind.i64 (4 : Int))]
        [AObj.cells
        (T.encFl f),
        AObj.cells [AV.int IntKind.i64 t]]
        (q299_2 n_1 Post))))
      (Post (AV.int IntKind.i64 (-1 : Int))
        [AObj.cells
        (T.encFl f),
        AObj.cells [AV.int IntKind.i64 t]]) →
    AWP Try.prog 19 n_1 c299_2
      [(0, AV.csl 2 0 0 w), (1, AV.fn (300 : FuncId) [AV.ptr 1 0]), (7, AV.int IntKind.i64 n),
        (8, AV.int IntKind.i64 (3 : Int))]
      [AObj.cells (T.encFl f), AObj.cells [AV.int IntKind.i64 t]] (q299_2 n_1 Post) := fun f t w n n Post h => Go.Ab.AWP.loop' g299 (Cfg.live g299) c299_2 (by kernel_rfl) (by kernel_rfl) (Go.Ab.kc (by kernel_rfl) h)
theorem v299_2b4 : ∀ (f : T.Fl) (t : Int) (w : Nat) (n : Int) (n_1 : Nat) (Post : AV → List AObj → Prop),
  condP (decide ((4 : Int) < n))
      (needP ((0 : Int) ≤ (4 : Int) ∧ (4 : Int) < (↑w : Int))
        (ASpec Try.prog 300
        [AV.agg [AV.int IntKind.i64 (Prod.fst (List.getD (Prod.fst f) 4 T.noSeat)), AV.str { data := List.toArray (Prod.snd (List.getD (Prod.fst f) 4 T.noSeat)) }],
        AV.ptr 1 0]
        [AObj.cells
        (T.encFl f),
        AObj.cells [AV.int IntKind.i64 t]]
        fun (r : AV) (H' : List AObj) =>
        ∃ (x : Bool),
        r = AV.bool x ∧
        H' =
        [AObj.cells
        (T.encFl f),
        AObj.cells [AV.int IntKind.i64 t]] ∧
        condP x
        (Post (AV.int IntKind.i64 (4 : Int))
        [AObj.cells
        (T.encFl f),
        AObj.cells [AV.int IntKind.i64 t]])
        (AWP Try.prog 19 n_1 c299_2
        [(0, AV.csl 2 0 0 w), (1, AV.fn (300 : FuncId) [AV.ptr 1 0]), (7, AV.int IntKind.i64 n),
        (8, AV.int IntKind.i64 (5 : Int))]
        [AObj.cells
        (T.encFl f),
        AObj.cells [AV.int IntKind.i64 t]]
        (q299_2 n_1 Post))))
      (Post (AV.int IntKind.i64 (-1 : Int))
        [AObj.cells
        (T.encFl f),
        AObj.cells [AV.int IntKind.i64 t]]) →
    AWP Try.prog 19 n_1 c299_2
      [(0, AV.csl 2 0 0 w), (1, AV.fn (300 : FuncId) [AV.ptr 1 0]), (7, AV.int IntKind.i64 n),
        (8, AV.int IntKind.i64 (4 : Int))]
      [AObj.cells (T.encFl f), AObj.cells [AV.int IntKind.i64 t]] (q299_2 n_1 Post) := fun f t w n n Post h => Go.Ab.AWP.loop' g299 (Cfg.live g299) c299_2 (by kernel_rfl) (by kernel_rfl) (Go.Ab.kc (by kernel_rfl) h)
theorem v299_2b5 : ∀ (f : T.Fl) (t : Int) (w : Nat) (n : Int) (n_1 : Nat) (Post : AV → List AObj → Prop),
  condP (decide ((5 : Int) < n))
      (needP ((0 : Int) ≤ (5 : Int) ∧ (5 : Int) < (↑w : Int))
        (ASpec Try.prog 300
        [AV.agg [AV.int IntKind.i64 (Prod.fst (List.getD (Prod.fst f) 5 T.noSeat)), AV.str { data := List.toArray (Prod.snd (List.getD (Prod.fst f) 5 T.noSeat)) }],
        AV.ptr 1 0]
        [AObj.cells
        (T.encFl f),
        AObj.cells [AV.int IntKind.i64 t]]
        fun (r : AV) (H' : List AObj) =>
        ∃ (x : Bool),
        r = AV.bool x ∧
        H' =
        [AObj.cells
        (T.encFl f),
        AObj.cells [AV.int IntKind.i64 t]] ∧
        condP x
        (Post (AV.int IntKind.i64 (5 : Int))
        [AObj.cells
        (T.encFl f),
        AObj.cells [AV.int IntKind.i64 t]])
        (AWP Try.prog 19 n_1 c299_2
        [(0, AV.csl 2 0 0 w), (1, AV.fn (300 : FuncId) [AV.ptr 1 0]), (7, AV.int IntKind.i64 n),
        (8, AV.int IntKind.i64 (6 : Int))]
        [AObj.cells
        (T.encFl f),
        AObj.cells [AV.int IntKind.i64 t]]
        (q299_2 n_1 Post))))
      (Post (AV.int IntKind.i64 (-1 : Int))
        [AObj.cells
        (T.encFl f),
        AObj.cells [AV.int IntKind.i64 t]]) →
    AWP Try.prog 19 n_1 c299_2
      [(0, AV.csl 2 0 0 w), (1, AV.fn (300 : FuncId) [AV.ptr 1 0]), (7, AV.int IntKind.i64 n),
        (8, AV.int IntKind.i64 (5 : Int))]
      [AObj.cells (T.encFl f), AObj.cells [AV.int IntKind.i64 t]] (q299_2 n_1 Post) := fun f t w n n Post h => Go.Ab.AWP.loop' g299 (Cfg.live g299) c299_2 (by kernel_rfl) (by kernel_rfl) (Go.Ab.kc (by kernel_rfl) h)
theorem v299_2b6 : ∀ (f : T.Fl) (t : Int) (w : Nat) (n : Int) (n_1 : Nat) (Post : AV → List AObj → Prop),
  condP (decide ((6 : Int) < n))
      (needP ((0 : Int) ≤ (6 : Int) ∧ (6 : Int) < (↑w : Int))
        (ASpec Try.prog 300
        [AV.agg [AV.int IntKind.i64 (Prod.fst (List.getD (Prod.fst f) 6 T.noSeat)), AV.str { data := List.toArray (Prod.snd (List.getD (Prod.fst f) 6 T.noSeat)) }],
        AV.ptr 1 0]
        [AObj.cells
        (T.encFl f),
        AObj.cells [AV.int IntKind.i64 t]]
        fun (r : AV) (H' : List AObj) =>
        ∃ (x : Bool),
        r = AV.bool x ∧
        H' =
        [AObj.cells
        (T.encFl f),
        AObj.cells [AV.int IntKind.i64 t]] ∧
        condP x
        (Post (AV.int IntKind.i64 (6 : Int))
        [AObj.cells
        (T.encFl f),
        AObj.cells [AV.int IntKind.i64 t]])
        (AWP Try.prog 19 n_1 c299_2
        [(0, AV.csl 2 0 0 w), (1, AV.fn (300 : FuncId) [AV.ptr 1 0]), (7, AV.int IntKind.i64 n),
        (8, AV.int IntKind.i64 (7 : Int))]
        [AObj.cells
        (T.encFl f),
        AObj.cells [AV.int IntKind.i64 t]]
        (q299_2 n_1 Post))))
      (Post (AV.int IntKind.i64 (-1 : Int))
        [AObj.cells
        (T.encFl f),
        AObj.cells [AV.int IntKind.i64 t]]) →
    AWP Try.prog 19 n_1 c299_2
      [(0, AV.csl 2 0 0 w), (1, AV.fn (300 : FuncId) [AV.ptr 1 0]), (7, AV.int IntKind.i64 n),
        (8, AV.int IntKind.i64 (6 : Int))]
      [AObj.cells (T.encFl f), AObj.cells [AV.int IntKind.i64 t]] (q299_2 n_1 Post) := fun f t w n n Post h => Go.Ab.AWP.loop' g299 (Cfg.live g299) c299_2 (by kernel_rfl) (by kernel_rfl) (Go.Ab.kc (by kernel_rfl) h)
theorem v299_2b7 : ∀ (f : T.Fl) (t : Int) (w : Nat) (n : Int) (n_1 : Nat) (Post : AV → List AObj → Prop),
  condP (decide ((7 : Int) < n))
      (needP ((0 : Int) ≤ (7 : Int) ∧ (7 : Int) < (↑w : Int))
        (ASpec Try.prog 300
        [AV.agg [AV.int IntKind.i64 (Prod.fst (List.getD (Prod.fst f) 7 T.noSeat)), AV.str { data := List.toArray (Prod.snd (List.getD (Prod.fst f) 7 T.noSeat)) }],
        AV.ptr 1 0]
        [AObj.cells
        (T.encFl f),
        AObj.cells [AV.int IntKind.i64 t]]
        fun (r : AV) (H' : List AObj) =>
        ∃ (x : Bool),
        r = AV.bool x ∧
        H' =
        [AObj.cells
        (T.encFl f),
        AObj.cells [AV.int IntKind.i64 t]] ∧
        condP x
        (Post (AV.int IntKind.i64 (7 : Int))
        [AObj.cells
        (T.encFl f),
        AObj.cells [AV.int IntKind.i64 t]])
        (AWP Try.prog 19 n_1 c299_2
        [(0, AV.csl 2 0 0 w), (1, AV.fn (300 : FuncId) [AV.ptr 1 0]), (7, AV.int IntKind.i64 n),
        (8, AV.int IntKind.i64 (8 : Int))]
        [AObj.cells
        (T.encFl f),
        AObj.cells [AV.int IntKind.i64 t]]
        (q299_2 n_1 Post))))
      (Post (AV.int IntKind.i64 (-1 : Int))
        [AObj.cells
        (T.encFl f),
        AObj.cells [AV.int IntKind.i64 t]]) →
    AWP Try.prog 19 n_1 c299_2
      [(0, AV.csl 2 0 0 w), (1, AV.fn (300 : FuncId) [AV.ptr 1 0]), (7, AV.int IntKind.i64 n),
        (8, AV.int IntKind.i64 (7 : Int))]
      [AObj.cells (T.encFl f), AObj.cells [AV.int IntKind.i64 t]] (q299_2 n_1 Post) := fun f t w n n Post h => Go.Ab.AWP.loop' g299 (Cfg.live g299) c299_2 (by kernel_rfl) (by kernel_rfl) (Go.Ab.kc (by kernel_rfl) h)
theorem v299_2b8 : ∀ (f : T.Fl) (t : Int) (w : Nat) (n : Int) (n_1 : Nat) (Post : AV → List AObj → Prop),
  condP (decide ((8 : Int) < n))
      (needP ((0 : Int) ≤ (8 : Int) ∧ (8 : Int) < (↑w : Int))
        (ASpec Try.prog 300 [AV.agg [AV.int IntKind.i64 (Prod.fst (Prod.snd f)), AV.int IntKind.i64 (Prod.snd (Prod.snd f))], AV.ptr 1 0]
        [AObj.cells
        (T.encFl f),
        AObj.cells [AV.int IntKind.i64 t]]
        fun (r : AV) (H' : List AObj) =>
        ∃ (x : Bool),
        r = AV.bool x ∧
        H' =
        [AObj.cells
        (T.encFl f),
        AObj.cells [AV.int IntKind.i64 t]] ∧
        condP x
        (Post (AV.int IntKind.i64 (8 : Int))
        [AObj.cells
        (T.encFl f),
        AObj.cells [AV.int IntKind.i64 t]])
        (AWP Try.prog 19 n_1 c299_2
        [(0, AV.csl 2 0 0 w), (1, AV.fn (300 : FuncId) [AV.ptr 1 0]), (7, AV.int IntKind.i64 n),
        (8, AV.int IntKind.i64 (9 : Int))]
        [AObj.cells
        (T.encFl f),
        AObj.cells [AV.int IntKind.i64 t]]
        (q299_2 n_1 Post))))
      (Post (AV.int IntKind.i64 (-1 : Int))
        [AObj.cells
        (T.encFl f),
        AObj.cells [AV.int IntKind.i64 t]]) →
    AWP Try.prog 19 n_1 c299_2
      [(0, AV.csl 2 0 0 w), (1, AV.fn (300 : FuncId) [AV.ptr 1 0]), (7, AV.int IntKind.i64 n),
        (8, AV.int IntKind.i64 (8 : Int))]
      [AObj.cells (T.encFl f), AObj.cells [AV.int IntKind.i64 t]] (q299_2 n_1 Post) := fun f t w n n Post h => Go.Ab.AWP.loop' g299 (Cfg.live g299) c299_2 (by kernel_rfl) (by kernel_rfl) (Go.Ab.kc (by kernel_rfl) h)

-- 213
noncomputable def l213 : Nat → List Nat
  | _ => []
noncomputable def u213 : Nat → Bool
  | _ => false
noncomputable def m213 : Nat → Bool
  | _ => false
noncomputable def g213 : Cfg := { N := 17, live := l213, cut := u213, mu := m213, ret := rets }
theorem s213a : ∀ (f : T.Fl) (Post : AV → List AObj → Prop),
  needP ((0 : Int) ≤ Prod.fst (Prod.snd f) ∧ Prod.fst (Prod.snd f) ≤ (8 : Int))
      (ASpec Try.prog 299 [AV.csl 2 0 0 (Int.toNat (Prod.fst (Prod.snd f))), AV.fn (215 : FuncId) []]
        [AObj.cells
        (T.encFl f)]
        fun (r : AV) (H' : List AObj) =>
        ∃ (x : Int),
        r = AV.int IntKind.i64 x ∧
        H' =
        [AObj.cells
        (T.encFl f)] ∧
        Post (AV.int IntKind.i64 x)
        [AObj.cells
        (T.encFl f)]) →
    ASpec Try.prog 213 [AV.ptr 0 0, AV.fn (215 : FuncId) []] [AObj.cells (T.encFl f)] Post := fun f Post h => Go.Ab.ASpec.of_vc g213 Go.Proofs.Try.func213 (by kernel_rfl) (by kernel_rfl) (by kernel_rfl) (Go.Ab.kc (by kernel_rfl) h)
theorem s213h : ∀ (f : T.Fl) (s : List UInt8) (Post : AV → List AObj → Prop),
  needP ((0 : Int) ≤ Prod.fst (Prod.snd f) ∧ Prod.fst (Prod.snd f) ≤ (8 : Int))
      (ASpec Try.prog 299 [AV.csl 2 0 0 (Int.toNat (Prod.fst (Prod.snd f))), AV.fn (214 : FuncId) [AV.ptr 1 0]]
        [AObj.cells
        (T.encFl f),
        AObj.cells [AV.str { data := List.toArray s }]]
        fun (r : AV) (H' : List AObj) =>
        ∃ (x : Int),
        r = AV.int IntKind.i64 x ∧
        H' =
        [AObj.cells
        (T.encFl f),
        AObj.cells [AV.str { data := List.toArray s }]] ∧
        Post (AV.int IntKind.i64 x)
        [AObj.cells
        (T.encFl f),
        AObj.cells [AV.str { data := List.toArray s }]]) →
    ASpec Try.prog 213 [AV.ptr 0 0, AV.fn (214 : FuncId) [AV.ptr 1 0]] [AObj.cells (T.encFl f), AObj.cells [AV.str { data := List.toArray s }]] Post := fun f s Post h => Go.Ab.ASpec.of_vc g213 Go.Proofs.Try.func213 (by kernel_rfl) (by kernel_rfl) (by kernel_rfl) (Go.Ab.kc (by kernel_rfl) h)
theorem s213b : ∀ (f : T.Fl) (t : Int) (Post : AV → List AObj → Prop),
  needP ((0 : Int) ≤ Prod.fst (Prod.snd f) ∧ Prod.fst (Prod.snd f) ≤ (8 : Int))
      (ASpec Try.prog 299 [AV.csl 2 0 0 (Int.toNat (Prod.fst (Prod.snd f))), AV.fn (300 : FuncId) [AV.ptr 1 0]]
        [AObj.cells
        (T.encFl f),
        AObj.cells [AV.int IntKind.i64 t]]
        fun (r : AV) (H' : List AObj) =>
        ∃ (x : Int),
        r = AV.int IntKind.i64 x ∧
        H' =
        [AObj.cells
        (T.encFl f),
        AObj.cells [AV.int IntKind.i64 t]] ∧
        Post (AV.int IntKind.i64 x)
        [AObj.cells
        (T.encFl f),
        AObj.cells [AV.int IntKind.i64 t]]) →
    ASpec Try.prog 213 [AV.ptr 0 0, AV.fn (300 : FuncId) [AV.ptr 1 0]] [AObj.cells (T.encFl f), AObj.cells [AV.int IntKind.i64 t]] Post := fun f t Post h => Go.Ab.ASpec.of_vc g213 Go.Proofs.Try.func213 (by kernel_rfl) (by kernel_rfl) (by kernel_rfl) (Go.Ab.kc (by kernel_rfl) h)
theorem s213n : ∀ (g : AV) (Post : AV → List AObj → Prop), Post (AV.int IntKind.i64 (-1 : Int)) [] → ASpec Try.prog 213 [AV.nilp, g] [] Post := fun g Post h => Go.Ab.ASpec.of_vc g213 Go.Proofs.Try.func213 (by kernel_rfl) (by kernel_rfl) (by kernel_rfl) (Go.Ab.kc (by kernel_rfl) h)

-- 216
noncomputable def l216 : Nat → List Nat
  | _ => []
noncomputable def u216 : Nat → Bool
  | _ => false
noncomputable def m216 : Nat → Bool
  | _ => false
noncomputable def g216 : Cfg := { N := 8, live := l216, cut := u216, mu := m216, ret := rets }
theorem s216m : ∀ (f : T.Fl) (t : Int) (Post : AV → List AObj → Prop),
  (ASpec Try.prog 213 [AV.ptr 0 0, AV.fn 300 [AV.ptr 1 0]]
      [AObj.cells
        (T.encFl f),
        AObj.cells [AV.int IntKind.i64 t]]
      fun (r : AV) (H' : List AObj) =>
      ∃ (x : Int),
        r = AV.int IntKind.i64 x ∧
        H' =
        [AObj.cells
        (T.encFl f),
        AObj.cells [AV.int IntKind.i64 t]] ∧
        Post (AV.int IntKind.i64 x)
        [AObj.cells
        (T.encFl f),
        AObj.cells [AV.int IntKind.i64 t]]) →
    ASpec Try.prog 216 [AV.ptr 0 0, AV.int IntKind.i64 t] [AObj.cells (T.encFl f)] Post := fun f t Post h => Go.Ab.ASpec.of_vc g216 Go.Proofs.Try.func216 (by kernel_rfl) (by kernel_rfl) (by kernel_rfl) (Go.Ab.kc (by kernel_rfl) h)
theorem s216n : ∀ (t : Int) (Post : AV → List AObj → Prop),
  (ASpec Try.prog 213 [AV.nilp, AV.fn 300 [AV.ptr 0 0]] [AObj.cells [AV.int IntKind.i64 t]] fun (r : AV) (H' : List AObj) =>
      ∃ (x : Int), r = AV.int IntKind.i64 x ∧ H' = [AObj.cells [AV.int IntKind.i64 t]] ∧ Post (AV.int IntKind.i64 x) [AObj.cells [AV.int IntKind.i64 t]]) →
    ASpec Try.prog 216 [AV.nilp, AV.int IntKind.i64 t] [] Post := fun t Post h => Go.Ab.ASpec.of_vc g216 Go.Proofs.Try.func216 (by kernel_rfl) (by kernel_rfl) (by kernel_rfl) (Go.Ab.kc (by kernel_rfl) h)

-- 97
noncomputable def l97 : Nat → List Nat
  | _ => []
noncomputable def u97 : Nat → Bool
  | _ => false
noncomputable def m97 : Nat → Bool
  | _ => false
noncomputable def g97 : Cfg := { N := 9, live := l97, cut := u97, mu := m97, ret := rets }
theorem s97m : ∀ (f : T.Fl) (s : List UInt8) (Post : AV → List AObj → Prop),
  (ASpec Try.prog 213 [AV.ptr 0 0, AV.fn 214 [AV.ptr 1 0]]
      [AObj.cells
        (T.encFl f),
        AObj.cells [AV.str { data := List.toArray s }]]
      fun (r : AV) (H' : List AObj) =>
      ∃ (x : Int),
        r = AV.int IntKind.i64 x ∧
        H' =
        [AObj.cells
        (T.encFl f),
        AObj.cells [AV.str { data := List.toArray s }]] ∧
        Post (AV.bool (decide (x ≥ (0 : Int))))
        [AObj.cells
        (T.encFl f),
        AObj.cells [AV.str { data := List.toArray s }]]) →
    ASpec Try.prog 97 [AV.ptr 0 0, AV.str { data := List.toArray s }] [AObj.cells (T.encFl f)] Post := fun f s Post h => Go.Ab.ASpec.of_vc g97 Go.Proofs.Try.func97 (by kernel_rfl) (by kernel_rfl) (by kernel_rfl) (Go.Ab.kc (by kernel_rfl) h)
theorem s97n : ∀ (s : List UInt8) (Post : AV → List AObj → Prop),
  (ASpec Try.prog 213 [AV.nilp, AV.fn 214 [AV.ptr 0 0]] [AObj.cells [AV.str { data := List.toArray s }]] fun (r : AV) (H' : List AObj) =>
      ∃ (x : Int), r = AV.int IntKind.i64 x ∧ H' = [AObj.cells [AV.str { data := List.toArray s }]] ∧ Post (AV.bool (decide (x ≥ (0 : Int)))) [AObj.cells [AV.str { data := List.toArray s }]]) →
    ASpec Try.prog 97 [AV.nilp, AV.str { data := List.toArray s }] [] Post := fun s Post h => Go.Ab.ASpec.of_vc g97 Go.Proofs.Try.func97 (by kernel_rfl) (by kernel_rfl) (by kernel_rfl) (Go.Ab.kc (by kernel_rfl) h)

-- 98
noncomputable def l98 : Nat → List Nat
  | 4 => [0, 1, 6]
  | 5 => [0, 1, 6]
  | _ => []
noncomputable def u98 : Nat → Bool
  | 4 => true
  | 5 => true
  | _ => false
noncomputable def m98 : Nat → Bool
  | _ => false
noncomputable def g98 : Cfg := { N := 38, live := l98, cut := u98, mu := m98, ret := rets }
noncomputable def c98 : Go.Code := Go.Ab.bodyOf Go.Proofs.Try.f98
noncomputable def q98_0 : Nat → (AV → List AObj → Prop) → AQ := fun (n : Nat) (Post : AV → List AObj → Prop) => endQ Try.prog (resultsOf Try.f98) Post
noncomputable def c98_4 : Go.Code := codeSnd (codeSnd (codeSnd c98))
theorem s98m : ∀ (f : T.Fl) (s : List UInt8) (Post : AV → List AObj → Prop),
  (ASpec Try.prog 213 [AV.ptr 0 0, AV.fn 215 []]
      [AObj.cells
        (T.encFl f)]
      fun (r : AV) (H' : List AObj) =>
      ∃ (x : Int),
        r = AV.int IntKind.i64 x ∧
        H' =
        [AObj.cells
        (T.encFl f)] ∧
        condP (decide (x < (0 : Int)))
        (Post (AV.tup [AV.int IntKind.i64 (0 : Int), AV.bool false])
        [AObj.cells
        (T.encFl f)])
        (ASpec Try.prog 97 [AV.ptr 0 0, AV.str { data := List.toArray s }]
        [AObj.cells
        (T.encFl f)]
        fun (r : AV) (H' : List AObj) =>
        ∃ (x_1 : Bool),
        r = AV.bool x_1 ∧
        H' =
        [AObj.cells
        (T.encFl f)] ∧
        condP x_1
        (Post (AV.tup [AV.int IntKind.i64 (0 : Int), AV.bool false])
        [AObj.cells
        (T.encFl f)])
        (AWP Try.prog 38 1 c98_4 [(0, AV.ptr 0 0), (1, AV.str { data := List.toArray s }), (6, AV.int IntKind.i64 x)]
        [AObj.cells
        (T.encFl f)]
        (q98_0 1 Post)))) →
    ASpec Try.prog 98 [AV.ptr 0 0, AV.str { data := List.toArray s }] [AObj.cells (T.encFl f)] Post := fun f s Post h => Go.Ab.ASpec.of_vc g98 Go.Proofs.Try.func98 (by kernel_rfl) (by kernel_rfl) (by kernel_rfl) (Go.Ab.kc (by kernel_rfl) h)
theorem s98n : ∀ (s : List UInt8) (Post : AV → List AObj → Prop),
  (ASpec Try.prog 213 [AV.nilp, AV.fn 215 []] [] fun (r : AV) (H' : List AObj) =>
      ∃ (x : Int),
        r = AV.int IntKind.i64 x ∧
        H' = [] ∧
        condP (decide (x < (0 : Int))) (Post (AV.tup [AV.int IntKind.i64 (0 : Int), AV.bool false]) [])
        (ASpec Try.prog 97 [AV.nilp, AV.str { data := List.toArray s }] [] fun (r : AV) (H' : List AObj) =>
        ∃ (x_1 : Bool),
        r = AV.bool x_1 ∧
        H' = [] ∧
        condP x_1 (Post (AV.tup [AV.int IntKind.i64 (0 : Int), AV.bool false]) [])
        (AWP Try.prog 38 0 c98_4 [(0, AV.nilp), (1, AV.str { data := List.toArray s }), (6, AV.int IntKind.i64 x)] []
        (q98_0 0 Post)))) →
    ASpec Try.prog 98 [AV.nilp, AV.str { data := List.toArray s }] [] Post := fun s Post h => Go.Ab.ASpec.of_vc g98 Go.Proofs.Try.func98 (by kernel_rfl) (by kernel_rfl) (by kernel_rfl) (Go.Ab.kc (by kernel_rfl) h)
noncomputable def c98_5 : Go.Code := codeSnd c98_4
theorem v98_4 : ∀ (f : T.Fl) (s : List UInt8) (i : Int) (n : Nat) (Post : AV → List AObj → Prop),
  AWP Try.prog 38 n c98_5 [(0, AV.ptr 0 0), (1, AV.str { data := List.toArray s }), (6, AV.int IntKind.i64 i)]
      [AObj.cells
        [AV.int IntKind.i64 (Prod.fst (List.getD (Prod.fst f) 0 T.noSeat)), AV.str { data := List.toArray (Prod.snd (List.getD (Prod.fst f) 0 T.noSeat)) },
        AV.int IntKind.i64 (Prod.fst (List.getD (Prod.fst f) 1 T.noSeat)), AV.str { data := List.toArray (Prod.snd (List.getD (Prod.fst f) 1 T.noSeat)) },
        AV.int IntKind.i64 (Prod.fst (List.getD (Prod.fst f) 2 T.noSeat)), AV.str { data := List.toArray (Prod.snd (List.getD (Prod.fst f) 2 T.noSeat)) },
        AV.int IntKind.i64 (Prod.fst (List.getD (Prod.fst f) 3 T.noSeat)), AV.str { data := List.toArray (Prod.snd (List.getD (Prod.fst f) 3 T.noSeat)) },
        AV.int IntKind.i64 (Prod.fst (List.getD (Prod.fst f) 4 T.noSeat)), AV.str { data := List.toArray (Prod.snd (List.getD (Prod.fst f) 4 T.noSeat)) },
        AV.int IntKind.i64 (Prod.fst (List.getD (Prod.fst f) 5 T.noSeat)), AV.str { data := List.toArray (Prod.snd (List.getD (Prod.fst f) 5 T.noSeat)) },
        AV.int IntKind.i64 (Prod.fst (List.getD (Prod.fst f) 6 T.noSeat)), AV.str { data := List.toArray (Prod.snd (List.getD (Prod.fst f) 6 T.noSeat)) },
        AV.int IntKind.i64 (Prod.fst (List.getD (Prod.fst f) 7 T.noSeat)), AV.str { data := List.toArray (Prod.snd (List.getD (Prod.fst f) 7 T.noSeat)) },
        AV.int IntKind.i64 (Prod.fst (Prod.snd f)), AV.int IntKind.i64 (IntKind.wrap IntKind.i64 (Prod.snd (Prod.snd f) + (1 : Int)))]]
      (q98_0 n Post) →
    AWP Try.prog 38 n c98_4 [(0, AV.ptr 0 0), (1, AV.str { data := List.toArray s }), (6, AV.int IntKind.i64 i)] [AObj.cells (T.encFl f)] (q98_0 n Post) := fun f s i n Post h => Go.Ab.awp_sound g98 n _ _ _ _ (Go.Ab.kc (by kernel_rfl) h)
theorem v98_5k0 : ∀ (f : T.Fl) (s : List UInt8) (n : Nat) (Post : AV → List AObj → Prop),
  needP ((0 : Int) ≤ (0 : Int) ∧ (0 : Int) < (8 : Int))
      (Post (AV.tup [AV.int IntKind.i64 (Prod.snd (Prod.snd f)), AV.bool true])
        [AObj.cells
        [AV.int IntKind.i64 (Prod.snd (Prod.snd f)), AV.str { data := List.toArray s }, AV.int IntKind.i64 (Prod.fst (List.getD (Prod.fst f) 1 T.noSeat)),
        AV.str { data := List.toArray (Prod.snd (List.getD (Prod.fst f) 1 T.noSeat)) }, AV.int IntKind.i64 (Prod.fst (List.getD (Prod.fst f) 2 T.noSeat)),
        AV.str { data := List.toArray (Prod.snd (List.getD (Prod.fst f) 2 T.noSeat)) }, AV.int IntKind.i64 (Prod.fst (List.getD (Prod.fst f) 3 T.noSeat)),
        AV.str { data := List.toArray (Prod.snd (List.getD (Prod.fst f) 3 T.noSeat)) }, AV.int IntKind.i64 (Prod.fst (List.getD (Prod.fst f) 4 T.noSeat)),
        AV.str { data := List.toArray (Prod.snd (List.getD (Prod.fst f) 4 T.noSeat)) }, AV.int IntKind.i64 (Prod.fst (List.getD (Prod.fst f) 5 T.noSeat)),
        AV.str { data := List.toArray (Prod.snd (List.getD (Prod.fst f) 5 T.noSeat)) }, AV.int IntKind.i64 (Prod.fst (List.getD (Prod.fst f) 6 T.noSeat)),
        AV.str { data := List.toArray (Prod.snd (List.getD (Prod.fst f) 6 T.noSeat)) }, AV.int IntKind.i64 (Prod.fst (List.getD (Prod.fst f) 7 T.noSeat)),
        AV.str { data := List.toArray (Prod.snd (List.getD (Prod.fst f) 7 T.noSeat)) }, AV.int IntKind.i64 (Prod.fst (Prod.snd f)), AV.int IntKind.i64 (Prod.snd (Prod.snd f))]]) →
    AWP Try.prog 38 n c98_5 [(0, AV.ptr 0 0), (1, AV.str { data := List.toArray s }), (6, AV.int IntKind.i64 (0 : Int))] [AObj.cells (T.encFl f)]
      (q98_0 n Post) := fun f s n Post h => Go.Ab.awp_sound g98 n _ _ _ _ (Go.Ab.kc (by kernel_rfl) h)
theorem v98_5k1 : ∀ (f : T.Fl) (s : List UInt8) (n : Nat) (Post : AV → List AObj → Prop),
  needP ((0 : Int) ≤ (1 : Int) ∧ (1 : Int) < (8 : Int))
      (Post (AV.tup [AV.int IntKind.i64 (Prod.snd (Prod.snd f)), AV.bool true])
        [AObj.cells
        [AV.int IntKind.i64 (Prod.fst (List.getD (Prod.fst f) 0 T.noSeat)), AV.str { data := List.toArray (Prod.snd (List.getD (Prod.fst f) 0 T.noSeat)) },
        AV.int IntKind.i64 (Prod.snd (Prod.snd f)), AV.str { data := List.toArray s }, AV.int IntKind.i64 (Prod.fst (List.getD (Prod.fst f) 2 T.noSeat)),
        AV.str { data := List.toArray (Prod.snd (List.getD (Prod.fst f) 2 T.noSeat)) }, AV.int IntKind.i64 (Prod.fst (List.getD (Prod.fst f) 3 T.noSeat)),
        AV.str { data := List.toArray (Prod.snd (List.getD (Prod.fst f) 3 T.noSeat)) }, AV.int IntKind.i64 (Prod.fst (List.getD (Prod.fst f) 4 T.noSeat)),
        AV.str { data := List.toArray (Prod.snd (List.getD (Prod.fst f) 4 T.noSeat)) }, AV.int IntKind.i64 (Prod.fst (List.getD (Prod.fst f) 5 T.noSeat)),
        AV.str { data := List.toArray (Prod.snd (List.getD (Prod.fst f) 5 T.noSeat)) }, AV.int IntKind.i64 (Prod.fst (List.getD (Prod.fst f) 6 T.noSeat)),
        AV.str { data := List.toArray (Prod.snd (List.getD (Prod.fst f) 6 T.noSeat)) }, AV.int IntKind.i64 (Prod.fst (List.getD (Prod.fst f) 7 T.noSeat)),
        AV.str { data := List.toArray (Prod.snd (List.getD (Prod.fst f) 7 T.noSeat)) }, AV.int IntKind.i64 (Prod.fst (Prod.snd f)), AV.int IntKind.i64 (Prod.snd (Prod.snd f))]]) →
    AWP Try.prog 38 n c98_5 [(0, AV.ptr 0 0), (1, AV.str { data := List.toArray s }), (6, AV.int IntKind.i64 (1 : Int))] [AObj.cells (T.encFl f)]
      (q98_0 n Post) := fun f s n Post h => Go.Ab.awp_sound g98 n _ _ _ _ (Go.Ab.kc (by kernel_rfl) h)
theorem v98_5k2 : ∀ (f : T.Fl) (s : List UInt8) (n : Nat) (Post : AV → List AObj → Prop),
  needP ((0 : Int) ≤ (2 : Int) ∧ (2 : Int) < (8 : Int))
      (Post (AV.tup [AV.int IntKind.i64 (Prod.snd (Prod.snd f)), AV.bool true])
        [AObj.cells
        [AV.int IntKind.i64 (Prod.fst (List.getD (Prod.fst f) 0 T.noSeat)), AV.str { data := List.toArray (Prod.snd (List.getD (Prod.fst f) 0 T.noSeat)) },
        AV.int IntKind.i64 (Prod.fst (List.getD (Prod.fst f) 1 T.noSeat)), AV.str { data := List.toArray (Prod.snd (List.getD (Prod.fst f) 1 T.noSeat)) },
        AV.int IntKind.i64 (Prod.snd (Prod.snd f)), AV.str { data := List.toArray s }, AV.int IntKind.i64 (Prod.fst (List.getD (Prod.fst f) 3 T.noSeat)),
        AV.str { data := List.toArray (Prod.snd (List.getD (Prod.fst f) 3 T.noSeat)) }, AV.int IntKind.i64 (Prod.fst (List.getD (Prod.fst f) 4 T.noSeat)),
        AV.str { data := List.toArray (Prod.snd (List.getD (Prod.fst f) 4 T.noSeat)) }, AV.int IntKind.i64 (Prod.fst (List.getD (Prod.fst f) 5 T.noSeat)),
        AV.str { data := List.toArray (Prod.snd (List.getD (Prod.fst f) 5 T.noSeat)) }, AV.int IntKind.i64 (Prod.fst (List.getD (Prod.fst f) 6 T.noSeat)),
        AV.str { data := List.toArray (Prod.snd (List.getD (Prod.fst f) 6 T.noSeat)) }, AV.int IntKind.i64 (Prod.fst (List.getD (Prod.fst f) 7 T.noSeat)),
        AV.str { data := List.toArray (Prod.snd (List.getD (Prod.fst f) 7 T.noSeat)) }, AV.int IntKind.i64 (Prod.fst (Prod.snd f)), AV.int IntKind.i64 (Prod.snd (Prod.snd f))]]) →
    AWP Try.prog 38 n c98_5 [(0, AV.ptr 0 0), (1, AV.str { data := List.toArray s }), (6, AV.int IntKind.i64 (2 : Int))] [AObj.cells (T.encFl f)]
      (q98_0 n Post) := fun f s n Post h => Go.Ab.awp_sound g98 n _ _ _ _ (Go.Ab.kc (by kernel_rfl) h)
theorem v98_5k3 : ∀ (f : T.Fl) (s : List UInt8) (n : Nat) (Post : AV → List AObj → Prop),
  needP ((0 : Int) ≤ (3 : Int) ∧ (3 : Int) < (8 : Int))
      (Post (AV.tup [AV.int IntKind.i64 (Prod.snd (Prod.snd f)), AV.bool true])
        [AObj.cells
        [AV.int IntKind.i64 (Prod.fst (List.getD (Prod.fst f) 0 T.noSeat)), AV.str { data := List.toArray (Prod.snd (List.getD (Prod.fst f) 0 T.noSeat)) },
        AV.int IntKind.i64 (Prod.fst (List.getD (Prod.fst f) 1 T.noSeat)), AV.str { data := List.toArray (Prod.snd (List.getD (Prod.fst f) 1 T.noSeat)) },
        AV.int IntKind.i64 (Prod.fst (List.getD (Prod.fst f) 2 T.noSeat)), AV.str { data := List.toArray (Prod.snd (List.getD (Prod.fst f) 2 T.noSeat)) },
        AV.int IntKind.i64 (Prod.snd (Prod.snd f)), AV.str { data := List.toArray s }, AV.int IntKind.i64 (Prod.fst (List.getD (Prod.fst f) 4 T.noSeat)),
        AV.str { data := List.toArray (Prod.snd (List.getD (Prod.fst f) 4 T.noSeat)) }, AV.int IntKind.i64 (Prod.fst (List.getD (Prod.fst f) 5 T.noSeat)),
        AV.str { data := List.toArray (Prod.snd (List.getD (Prod.fst f) 5 T.noSeat)) }, AV.int IntKind.i64 (Prod.fst (List.getD (Prod.fst f) 6 T.noSeat)),
        AV.str { data := List.toArray (Prod.snd (List.getD (Prod.fst f) 6 T.noSeat)) }, AV.int IntKind.i64 (Prod.fst (List.getD (Prod.fst f) 7 T.noSeat)),
        AV.str { data := List.toArray (Prod.snd (List.getD (Prod.fst f) 7 T.noSeat)) }, AV.int IntKind.i64 (Prod.fst (Prod.snd f)), AV.int IntKind.i64 (Prod.snd (Prod.snd f))]]) →
    AWP Try.prog 38 n c98_5 [(0, AV.ptr 0 0), (1, AV.str { data := List.toArray s }), (6, AV.int IntKind.i64 (3 : Int))] [AObj.cells (T.encFl f)]
      (q98_0 n Post) := fun f s n Post h => Go.Ab.awp_sound g98 n _ _ _ _ (Go.Ab.kc (by kernel_rfl) h)
theorem v98_5k4 : ∀ (f : T.Fl) (s : List UInt8) (n : Nat) (Post : AV → List AObj → Prop),
  needP ((0 : Int) ≤ (4 : Int) ∧ (4 : Int) < (8 : Int))
      (Post (AV.tup [AV.int IntKind.i64 (Prod.snd (Prod.snd f)), AV.bool true])
        [AObj.cells
        [AV.int IntKind.i64 (Prod.fst (List.getD (Prod.fst f) 0 T.noSeat)), AV.str { data := List.toArray (Prod.snd (List.getD (Prod.fst f) 0 T.noSeat)) },
        AV.int IntKind.i64 (Prod.fst (List.getD (Prod.fst f) 1 T.noSeat)), AV.str { data := List.toArray (Prod.snd (List.getD (Prod.fst f) 1 T.noSeat)) },
        AV.int IntKind.i64 (Prod.fst (List.getD (Prod.fst f) 2 T.noSeat)), AV.str { data := List.toArray (Prod.snd (List.getD (Prod.fst f) 2 T.noSeat)) },
        AV.int IntKind.i64 (Prod.fst (List.getD (Prod.fst f) 3 T.noSeat)), AV.str { data := List.toArray (Prod.snd (List.getD (Prod.fst f) 3 T.noSeat)) },
        AV.int IntKind.i64 (Prod.snd (Prod.snd f)), AV.str { data := List.toArray s }, AV.int IntKind.i64 (Prod.fst (List.getD (Prod.fst f) 5 T.noSeat)),
        AV.str { data := List.toArray (Prod.snd (List.getD (Prod.fst f) 5 T.noSeat)) }, AV.int IntKind.i64 (Prod.fst (List.getD (Prod.fst f) 6 T.noSeat)),
        AV.str { data := List.toArray (Prod.snd (List.getD (Prod.fst f) 6 T.noSeat)) }, AV.int IntKind.i64 (Prod.fst (List.getD (Prod.fst f) 7 T.noSeat)),
        AV.str { data := List.toArray (Prod.snd (List.getD (Prod.fst f) 7 T.noSeat)) }, AV.int IntKind.i64 (Prod.fst (Prod.snd f)), AV.int IntKind.i64 (Prod.snd (Prod.snd f))]]) →
    AWP Try.prog 38 n c98_5 [(0, AV.ptr 0 0), (1, AV.str { data := List.toArray s }), (6, AV.int IntKind.i64 (4 : Int))] [AObj.cells (T.encFl f)]
      (q98_0 n Post) := fun f s n Post h => Go.Ab.awp_sound g98 n _ _ _ _ (Go.Ab.kc (by kernel_rfl) h)
theorem v98_5k5 : ∀ (f : T.Fl) (s : List UInt8) (n : Nat) (Post : AV → List AObj → Prop),
  needP ((0 : Int) ≤ (5 : Int) ∧ (5 : Int) < (8 : Int))
      (Post (AV.tup [AV.int IntKind.i64 (Prod.snd (Prod.snd f)), AV.bool true])
        [AObj.cells
        [AV.int IntKind.i64 (Prod.fst (List.getD (Prod.fst f) 0 T.noSeat)), AV.str { data := List.toArray (Prod.snd (List.getD (Prod.fst f) 0 T.noSeat)) },
        AV.int IntKind.i64 (Prod.fst (List.getD (Prod.fst f) 1 T.noSeat)), AV.str { data := List.toArray (Prod.snd (List.getD (Prod.fst f) 1 T.noSeat)) },
        AV.int IntKind.i64 (Prod.fst (List.getD (Prod.fst f) 2 T.noSeat)), AV.str { data := List.toArray (Prod.snd (List.getD (Prod.fst f) 2 T.noSeat)) },
        AV.int IntKind.i64 (Prod.fst (List.getD (Prod.fst f) 3 T.noSeat)), AV.str { data := List.toArray (Prod.snd (List.getD (Prod.fst f) 3 T.noSeat)) },
        AV.int IntKind.i64 (Prod.fst (List.getD (Prod.fst f) 4 T.noSeat)), AV.str { data := List.toArray (Prod.snd (List.getD (Prod.fst f) 4 T.noSeat)) },
        AV.int IntKind.i64 (Prod.snd (Prod.snd f)), AV.str { data := List.toArray s }, AV.int IntKind.i64 (Prod.fst (List.getD (Prod.fst f) 6 T.noSeat)),
        AV.str { data := List.toArray (Prod.snd (List.getD (Prod.fst f) 6 T.noSeat)) }, AV.int IntKind.i64 (Prod.fst (List.getD (Prod.fst f) 7 T.noSeat)),
        AV.str { data := List.toArray (Prod.snd (List.getD (Prod.fst f) 7 T.noSeat)) }, AV.int IntKind.i64 (Prod.fst (Prod.snd f)), AV.int IntKind.i64 (Prod.snd (Prod.snd f))]]) →
    AWP Try.prog 38 n c98_5 [(0, AV.ptr 0 0), (1, AV.str { data := List.toArray s }), (6, AV.int IntKind.i64 (5 : Int))] [AObj.cells (T.encFl f)]
      (q98_0 n Post) := fun f s n Post h => Go.Ab.awp_sound g98 n _ _ _ _ (Go.Ab.kc (by kernel_rfl) h)
theorem v98_5k6 : ∀ (f : T.Fl) (s : List UInt8) (n : Nat) (Post : AV → List AObj → Prop),
  needP ((0 : Int) ≤ (6 : Int) ∧ (6 : Int) < (8 : Int))
      (Post (AV.tup [AV.int IntKind.i64 (Prod.snd (Prod.snd f)), AV.bool true])
        [AObj.cells
        [AV.int IntKind.i64 (Prod.fst (List.getD (Prod.fst f) 0 T.noSeat)), AV.str { data := List.toArray (Prod.snd (List.getD (Prod.fst f) 0 T.noSeat)) },
        AV.int IntKind.i64 (Prod.fst (List.getD (Prod.fst f) 1 T.noSeat)), AV.str { data := List.toArray (Prod.snd (List.getD (Prod.fst f) 1 T.noSeat)) },
        AV.int IntKind.i64 (Prod.fst (List.getD (Prod.fst f) 2 T.noSeat)), AV.str { data := List.toArray (Prod.snd (List.getD (Prod.fst f) 2 T.noSeat)) },
        AV.int IntKind.i64 (Prod.fst (List.getD (Prod.fst f) 3 T.noSeat)), AV.str { data := List.toArray (Prod.snd (List.getD (Prod.fst f) 3 T.noSeat)) },
        AV.int IntKind.i64 (Prod.fst (List.getD (Prod.fst f) 4 T.noSeat)), AV.str { data := List.toArray (Prod.snd (List.getD (Prod.fst f) 4 T.noSeat)) },
        AV.int IntKind.i64 (Prod.fst (List.getD (Prod.fst f) 5 T.noSeat)), AV.str { data := List.toArray (Prod.snd (List.getD (Prod.fst f) 5 T.noSeat)) },
        AV.int IntKind.i64 (Prod.snd (Prod.snd f)), AV.str { data := List.toArray s }, AV.int IntKind.i64 (Prod.fst (List.getD (Prod.fst f) 7 T.noSeat)),
        AV.str { data := List.toArray (Prod.snd (List.getD (Prod.fst f) 7 T.noSeat)) }, AV.int IntKind.i64 (Prod.fst (Prod.snd f)), AV.int IntKind.i64 (Prod.snd (Prod.snd f))]]) →
    AWP Try.prog 38 n c98_5 [(0, AV.ptr 0 0), (1, AV.str { data := List.toArray s }), (6, AV.int IntKind.i64 (6 : Int))] [AObj.cells (T.encFl f)]
      (q98_0 n Post) := fun f s n Post h => Go.Ab.awp_sound g98 n _ _ _ _ (Go.Ab.kc (by kernel_rfl) h)
theorem v98_5k7 : ∀ (f : T.Fl) (s : List UInt8) (n : Nat) (Post : AV → List AObj → Prop),
  needP ((0 : Int) ≤ (7 : Int) ∧ (7 : Int) < (8 : Int))
      (Post (AV.tup [AV.int IntKind.i64 (Prod.snd (Prod.snd f)), AV.bool true])
        [AObj.cells
        [AV.int IntKind.i64 (Prod.fst (List.getD (Prod.fst f) 0 T.noSeat)), AV.str { data := List.toArray (Prod.snd (List.getD (Prod.fst f) 0 T.noSeat)) },
        AV.int IntKind.i64 (Prod.fst (List.getD (Prod.fst f) 1 T.noSeat)), AV.str { data := List.toArray (Prod.snd (List.getD (Prod.fst f) 1 T.noSeat)) },
        AV.int IntKind.i64 (Prod.fst (List.getD (Prod.fst f) 2 T.noSeat)), AV.str { data := List.toArray (Prod.snd (List.getD (Prod.fst f) 2 T.noSeat)) },
        AV.int IntKind.i64 (Prod.fst (List.getD (Prod.fst f) 3 T.noSeat)), AV.str { data := List.toArray (Prod.snd (List.getD (Prod.fst f) 3 T.noSeat)) },
        AV.int IntKind.i64 (Prod.fst (List.getD (Prod.fst f) 4 T.noSeat)), AV.str { data := List.toArray (Prod.snd (List.getD (Prod.fst f) 4 T.noSeat)) },
        AV.int IntKind.i64 (Prod.fst (List.getD (Prod.fst f) 5 T.noSeat)), AV.str { data := List.toArray (Prod.snd (List.getD (Prod.fst f) 5 T.noSeat)) },
        AV.int IntKind.i64 (Prod.fst (List.getD (Prod.fst f) 6 T.noSeat)), AV.str { data := List.toArray (Prod.snd (List.getD (Prod.fst f) 6 T.noSeat)) },
        AV.int IntKind.i64 (Prod.snd (Prod.snd f)), AV.str { data := List.toArray s }, AV.int IntKind.i64 (Prod.fst (Prod.snd f)), AV.int IntKind.i64 (Prod.snd (Prod.snd f))]]) →
    AWP Try.prog 38 n c98_5 [(0, AV.ptr 0 0), (1, AV.str { data := List.toArray s }), (6, AV.int IntKind.i64 (7 : Int))] [AObj.cells (T.encFl f)]
      (q98_0 n Post) := fun f s n Post h => Go.Ab.awp_sound g98 n _ _ _ _ (Go.Ab.kc (by kernel_rfl) h)

-- 99
noncomputable def l99 : Nat → List Nat
  | 4 => [0, 6]
  | _ => []
noncomputable def u99 : Nat → Bool
  | 4 => true
  | _ => false
noncomputable def m99 : Nat → Bool
  | _ => false
noncomputable def g99 : Cfg := { N := 27, live := l99, cut := u99, mu := m99, ret := rets }
noncomputable def c99 : Go.Code := Go.Ab.bodyOf Go.Proofs.Try.f99
noncomputable def q99_0 : Nat → (AV → List AObj → Prop) → AQ := fun (n : Nat) (Post : AV → List AObj → Prop) => endQ Try.prog (resultsOf Try.f99) Post
noncomputable def c99_4 : Go.Code := codeSnd (codeSnd (codeSnd c99))
theorem s99m : ∀ (f : T.Fl) (t : Int) (Post : AV → List AObj → Prop),
  (ASpec Try.prog 216 [AV.ptr 0 0, AV.int IntKind.i64 t]
      [AObj.cells
        (T.encFl f)]
      fun (r : AV) (H' : List AObj) =>
      ∃ (x : Int),
        r = AV.int IntKind.i64 x ∧
        H' =
        [AObj.cells
        (T.encFl f)] ∧
        condP (decide (x < (0 : Int)))
        (Post (AV.tup [AV.str { data := #[] }, AV.bool false])
        [AObj.cells
        (T.encFl f)])
        (AWP Try.prog 27 1 c99_4 [(0, AV.ptr 0 0), (6, AV.int IntKind.i64 x)]
        [AObj.cells
        (T.encFl f)]
        (q99_0 1 Post))) →
    ASpec Try.prog 99 [AV.ptr 0 0, AV.int IntKind.i64 t] [AObj.cells (T.encFl f)] Post := fun f t Post h => Go.Ab.ASpec.of_vc g99 Go.Proofs.Try.func99 (by kernel_rfl) (by kernel_rfl) (by kernel_rfl) (Go.Ab.kc (by kernel_rfl) h)
theorem s99n : ∀ (t : Int) (Post : AV → List AObj → Prop),
  (ASpec Try.prog 216 [AV.nilp, AV.int IntKind.i64 t] [] fun (r : AV) (H' : List AObj) =>
      ∃ (x : Int),
        r = AV.int IntKind.i64 x ∧
        H' = [] ∧
        condP (decide (x < (0 : Int))) (Post (AV.tup [AV.str { data := #[] }, AV.bool false]) [])
        (AWP Try.prog 27 0 c99_4 [(0, AV.nilp), (6, AV.int IntKind.i64 x)] [] (q99_0 0 Post))) →
    ASpec Try.prog 99 [AV.nilp, AV.int IntKind.i64 t] [] Post := fun t Post h => Go.Ab.ASpec.of_vc g99 Go.Proofs.Try.func99 (by kernel_rfl) (by kernel_rfl) (by kernel_rfl) (Go.Ab.kc (by kernel_rfl) h)
theorem v99_4k0 : ∀ (f : T.Fl) (n : Nat) (Post : AV → List AObj → Prop),
  needP ((0 : Int) ≤ (0 : Int) ∧ (0 : Int) < (8 : Int))
      (needP ((0 : Int) ≤ (0 : Int) ∧ (0 : Int) < (8 : Int))
        (Post (AV.tup [AV.str { data := List.toArray (Prod.snd (List.getD (Prod.fst f) 0 T.noSeat)) }, AV.bool true])
        [AObj.cells
        [AV.int IntKind.i64 (0 : Int), AV.str { data := #[] }, AV.int IntKind.i64 (Prod.fst (List.getD (Prod.fst f) 1 T.noSeat)),
        AV.str { data := List.toArray (Prod.snd (List.getD (Prod.fst f) 1 T.noSeat)) }, AV.int IntKind.i64 (Prod.fst (List.getD (Prod.fst f) 2 T.noSeat)),
        AV.str { data := List.toArray (Prod.snd (List.getD (Prod.fst f) 2 T.noSeat)) }, AV.int IntKind.i64 (Prod.fst (List.getD (Prod.fst f) 3 T.noSeat)),
        AV.str { data := List.toArray (Prod.snd (List.getD (Prod.fst f) 3 T.noSeat)) }, AV.int IntKind.i64 (Prod.fst (List.getD (Prod.fst f) 4 T.noSeat)),
        AV.str { data := List.toArray (Prod.snd (List.getD (Prod.fst f) 4 T.noSeat)) }, AV.int IntKind.i64 (Prod.fst (List.getD (Prod.fst f) 5 T.noSeat)),
        AV.str { data := List.toArray (Prod.snd (List.getD (Prod.fst f) 5 T.noSeat)) }, AV.int IntKind.i64 (Prod.fst (List.getD (Prod.fst f) 6 T.noSeat)),
        AV.str { data := List.toArray (Prod.snd (List.getD (Prod.fst f) 6 T.noSeat)) }, AV.int IntKind.i64 (Prod.fst (List.getD (Prod.fst f) 7 T.noSeat)),
        AV.str { data := List.toArray (Prod.snd (List.getD (Prod.fst f) 7 T.noSeat)) }, AV.int IntKind.i64 (Prod.fst (Prod.snd f)), AV.int IntKind.i64 (Prod.snd (Prod.snd f))]])) →
    AWP Try.prog 27 n c99_4 [(0, AV.ptr 0 0), (6, AV.int IntKind.i64 (0 : Int))] [AObj.cells (T.encFl f)] (q99_0 n Post) := fun f n Post h => Go.Ab.awp_sound g99 n _ _ _ _ (Go.Ab.kc (by kernel_rfl) h)
theorem v99_4k1 : ∀ (f : T.Fl) (n : Nat) (Post : AV → List AObj → Prop),
  needP ((0 : Int) ≤ (1 : Int) ∧ (1 : Int) < (8 : Int))
      (needP ((0 : Int) ≤ (1 : Int) ∧ (1 : Int) < (8 : Int))
        (Post (AV.tup [AV.str { data := List.toArray (Prod.snd (List.getD (Prod.fst f) 1 T.noSeat)) }, AV.bool true])
        [AObj.cells
        [AV.int IntKind.i64 (Prod.fst (List.getD (Prod.fst f) 0 T.noSeat)), AV.str { data := List.toArray (Prod.snd (List.getD (Prod.fst f) 0 T.noSeat)) },
        AV.int IntKind.i64 (0 : Int), AV.str { data := #[] }, AV.int IntKind.i64 (Prod.fst (List.getD (Prod.fst f) 2 T.noSeat)),
        AV.str { data := List.toArray (Prod.snd (List.getD (Prod.fst f) 2 T.noSeat)) }, AV.int IntKind.i64 (Prod.fst (List.getD (Prod.fst f) 3 T.noSeat)),
        AV.str { data := List.toArray (Prod.snd (List.getD (Prod.fst f) 3 T.noSeat)) }, AV.int IntKind.i64 (Prod.fst (List.getD (Prod.fst f) 4 T.noSeat)),
        AV.str { data := List.toArray (Prod.snd (List.getD (Prod.fst f) 4 T.noSeat)) }, AV.int IntKind.i64 (Prod.fst (List.getD (Prod.fst f) 5 T.noSeat)),
        AV.str { data := List.toArray (Prod.snd (List.getD (Prod.fst f) 5 T.noSeat)) }, AV.int IntKind.i64 (Prod.fst (List.getD (Prod.fst f) 6 T.noSeat)),
        AV.str { data := List.toArray (Prod.snd (List.getD (Prod.fst f) 6 T.noSeat)) }, AV.int IntKind.i64 (Prod.fst (List.getD (Prod.fst f) 7 T.noSeat)),
        AV.str { data := List.toArray (Prod.snd (List.getD (Prod.fst f) 7 T.noSeat)) }, AV.int IntKind.i64 (Prod.fst (Prod.snd f)), AV.int IntKind.i64 (Prod.snd (Prod.snd f))]])) →
    AWP Try.prog 27 n c99_4 [(0, AV.ptr 0 0), (6, AV.int IntKind.i64 (1 : Int))] [AObj.cells (T.encFl f)] (q99_0 n Post) := fun f n Post h => Go.Ab.awp_sound g99 n _ _ _ _ (Go.Ab.kc (by kernel_rfl) h)
theorem v99_4k2 : ∀ (f : T.Fl) (n : Nat) (Post : AV → List AObj → Prop),
  needP ((0 : Int) ≤ (2 : Int) ∧ (2 : Int) < (8 : Int))
      (needP ((0 : Int) ≤ (2 : Int) ∧ (2 : Int) < (8 : Int))
        (Post (AV.tup [AV.str { data := List.toArray (Prod.snd (List.getD (Prod.fst f) 2 T.noSeat)) }, AV.bool true])
        [AObj.cells
        [AV.int IntKind.i64 (Prod.fst (List.getD (Prod.fst f) 0 T.noSeat)), AV.str { data := List.toArray (Prod.snd (List.getD (Prod.fst f) 0 T.noSeat)) },
        AV.int IntKind.i64 (Prod.fst (List.getD (Prod.fst f) 1 T.noSeat)), AV.str { data := List.toArray (Prod.snd (List.getD (Prod.fst f) 1 T.noSeat)) },
        AV.int IntKind.i64 (0 : Int), AV.str { data := #[] }, AV.int IntKind.i64 (Prod.fst (List.getD (Prod.fst f) 3 T.noSeat)),
        AV.str { data := List.toArray (Prod.snd (List.getD (Prod.fst f) 3 T.noSeat)) }, AV.int IntKind.i64 (Prod.fst (List.getD (Prod.fst f) 4 T.noSeat)),
        AV.str { data := List.toArray (Prod.snd (List.getD (Prod.fst f) 4 T.noSeat)) }, AV.int IntKind.i64 (Prod.fst (List.getD (Prod.fst f) 5 T.noSeat)),
        AV.str { data := List.toArray (Prod.snd (List.getD (Prod.fst f) 5 T.noSeat)) }, AV.int IntKind.i64 (Prod.fst (List.getD (Prod.fst f) 6 T.noSeat)),
        AV.str { data := List.toArray (Prod.snd (List.getD (Prod.fst f) 6 T.noSeat)) }, AV.int IntKind.i64 (Prod.fst (List.getD (Prod.fst f) 7 T.noSeat)),
        AV.str { data := List.toArray (Prod.snd (List.getD (Prod.fst f) 7 T.noSeat)) }, AV.int IntKind.i64 (Prod.fst (Prod.snd f)), AV.int IntKind.i64 (Prod.snd (Prod.snd f))]])) →
    AWP Try.prog 27 n c99_4 [(0, AV.ptr 0 0), (6, AV.int IntKind.i64 (2 : Int))] [AObj.cells (T.encFl f)] (q99_0 n Post) := fun f n Post h => Go.Ab.awp_sound g99 n _ _ _ _ (Go.Ab.kc (by kernel_rfl) h)
theorem v99_4k3 : ∀ (f : T.Fl) (n : Nat) (Post : AV → List AObj → Prop),
  needP ((0 : Int) ≤ (3 : Int) ∧ (3 : Int) < (8 : Int))
      (needP ((0 : Int) ≤ (3 : Int) ∧ (3 : Int) < (8 : Int))
        (Post (AV.tup [AV.str { data := List.toArray (Prod.snd (List.getD (Prod.fst f) 3 T.noSeat)) }, AV.bool true])
        [AObj.cells
        [AV.int IntKind.i64 (Prod.fst (List.getD (Prod.fst f) 0 T.noSeat)), AV.str { data := List.toArray (Prod.snd (List.getD (Prod.fst f) 0 T.noSeat)) },
        AV.int IntKind.i64 (Prod.fst (List.getD (Prod.fst f) 1 T.noSeat)), AV.str { data := List.toArray (Prod.snd (List.getD (Prod.fst f) 1 T.noSeat)) },
        AV.int IntKind.i64 (Prod.fst (List.getD (Prod.fst f) 2 T.noSeat)), AV.str { data := List.toArray (Prod.snd (List.getD (Prod.fst f) 2 T.noSeat)) },
        AV.int IntKind.i64 (0 : Int), AV.str { data := #[] }, AV.int IntKind.i64 (Prod.fst (List.getD (Prod.fst f) 4 T.noSeat)),
        AV.str { data := List.toArray (Prod.snd (List.getD (Prod.fst f) 4 T.noSeat)) }, AV.int IntKind.i64 (Prod.fst (List.getD (Prod.fst f) 5 T.noSeat)),
        AV.str { data := List.toArray (Prod.snd (List.getD (Prod.fst f) 5 T.noSeat)) }, AV.int IntKind.i64 (Prod.fst (List.getD (Prod.fst f) 6 T.noSeat)),
        AV.str { data := List.toArray (Prod.snd (List.getD (Prod.fst f) 6 T.noSeat)) }, AV.int IntKind.i64 (Prod.fst (List.getD (Prod.fst f) 7 T.noSeat)),
        AV.str { data := List.toArray (Prod.snd (List.getD (Prod.fst f) 7 T.noSeat)) }, AV.int IntKind.i64 (Prod.fst (Prod.snd f)), AV.int IntKind.i64 (Prod.snd (Prod.snd f))]])) →
    AWP Try.prog 27 n c99_4 [(0, AV.ptr 0 0), (6, AV.int IntKind.i64 (3 : Int))] [AObj.cells (T.encFl f)] (q99_0 n Post) := fun f n Post h => Go.Ab.awp_sound g99 n _ _ _ _ (Go.Ab.kc (by kernel_rfl) h)
theorem v99_4k4 : ∀ (f : T.Fl) (n : Nat) (Post : AV → List AObj → Prop),
  needP ((0 : Int) ≤ (4 : Int) ∧ (4 : Int) < (8 : Int))
      (needP ((0 : Int) ≤ (4 : Int) ∧ (4 : Int) < (8 : Int))
        (Post (AV.tup [AV.str { data := List.toArray (Prod.snd (List.getD (Prod.fst f) 4 T.noSeat)) }, AV.bool true])
        [AObj.cells
        [AV.int IntKind.i64 (Prod.fst (List.getD (Prod.fst f) 0 T.noSeat)), AV.str { data := List.toArray (Prod.snd (List.getD (Prod.fst f) 0 T.noSeat)) },
        AV.int IntKind.i64 (Prod.fst (List.getD (Prod.fst f) 1 T.noSeat)), AV.str { data := List.toArray (Prod.snd (List.getD (Prod.fst f) 1 T.noSeat)) },
        AV.int IntKind.i64 (Prod.fst (List.getD (Prod.fst f) 2 T.noSeat)), AV.str { data := List.toArray (Prod.snd (List.getD (Prod.fst f) 2 T.noSeat)) },
        AV.int IntKind.i64 (Prod.fst (List.getD (Prod.fst f) 3 T.noSeat)), AV.str { data := List.toArray (Prod.snd (List.getD (Prod.fst f) 3 T.noSeat)) },
        AV.int IntKind.i64 (0 : Int), AV.str { data := #[] }, AV.int IntKind.i64 (Prod.fst (List.getD (Prod.fst f) 5 T.noSeat)),
        AV.str { data := List.toArray (Prod.snd (List.getD (Prod.fst f) 5 T.noSeat)) }, AV.int IntKind.i64 (Prod.fst (List.getD (Prod.fst f) 6 T.noSeat)),
        AV.str { data := List.toArray (Prod.snd (List.getD (Prod.fst f) 6 T.noSeat)) }, AV.int IntKind.i64 (Prod.fst (List.getD (Prod.fst f) 7 T.noSeat)),
        AV.str { data := List.toArray (Prod.snd (List.getD (Prod.fst f) 7 T.noSeat)) }, AV.int IntKind.i64 (Prod.fst (Prod.snd f)), AV.int IntKind.i64 (Prod.snd (Prod.snd f))]])) →
    AWP Try.prog 27 n c99_4 [(0, AV.ptr 0 0), (6, AV.int IntKind.i64 (4 : Int))] [AObj.cells (T.encFl f)] (q99_0 n Post) := fun f n Post h => Go.Ab.awp_sound g99 n _ _ _ _ (Go.Ab.kc (by kernel_rfl) h)
theorem v99_4k5 : ∀ (f : T.Fl) (n : Nat) (Post : AV → List AObj → Prop),
  needP ((0 : Int) ≤ (5 : Int) ∧ (5 : Int) < (8 : Int))
      (needP ((0 : Int) ≤ (5 : Int) ∧ (5 : Int) < (8 : Int))
        (Post (AV.tup [AV.str { data := List.toArray (Prod.snd (List.getD (Prod.fst f) 5 T.noSeat)) }, AV.bool true])
        [AObj.cells
        [AV.int IntKind.i64 (Prod.fst (List.getD (Prod.fst f) 0 T.noSeat)), AV.str { data := List.toArray (Prod.snd (List.getD (Prod.fst f) 0 T.noSeat)) },
        AV.int IntKind.i64 (Prod.fst (List.getD (Prod.fst f) 1 T.noSeat)), AV.str { data := List.toArray (Prod.snd (List.getD (Prod.fst f) 1 T.noSeat)) },
        AV.int IntKind.i64 (Prod.fst (List.getD (Prod.fst f) 2 T.noSeat)), AV.str { data := List.toArray (Prod.snd (List.getD (Prod.fst f) 2 T.noSeat)) },
        AV.int IntKind.i64 (Prod.fst (List.getD (Prod.fst f) 3 T.noSeat)), AV.str { data := List.toArray (Prod.snd (List.getD (Prod.fst f) 3 T.noSeat)) },
        AV.int IntKind.i64 (Prod.fst (List.getD (Prod.fst f) 4 T.noSeat)), AV.str { data := List.toArray (Prod.snd (List.getD (Prod.fst f) 4 T.noSeat)) },
        AV.int IntKind.i64 (0 : Int), AV.str { data := #[] }, AV.int IntKind.i64 (Prod.fst (List.getD (Prod.fst f) 6 T.noSeat)),
        AV.str { data := List.toArray (Prod.snd (List.getD (Prod.fst f) 6 T.noSeat)) }, AV.int IntKind.i64 (Prod.fst (List.getD (Prod.fst f) 7 T.noSeat)),
        AV.str { data := List.toArray (Prod.snd (List.getD (Prod.fst f) 7 T.noSeat)) }, AV.int IntKind.i64 (Prod.fst (Prod.snd f)), AV.int IntKind.i64 (Prod.snd (Prod.snd f))]])) →
    AWP Try.prog 27 n c99_4 [(0, AV.ptr 0 0), (6, AV.int IntKind.i64 (5 : Int))] [AObj.cells (T.encFl f)] (q99_0 n Post) := fun f n Post h => Go.Ab.awp_sound g99 n _ _ _ _ (Go.Ab.kc (by kernel_rfl) h)
theorem v99_4k6 : ∀ (f : T.Fl) (n : Nat) (Post : AV → List AObj → Prop),
  needP ((0 : Int) ≤ (6 : Int) ∧ (6 : Int) < (8 : Int))
      (needP ((0 : Int) ≤ (6 : Int) ∧ (6 : Int) < (8 : Int))
        (Post (AV.tup [AV.str { data := List.toArray (Prod.snd (List.getD (Prod.fst f) 6 T.noSeat)) }, AV.bool true])
        [AObj.cells
        [AV.int IntKind.i64 (Prod.fst (List.getD (Prod.fst f) 0 T.noSeat)), AV.str { data := List.toArray (Prod.snd (List.getD (Prod.fst f) 0 T.noSeat)) },
        AV.int IntKind.i64 (Prod.fst (List.getD (Prod.fst f) 1 T.noSeat)), AV.str { data := List.toArray (Prod.snd (List.getD (Prod.fst f) 1 T.noSeat)) },
        AV.int IntKind.i64 (Prod.fst (List.getD (Prod.fst f) 2 T.noSeat)), AV.str { data := List.toArray (Prod.snd (List.getD (Prod.fst f) 2 T.noSeat)) },
        AV.int IntKind.i64 (Prod.fst (List.getD (Prod.fst f) 3 T.noSeat)), AV.str { data := List.toArray (Prod.snd (List.getD (Prod.fst f) 3 T.noSeat)) },
        AV.int IntKind.i64 (Prod.fst (List.getD (Prod.fst f) 4 T.noSeat)), AV.str { data := List.toArray (Prod.snd (List.getD (Prod.fst f) 4 T.noSeat)) },
        AV.int IntKind.i64 (Prod.fst (List.getD (Prod.fst f) 5 T.noSeat)), AV.str { data := List.toArray (Prod.snd (List.getD (Prod.fst f) 5 T.noSeat)) },
        AV.int IntKind.i64 (0 : Int), AV.str { data := #[] }, AV.int IntKind.i64 (Prod.fst (List.getD (Prod.fst f) 7 T.noSeat)),
        AV.str { data := List.toArray (Prod.snd (List.getD (Prod.fst f) 7 T.noSeat)) }, AV.int IntKind.i64 (Prod.fst (Prod.snd f)), AV.int IntKind.i64 (Prod.snd (Prod.snd f))]])) →
    AWP Try.prog 27 n c99_4 [(0, AV.ptr 0 0), (6, AV.int IntKind.i64 (6 : Int))] [AObj.cells (T.encFl f)] (q99_0 n Post) := fun f n Post h => Go.Ab.awp_sound g99 n _ _ _ _ (Go.Ab.kc (by kernel_rfl) h)
theorem v99_4k7 : ∀ (f : T.Fl) (n : Nat) (Post : AV → List AObj → Prop),
  needP ((0 : Int) ≤ (7 : Int) ∧ (7 : Int) < (8 : Int))
      (needP ((0 : Int) ≤ (7 : Int) ∧ (7 : Int) < (8 : Int))
        (Post (AV.tup [AV.str { data := List.toArray (Prod.snd (List.getD (Prod.fst f) 7 T.noSeat)) }, AV.bool true])
        [AObj.cells
        [AV.int IntKind.i64 (Prod.fst (List.getD (Prod.fst f) 0 T.noSeat)), AV.str { data := List.toArray (Prod.snd (List.getD (Prod.fst f) 0 T.noSeat)) },
        AV.int IntKind.i64 (Prod.fst (List.getD (Prod.fst f) 1 T.noSeat)), AV.str { data := List.toArray (Prod.snd (List.getD (Prod.fst f) 1 T.noSeat)) },
        AV.int IntKind.i64 (Prod.fst (List.getD (Prod.fst f) 2 T.noSeat)), AV.str { data := List.toArray (Prod.snd (List.getD (Prod.fst f) 2 T.noSeat)) },
        AV.int IntKind.i64 (Prod.fst (List.getD (Prod.fst f) 3 T.noSeat)), AV.str { data := List.toArray (Prod.snd (List.getD (Prod.fst f) 3 T.noSeat)) },
        AV.int IntKind.i64 (Prod.fst (List.getD (Prod.fst f) 4 T.noSeat)), AV.str { data := List.toArray (Prod.snd (List.getD (Prod.fst f) 4 T.noSeat)) },
        AV.int IntKind.i64 (Prod.fst (List.getD (Prod.fst f) 5 T.noSeat)), AV.str { data := List.toArray (Prod.snd (List.getD (Prod.fst f) 5 T.noSeat)) },
        AV.int IntKind.i64 (Prod.fst (List.getD (Prod.fst f) 6 T.noSeat)), AV.str { data := List.toArray (Prod.snd (List.getD (Prod.fst f) 6 T.noSeat)) },
        AV.int IntKind.i64 (0 : Int), AV.str { data := #[] }, AV.int IntKind.i64 (Prod.fst (Prod.snd f)), AV.int IntKind.i64 (Prod.snd (Prod.snd f))]])) →
    AWP Try.prog 27 n c99_4 [(0, AV.ptr 0 0), (6, AV.int IntKind.i64 (7 : Int))] [AObj.cells (T.encFl f)] (q99_0 n Post) := fun f n Post h => Go.Ab.awp_sound g99 n _ _ _ _ (Go.Ab.kc (by kernel_rfl) h)

-- 102
noncomputable def l102 : Nat → List Nat
  | 4 => [0, 6]
  | _ => []
noncomputable def u102 : Nat → Bool
  | 4 => true
  | _ => false
noncomputable def m102 : Nat → Bool
  | _ => false
noncomputable def g102 : Cfg := { N := 19, live := l102, cut := u102, mu := m102, ret := rets }
noncomputable def c102 : Go.Code := Go.Ab.bodyOf Go.Proofs.Try.f102
noncomputable def q102_0 : Nat → (AV → List AObj → Prop) → AQ := fun (n : Nat) (Post : AV → List AObj → Prop) => endQ Try.prog (resultsOf Try.f102) Post
noncomputable def c102_4 : Go.Code := codeSnd (codeSnd (codeSnd c102))
theorem s102m : ∀ (f : T.Fl) (t : Int) (Post : AV → List AObj → Prop),
  (ASpec Try.prog 216 [AV.ptr 0 0, AV.int IntKind.i64 t]
      [AObj.cells
        (T.encFl f)]
      fun (r : AV) (H' : List AObj) =>
      ∃ (x : Int),
        r = AV.int IntKind.i64 x ∧
        H' =
        [AObj.cells
        (T.encFl f)] ∧
        condP (decide (x < (0 : Int)))
        (Post (AV.tup [AV.str { data := #[] }, AV.bool false])
        [AObj.cells
        (T.encFl f)])
        (AWP Try.prog 19 1 c102_4 [(0, AV.ptr 0 0), (6, AV.int IntKind.i64 x)]
        [AObj.cells
        (T.encFl f)]
        (q102_0 1 Post))) →
    ASpec Try.prog 102 [AV.ptr 0 0, AV.int IntKind.i64 t] [AObj.cells (T.encFl f)] Post := fun f t Post h => Go.Ab.ASpec.of_vc g102 Go.Proofs.Try.func102 (by kernel_rfl) (by kernel_rfl) (by kernel_rfl) (Go.Ab.kc (by kernel_rfl) h)
theorem s102n : ∀ (t : Int) (Post : AV → List AObj → Prop),
  (ASpec Try.prog 216 [AV.nilp, AV.int IntKind.i64 t] [] fun (r : AV) (H' : List AObj) =>
      ∃ (x : Int),
        r = AV.int IntKind.i64 x ∧
        H' = [] ∧
        condP (decide (x < (0 : Int))) (Post (AV.tup [AV.str { data := #[] }, AV.bool false]) [])
        (AWP Try.prog 19 0 c102_4 [(0, AV.nilp), (6, AV.int IntKind.i64 x)] [] (q102_0 0 Post))) →
    ASpec Try.prog 102 [AV.nilp, AV.int IntKind.i64 t] [] Post := fun t Post h => Go.Ab.ASpec.of_vc g102 Go.Proofs.Try.func102 (by kernel_rfl) (by kernel_rfl) (by kernel_rfl) (Go.Ab.kc (by kernel_rfl) h)
theorem v102_4k0 : ∀ (f : T.Fl) (n : Nat) (Post : AV → List AObj → Prop),
  needP ((0 : Int) ≤ (0 : Int) ∧ (0 : Int) < (8 : Int))
      (Post (AV.tup [AV.str { data := List.toArray (Prod.snd (List.getD (Prod.fst f) 0 T.noSeat)) }, AV.bool true])
        [AObj.cells
        (T.encFl f)]) →
    AWP Try.prog 19 n c102_4 [(0, AV.ptr 0 0), (6, AV.int IntKind.i64 (0 : Int))] [AObj.cells (T.encFl f)] (q102_0 n Post) := fun f n Post h => Go.Ab.awp_sound g102 n _ _ _ _ (Go.Ab.kc (by kernel_rfl) h)
theorem v102_4k1 : ∀ (f : T.Fl) (n : Nat) (Post : AV → List AObj → Prop),
  needP ((0 : Int) ≤ (1 : Int) ∧ (1 : Int) < (8 : Int))
      (Post (AV.tup [AV.str { data := List.toArray (Prod.snd (List.getD (Prod.fst f) 1 T.noSeat)) }, AV.bool true])
        [AObj.cells
        (T.encFl f)]) →
    AWP Try.prog 19 n c102_4 [(0, AV.ptr 0 0), (6, AV.int IntKind.i64 (1 : Int))] [AObj.cells (T.encFl f)] (q102_0 n Post) := fun f n Post h => Go.Ab.awp_sound g102 n _ _ _ _ (Go.Ab.kc (by kernel_rfl) h)
theorem v102_4k2 : ∀ (f : T.Fl) (n : Nat) (Post : AV → List AObj → Prop),
  needP ((0 : Int) ≤ (2 : Int) ∧ (2 : Int) < (8 : Int))
      (Post (AV.tup [AV.str { data := List.toArray (Prod.snd (List.getD (Prod.fst f) 2 T.noSeat)) }, AV.bool true])
        [AObj.cells
        (T.encFl f)]) →
    AWP Try.prog 19 n c102_4 [(0, AV.ptr 0 0), (6, AV.int IntKind.i64 (2 : Int))] [AObj.cells (T.encFl f)] (q102_0 n Post) := fun f n Post h => Go.Ab.awp_sound g102 n _ _ _ _ (Go.Ab.kc (by kernel_rfl) h)
theorem v102_4k3 : ∀ (f : T.Fl) (n : Nat) (Post : AV → List AObj → Prop),
  needP ((0 : Int) ≤ (3 : Int) ∧ (3 : Int) < (8 : Int))
      (Post (AV.tup [AV.str { data := List.toArray (Prod.snd (List.getD (Prod.fst f) 3 T.noSeat)) }, AV.bool true])
        [AObj.cells
        (T.encFl f)]) →
    AWP Try.prog 19 n c102_4 [(0, AV.ptr 0 0), (6, AV.int IntKind.i64 (3 : Int))] [AObj.cells (T.encFl f)] (q102_0 n Post) := fun f n Post h => Go.Ab.awp_sound g102 n _ _ _ _ (Go.Ab.kc (by kernel_rfl) h)
theorem v102_4k4 : ∀ (f : T.Fl) (n : Nat) (Post : AV → List AObj → Prop),
  needP ((0 : Int) ≤ (4 : Int) ∧ (4 : Int) < (8 : Int))
      (Post (AV.tup [AV.str { data := List.toArray (Prod.snd (List.getD (Prod.fst f) 4 T.noSeat)) }, AV.bool true])
        [AObj.cells
        (T.encFl f)]) →
    AWP Try.prog 19 n c102_4 [(0, AV.ptr 0 0), (6, AV.int IntKind.i64 (4 : Int))] [AObj.cells (T.encFl f)] (q102_0 n Post) := fun f n Post h => Go.Ab.awp_sound g102 n _ _ _ _ (Go.Ab.kc (by kernel_rfl) h)
theorem v102_4k5 : ∀ (f : T.Fl) (n : Nat) (Post : AV → List AObj → Prop),
  needP ((0 : Int) ≤ (5 : Int) ∧ (5 : Int) < (8 : Int))
      (Post (AV.tup [AV.str { data := List.toArray (Prod.snd (List.getD (Prod.fst f) 5 T.noSeat)) }, AV.bool true])
        [AObj.cells
        (T.encFl f)]) →
    AWP Try.prog 19 n c102_4 [(0, AV.ptr 0 0), (6, AV.int IntKind.i64 (5 : Int))] [AObj.cells (T.encFl f)] (q102_0 n Post) := fun f n Post h => Go.Ab.awp_sound g102 n _ _ _ _ (Go.Ab.kc (by kernel_rfl) h)
theorem v102_4k6 : ∀ (f : T.Fl) (n : Nat) (Post : AV → List AObj → Prop),
  needP ((0 : Int) ≤ (6 : Int) ∧ (6 : Int) < (8 : Int))
      (Post (AV.tup [AV.str { data := List.toArray (Prod.snd (List.getD (Prod.fst f) 6 T.noSeat)) }, AV.bool true])
        [AObj.cells
        (T.encFl f)]) →
    AWP Try.prog 19 n c102_4 [(0, AV.ptr 0 0), (6, AV.int IntKind.i64 (6 : Int))] [AObj.cells (T.encFl f)] (q102_0 n Post) := fun f n Post h => Go.Ab.awp_sound g102 n _ _ _ _ (Go.Ab.kc (by kernel_rfl) h)
theorem v102_4k7 : ∀ (f : T.Fl) (n : Nat) (Post : AV → List AObj → Prop),
  needP ((0 : Int) ≤ (7 : Int) ∧ (7 : Int) < (8 : Int))
      (Post (AV.tup [AV.str { data := List.toArray (Prod.snd (List.getD (Prod.fst f) 7 T.noSeat)) }, AV.bool true])
        [AObj.cells
        (T.encFl f)]) →
    AWP Try.prog 19 n c102_4 [(0, AV.ptr 0 0), (6, AV.int IntKind.i64 (7 : Int))] [AObj.cells (T.encFl f)] (q102_0 n Post) := fun f n Post h => Go.Ab.awp_sound g102 n _ _ _ _ (Go.Ab.kc (by kernel_rfl) h)

-- 103
noncomputable def l103 : Nat → List Nat
  | 4 => [3, 11, 12]
  | 9 => [3]
  | 10 => [3]
  | _ => []
noncomputable def u103 : Nat → Bool
  | 9 => true
  | 10 => true
  | _ => false
noncomputable def m103 : Nat → Bool
  | 22 => true
  | _ => false
noncomputable def g103 : Cfg := { N := 27, live := l103, cut := u103, mu := m103, ret := rets }
noncomputable def c103 : Go.Code := Go.Ab.bodyOf Go.Proofs.Try.f103
noncomputable def q103_0 : Nat → (AV → List AObj → Prop) → AQ := fun (n : Nat) (Post : AV → List AObj → Prop) => endQ Try.prog (resultsOf Try.f103) Post
noncomputable def c103_9 : Go.Code := codeSnd (codeSnd (codeSnd c103))
noncomputable def q103_1 : Nat → (AV → List AObj → Prop) → AQ := fun (n : Nat) (Post : AV → List AObj → Prop) => seqQ (fun (s' : Slots) (H' : List AObj) => AWP Try.prog (Cfg.N g103) n c103_9 (restrict s' (Cfg.live g103 9)) H' (q103_0 n Post)) (q103_0 n Post)
noncomputable def q103_2 : Nat → (AV → List AObj → Prop) → AQ := fun (n : Nat) (Post : AV → List AObj → Prop) => blockQ 0 (q103_1 n Post)
noncomputable def c103_4 : Go.Code := codeFst (codeSnd (codeFst (codeSnd (codeFst (codeSnd (codeSnd c103))))))
theorem s103m : ∀ (f : T.Fl) (Post : AV → List AObj → Prop),
  AWP Try.prog 27 1 c103_4
      [(3, AV.sl 0 (Seq.raw []) Tip.nil),
        (11,
        AV.agg
        (seats f)),
        (12, AV.int IntKind.i64 (0 : Int))]
      [AObj.cells
        (T.encFl f)]
      (q103_2 1 Post) →
    ASpec Try.prog 103 [AV.ptr 0 0] [AObj.cells (T.encFl f)] Post := fun f Post h => Go.Ab.ASpec.of_vc g103 Go.Proofs.Try.func103 (by kernel_rfl) (by kernel_rfl) (by kernel_rfl) (Go.Ab.kc (by kernel_rfl) h)
theorem s103n : ∀ (Post : AV → List AObj → Prop), AWP Try.prog 27 0 c103_9 [(3, AV.sl 0 (Seq.raw []) Tip.nil)] [] (q103_0 0 Post) → ASpec Try.prog 103 [AV.nilp] [] Post := fun Post h => Go.Ab.ASpec.of_vc g103 Go.Proofs.Try.func103 (by kernel_rfl) (by kernel_rfl) (by kernel_rfl) (Go.Ab.kc (by kernel_rfl) h)
theorem v103_4n0 : ∀ (f : T.Fl) (n : Nat) (Post : AV → List AObj → Prop),
  needP ((0 : Int) ≤ (0 : Int) ∧ (0 : Int) < (8 : Int))
      (condP (decide (Prod.fst (List.getD (Prod.fst f) 0 T.noSeat) > (0 : Int)))
        (needP (8 ≤ 140737488351232)
        (needP (1 ≤ 1)
        (AWP Try.prog 27 n c103_4
        [(3, AV.msl 1 2 0 1),
        (11,
        AV.agg
        (seats f)),
        (12, AV.int IntKind.i64 (1 : Int))]
        [AObj.cells
        (T.encFl f),
        AObj.cells [AV.int IntKind.i64 (Prod.fst (List.getD (Prod.fst f) 0 T.noSeat)), AV.str { data := List.toArray (Prod.snd (List.getD (Prod.fst f) 0 T.noSeat)) }],
        AObj.arr 1 (Seq.raw [[AV.int IntKind.i64 (Prod.fst (List.getD (Prod.fst f) 0 T.noSeat))]])]
        (q103_2 n Post))))
        (AWP Try.prog 27 n c103_4
        [(3, AV.sl 0 (Seq.raw []) Tip.nil),
        (11,
        AV.agg
        (seats f)),
        (12, AV.int IntKind.i64 (1 : Int))]
        [AObj.cells
        (T.encFl f),
        AObj.cells [AV.int IntKind.i64 (Prod.fst (List.getD (Prod.fst f) 0 T.noSeat)), AV.str { data := List.toArray (Prod.snd (List.getD (Prod.fst f) 0 T.noSeat)) }]]
        (q103_2 n Post))) →
    AWP Try.prog 27 n c103_4
      [(3, AV.sl 0 (Seq.raw []) Tip.nil),
        (11,
        AV.agg
        (seats f)),
        (12, AV.int IntKind.i64 (0 : Int))]
      [AObj.cells (T.encFl f)] (q103_2 n Post) := fun f n Post h => Go.Ab.AWP.loop' g103 (Cfg.live g103) c103_4 (by kernel_rfl) (by kernel_rfl) (Go.Ab.kc (by kernel_rfl) h)
theorem v103_4n1 : ∀ (f : T.Fl) (n : Nat) (Post : AV → List AObj → Prop),
  needP ((0 : Int) ≤ (1 : Int) ∧ (1 : Int) < (8 : Int))
      (condP (decide (Prod.fst (List.getD (Prod.fst f) 1 T.noSeat) > (0 : Int)))
        (needP (8 ≤ 140737488351232)
        (needP (1 ≤ 1)
        (AWP Try.prog 27 n c103_4
        [(3, AV.msl 1 2 0 1),
        (11,
        AV.agg
        (seats f)),
        (12, AV.int IntKind.i64 (2 : Int))]
        [AObj.cells
        (T.encFl f),
        AObj.cells [AV.int IntKind.i64 (Prod.fst (List.getD (Prod.fst f) 1 T.noSeat)), AV.str { data := List.toArray (Prod.snd (List.getD (Prod.fst f) 1 T.noSeat)) }],
        AObj.arr 1 (Seq.raw [[AV.int IntKind.i64 (Prod.fst (List.getD (Prod.fst f) 1 T.noSeat))]])]
        (q103_2 n Post))))
        (AWP Try.prog 27 n c103_4
        [(3, AV.sl 0 (Seq.raw []) Tip.nil),
        (11,
        AV.agg
        (seats f)),
        (12, AV.int IntKind.i64 (2 : Int))]
        [AObj.cells
        (T.encFl f),
        AObj.cells [AV.int IntKind.i64 (Prod.fst (List.getD (Prod.fst f) 1 T.noSeat)), AV.str { data := List.toArray (Prod.snd (List.getD (Prod.fst f) 1 T.noSeat)) }]]
        (q103_2 n Post))) →
    AWP Try.prog 27 n c103_4
      [(3, AV.sl 0 (Seq.raw []) Tip.nil),
        (11,
        AV.agg
        (seats f)),
        (12, AV.int IntKind.i64 (1 : Int))]
      [AObj.cells (T.encFl f)] (q103_2 n Post) := fun f n Post h => Go.Ab.AWP.loop' g103 (Cfg.live g103) c103_4 (by kernel_rfl) (by kernel_rfl) (Go.Ab.kc (by kernel_rfl) h)
theorem v103_4n2 : ∀ (f : T.Fl) (n : Nat) (Post : AV → List AObj → Prop),
  needP ((0 : Int) ≤ (2 : Int) ∧ (2 : Int) < (8 : Int))
      (condP (decide (Prod.fst (List.getD (Prod.fst f) 2 T.noSeat) > (0 : Int)))
        (needP (8 ≤ 140737488351232)
        (needP (1 ≤ 1)
        (AWP Try.prog 27 n c103_4
        [(3, AV.msl 1 2 0 1),
        (11,
        AV.agg
        (seats f)),
        (12, AV.int IntKind.i64 (3 : Int))]
        [AObj.cells
        (T.encFl f),
        AObj.cells [AV.int IntKind.i64 (Prod.fst (List.getD (Prod.fst f) 2 T.noSeat)), AV.str { data := List.toArray (Prod.snd (List.getD (Prod.fst f) 2 T.noSeat)) }],
        AObj.arr 1 (Seq.raw [[AV.int IntKind.i64 (Prod.fst (List.getD (Prod.fst f) 2 T.noSeat))]])]
        (q103_2 n Post))))
        (AWP Try.prog 27 n c103_4
        [(3, AV.sl 0 (Seq.raw []) Tip.nil),
        (11,
        AV.agg
        (seats f)),
        (12, AV.int IntKind.i64 (3 : Int))]
        [AObj.cells
        (T.encFl f),
        AObj.cells [AV.int IntKind.i64 (Prod.fst (List.getD (Prod.fst f) 2 T.noSeat)), AV.str { data := List.toArray (Prod.snd (List.getD (Prod.fst f) 2 T.noSeat)) }]]
        (q103_2 n Post))) →
    AWP Try.prog 27 n c103_4
      [(3, AV.sl 0 (Seq.raw []) Tip.nil),
        (11,
        AV.agg
        (seats f)),
        (12, AV.int IntKind.i64 (2 : Int))]
      [AObj.cells (T.encFl f)] (q103_2 n Post) := fun f n Post h => Go.Ab.AWP.loop' g103 (Cfg.live g103) c103_4 (by kernel_rfl) (by kernel_rfl) (Go.Ab.kc (by kernel_rfl) h)
theorem v103_4n3 : ∀ (f : T.Fl) (n : Nat) (Post : AV → List AObj → Prop),
  needP ((0 : Int) ≤ (3 : Int) ∧ (3 : Int) < (8 : Int))
      (condP (decide (Prod.fst (List.getD (Prod.fst f) 3 T.noSeat) > (0 : Int)))
        (needP (8 ≤ 140737488351232)
        (needP (1 ≤ 1)
        (AWP Try.prog 27 n c103_4
        [(3, AV.msl 1 2 0 1),
        (11,
        AV.agg
        (seats f)),
        (12, AV.int IntKind.i64 (4 : Int))]
        [AObj.cells
        (T.encFl f),
        AObj.cells [AV.int IntKind.i64 (Prod.fst (List.getD (Prod.fst f) 3 T.noSeat)), AV.str { data := List.toArray (Prod.snd (List.getD (Prod.fst f) 3 T.noSeat)) }],
        AObj.arr 1 (Seq.raw [[AV.int IntKind.i64 (Prod.fst (List.getD (Prod.fst f) 3 T.noSeat))]])]
        (q103_2 n Post))))
        (AWP Try.prog 27 n c103_4
        [(3, AV.sl 0 (Seq.raw []) Tip.nil),
        (11,
        AV.agg
        (seats f)),
        (12, AV.int IntKind.i64 (4 : Int))]
        [AObj.cells
        (T.encFl f),
        AObj.cells [AV.int IntKind.i64 (Prod.fst (List.getD (Prod.fst f) 3 T.noSeat)), AV.str { data := List.toArray (Prod.snd (List.getD (Prod.fst f) 3 T.noSeat)) }]]
        (q103_2 n Post))) →
    AWP Try.prog 27 n c103_4
      [(3, AV.sl 0 (Seq.raw []) Tip.nil),
        (11,
        AV.agg
        (seats f)),
        (12, AV.int IntKind.i64 (3 : Int))]
      [AObj.cells (T.encFl f)] (q103_2 n Post) := fun f n Post h => Go.Ab.AWP.loop' g103 (Cfg.live g103) c103_4 (by kernel_rfl) (by kernel_rfl) (Go.Ab.kc (by kernel_rfl) h)
theorem v103_4n4 : ∀ (f : T.Fl) (n : Nat) (Post : AV → List AObj → Prop),
  needP ((0 : Int) ≤ (4 : Int) ∧ (4 : Int) < (8 : Int))
      (condP (decide (Prod.fst (List.getD (Prod.fst f) 4 T.noSeat) > (0 : Int)))
        (needP (8 ≤ 140737488351232)
        (needP (1 ≤ 1)
        (AWP Try.prog 27 n c103_4
        [(3, AV.msl 1 2 0 1),
        (11,
        AV.agg
        (seats f)),
        (12, AV.int IntKind.i64 (5 : Int))]
        [AObj.cells
        (T.encFl f),
        AObj.cells [AV.int IntKind.i64 (Prod.fst (List.getD (Prod.fst f) 4 T.noSeat)), AV.str { data := List.toArray (Prod.snd (List.getD (Prod.fst f) 4 T.noSeat)) }],
        AObj.arr 1 (Seq.raw [[AV.int IntKind.i64 (Prod.fst (List.getD (Prod.fst f) 4 T.noSeat))]])]
        (q103_2 n Post))))
        (AWP Try.prog 27 n c103_4
        [(3, AV.sl 0 (Seq.raw []) Tip.nil),
        (11,
        AV.agg
        (seats f)),
        (12, AV.int IntKind.i64 (5 : Int))]
        [AObj.cells
        (T.encFl f),
        AObj.cells [AV.int IntKind.i64 (Prod.fst (List.getD (Prod.fst f) 4 T.noSeat)), AV.str { data := List.toArray (Prod.snd (List.getD (Prod.fst f) 4 T.noSeat)) }]]
        (q103_2 n Post))) →
    AWP Try.prog 27 n c103_4
      [(3, AV.sl 0 (Seq.raw []) Tip.nil),
        (11,
        AV.agg
        (seats f)),
        (12, AV.int IntKind.i64 (4 : Int))]
      [AObj.cells (T.encFl f)] (q103_2 n Post) := fun f n Post h => Go.Ab.AWP.loop' g103 (Cfg.live g103) c103_4 (by kernel_rfl) (by kernel_rfl) (Go.Ab.kc (by kernel_rfl) h)
theorem v103_4n5 : ∀ (f : T.Fl) (n : Nat) (Post : AV → List AObj → Prop),
  needP ((0 : Int) ≤ (5 : Int) ∧ (5 : Int) < (8 : Int))
      (condP (decide (Prod.fst (List.getD (Prod.fst f) 5 T.noSeat) > (0 : Int)))
        (needP (8 ≤ 140737488351232)
        (needP (1 ≤ 1)
        (AWP Try.prog 27 n c103_4
        [(3, AV.msl 1 2 0 1),
        (11,
        AV.agg
        (seats f)),
        (12, AV.int IntKind.i64 (6 : Int))]
        [AObj.cells
        (T.encFl f),
        AObj.cells [AV.int IntKind.i64 (Prod.fst (List.getD (Prod.fst f) 5 T.noSeat)), AV.str { data := List.toArray (Prod.snd (List.getD (Prod.fst f) 5 T.noSeat)) }],
        AObj.arr 1 (Seq.raw [[AV.int IntKind.i64 (Prod.fst (List.getD (Prod.fst f) 5 T.noSeat))]])]
        (q103_2 n Post))))
        (AWP Try.prog 27 n c103_4
        [(3, AV.sl 0 (Seq.raw []) Tip.nil),
        (11,
        AV.agg
        (seats f)),
        (12, AV.int IntKind.i64 (6 : Int))]
        [AObj.cells
        (T.encFl f),
        AObj.cells [AV.int IntKind.i64 (Prod.fst (List.getD (Prod.fst f) 5 T.noSeat)), AV.str { data := List.toArray (Prod.snd (List.getD (Prod.fst f) 5 T.noSeat)) }]]
        (q103_2 n Post))) →
    AWP Try.prog 27 n c103_4
      [(3, AV.sl 0 (Seq.raw []) Tip.nil),
        (11,
        AV.agg
        (seats f)),
        (12, AV.int IntKind.i64 (5 : Int))]
      [AObj.cells (T.encFl f)] (q103_2 n Post) := fun f n Post h => Go.Ab.AWP.loop' g103 (Cfg.live g103) c103_4 (by kernel_rfl) (by kernel_rfl) (Go.Ab.kc (by kernel_rfl) h)
theorem v103_4n6 : ∀ (f : T.Fl) (n : Nat) (Post : AV → List AObj → Prop),
  needP ((0 : Int) ≤ (6 : Int) ∧ (6 : Int) < (8 : Int))
      (condP (decide (Prod.fst (List.getD (Prod.fst f) 6 T.noSeat) > (0 : Int)))
        (needP (8 ≤ 140737488351232)
        (needP (1 ≤ 1)
        (AWP Try.prog 27 n c103_4
        [(3, AV.msl 1 2 0 1),
        (11,
        AV.agg
        (seats f)),
        (12, AV.int IntKind.i64 (7 : Int))]
        [AObj.cells
        (T.encFl f),
        AObj.cells [AV.int IntKind.i64 (Prod.fst (List.getD (Prod.fst f) 6 T.noSeat)), AV.str { data := List.toArray (Prod.snd (List.getD (Prod.fst f) 6 T.noSeat)) }],
        AObj.arr 1 (Seq.raw [[AV.int IntKind.i64 (Prod.fst (List.getD (Prod.fst f) 6 T.noSeat))]])]
        (q103_2 n Post))))
        (AWP Try.prog 27 n c103_4
        [(3, AV.sl 0 (Seq.raw []) Tip.nil),
        (11,
        AV.agg
        (seats f)),
        (12, AV.int IntKind.i64 (7 : Int))]
        [AObj.cells
        (T.encFl f),
        AObj.cells [AV.int IntKind.i64 (Prod.fst (List.getD (Prod.fst f) 6 T.noSeat)), AV.str { data := List.toArray (Prod.snd (List.getD (Prod.fst f) 6 T.noSeat)) }]]
        (q103_2 n Post))) →
    AWP Try.prog 27 n c103_4
      [(3, AV.sl 0 (Seq.raw []) Tip.nil),
        (11,
        AV.agg
        (seats f)),
        (12, AV.int IntKind.i64 (6 : Int))]
      [AObj.cells (T.encFl f)] (q103_2 n Post) := fun f n Post h => Go.Ab.AWP.loop' g103 (Cfg.live g103) c103_4 (by kernel_rfl) (by kernel_rfl) (Go.Ab.kc (by kernel_rfl) h)
theorem v103_4n7 : ∀ (f : T.Fl) (n : Nat) (Post : AV → List AObj → Prop),
  needP ((0 : Int) ≤ (7 : Int) ∧ (7 : Int) < (8 : Int))
      (condP (decide (Prod.fst (List.getD (Prod.fst f) 7 T.noSeat) > (0 : Int)))
        (needP (8 ≤ 140737488351232)
        (needP (1 ≤ 1)
        (AWP Try.prog 27 n c103_4
        [(3, AV.msl 1 2 0 1),
        (11,
        AV.agg
        (seats f)),
        (12, AV.int IntKind.i64 (8 : Int))]
        [AObj.cells
        (T.encFl f),
        AObj.cells [AV.int IntKind.i64 (Prod.fst (List.getD (Prod.fst f) 7 T.noSeat)), AV.str { data := List.toArray (Prod.snd (List.getD (Prod.fst f) 7 T.noSeat)) }],
        AObj.arr 1 (Seq.raw [[AV.int IntKind.i64 (Prod.fst (List.getD (Prod.fst f) 7 T.noSeat))]])]
        (q103_2 n Post))))
        (AWP Try.prog 27 n c103_4
        [(3, AV.sl 0 (Seq.raw []) Tip.nil),
        (11,
        AV.agg
        (seats f)),
        (12, AV.int IntKind.i64 (8 : Int))]
        [AObj.cells
        (T.encFl f),
        AObj.cells [AV.int IntKind.i64 (Prod.fst (List.getD (Prod.fst f) 7 T.noSeat)), AV.str { data := List.toArray (Prod.snd (List.getD (Prod.fst f) 7 T.noSeat)) }]]
        (q103_2 n Post))) →
    AWP Try.prog 27 n c103_4
      [(3, AV.sl 0 (Seq.raw []) Tip.nil),
        (11,
        AV.agg
        (seats f)),
        (12, AV.int IntKind.i64 (7 : Int))]
      [AObj.cells (T.encFl f)] (q103_2 n Post) := fun f n Post h => Go.Ab.AWP.loop' g103 (Cfg.live g103) c103_4 (by kernel_rfl) (by kernel_rfl) (Go.Ab.kc (by kernel_rfl) h)
theorem v103_4n8 : ∀ (f : T.Fl) (n : Nat) (Post : AV → List AObj → Prop),
  AWP Try.prog 27 n c103_9 [(3, AV.sl 0 (Seq.raw []) Tip.nil)]
      [AObj.cells
        (T.encFl f)]
      (q103_0 n Post) →
    AWP Try.prog 27 n c103_4
      [(3, AV.sl 0 (Seq.raw []) Tip.nil),
        (11,
        AV.agg
        (seats f)),
        (12, AV.int IntKind.i64 (8 : Int))]
      [AObj.cells (T.encFl f)] (q103_2 n Post) := fun f n Post h => Go.Ab.AWP.loop' g103 (Cfg.live g103) c103_4 (by kernel_rfl) (by kernel_rfl) (Go.Ab.kc (by kernel_rfl) h)
theorem v103_4m0 : ∀ (f : T.Fl) (o : List Int) (n : Nat) (Post : AV → List AObj → Prop),
  needP ((0 : Int) ≤ (0 : Int) ∧ (0 : Int) < (8 : Int))
      (condP (decide (Prod.fst (List.getD (Prod.fst f) 0 T.noSeat) > (0 : Int)))
        (needP (List.length o = List.length o ∧ (List.length o + 1) * 8 ≤ 140737488351232)
        (AWP Try.prog 27 n c103_4
        [(3, AV.msl 1 3 0 (List.length o + 1)),
        (11,
        AV.agg
        (seats f)),
        (12, AV.int IntKind.i64 (1 : Int))]
        [AObj.cells
        (T.encFl f),
        AObj.gone, AObj.cells [AV.int IntKind.i64 (Prod.fst (List.getD (Prod.fst f) 0 T.noSeat)), AV.str { data := List.toArray (Prod.snd (List.getD (Prod.fst f) 0 T.noSeat)) }],
        AObj.arr 1 (Seq.app (Seq.map encI (0 : Int) o) (Seq.raw [[AV.int IntKind.i64 (Prod.fst (List.getD (Prod.fst f) 0 T.noSeat))]]))]
        (q103_2 n Post)))
        (AWP Try.prog 27 n c103_4
        [(3, AV.msl 1 1 0 (List.length o)),
        (11,
        AV.agg
        (seats f)),
        (12, AV.int IntKind.i64 (1 : Int))]
        [AObj.cells
        (T.encFl f),
        AObj.arr 1 (Seq.map encI (0 : Int) o),
        AObj.cells [AV.int IntKind.i64 (Prod.fst (List.getD (Prod.fst f) 0 T.noSeat)), AV.str { data := List.toArray (Prod.snd (List.getD (Prod.fst f) 0 T.noSeat)) }]]
        (q103_2 n Post))) →
    AWP Try.prog 27 n c103_4
      [(3, AV.msl 1 1 0 (List.length o)),
        (11,
        AV.agg
        (seats f)),
        (12, AV.int IntKind.i64 (0 : Int))]
      [AObj.cells (T.encFl f), AObj.arr 1 (Seq.map encI (0 : Int) o)] (q103_2 n Post) := fun f o n Post h => Go.Ab.AWP.loop' g103 (Cfg.live g103) c103_4 (by kernel_rfl) (by kernel_rfl) (Go.Ab.kc (by kernel_rfl) h)
theorem v103_4m1 : ∀ (f : T.Fl) (o : List Int) (n : Nat) (Post : AV → List AObj → Prop),
  needP ((0 : Int) ≤ (1 : Int) ∧ (1 : Int) < (8 : Int))
      (condP (decide (Prod.fst (List.getD (Prod.fst f) 1 T.noSeat) > (0 : Int)))
        (needP (List.length o = List.length o ∧ (List.length o + 1) * 8 ≤ 140737488351232)
        (AWP Try.prog 27 n c103_4
        [(3, AV.msl 1 3 0 (List.length o + 1)),
        (11,
        AV.agg
        (seats f)),
        (12, AV.int IntKind.i64 (2 : Int))]
        [AObj.cells
        (T.encFl f),
        AObj.gone, AObj.cells [AV.int IntKind.i64 (Prod.fst (List.getD (Prod.fst f) 1 T.noSeat)), AV.str { data := List.toArray (Prod.snd (List.getD (Prod.fst f) 1 T.noSeat)) }],
        AObj.arr 1 (Seq.app (Seq.map encI (0 : Int) o) (Seq.raw [[AV.int IntKind.i64 (Prod.fst (List.getD (Prod.fst f) 1 T.noSeat))]]))]
        (q103_2 n Post)))
        (AWP Try.prog 27 n c103_4
        [(3, AV.msl 1 1 0 (List.length o)),
        (11,
        AV.agg
        (seats f)),
        (12, AV.int IntKind.i64 (2 : Int))]
        [AObj.cells
        (T.encFl f),
        AObj.arr 1 (Seq.map encI (0 : Int) o),
        AObj.cells [AV.int IntKind.i64 (Prod.fst (List.getD (Prod.fst f) 1 T.noSeat)), AV.str { data := List.toArray (Prod.snd (List.getD (Prod.fst f) 1 T.noSeat)) }]]
        (q103_2 n Post))) →
    AWP Try.prog 27 n c103_4
      [(3, AV.msl 1 1 0 (List.length o)),
        (11,
        AV.agg
        (seats f)),
        (12, AV.int IntKind.i64 (1 : Int))]
      [AObj.cells (T.encFl f), AObj.arr 1 (Seq.map encI (0 : Int) o)] (q103_2 n Post) := fun f o n Post h => Go.Ab.AWP.loop' g103 (Cfg.live g103) c103_4 (by kernel_rfl) (by kernel_rfl) (Go.Ab.kc (by kernel_rfl) h)
theorem v103_4m2 : ∀ (f : T.Fl) (o : List Int) (n : Nat) (Post : AV → List AObj → Prop),
  needP ((0 : Int) ≤ (2 : Int) ∧ (2 : Int) < (8 : Int))
      (condP (decide (Prod.fst (List.getD (Prod.fst f) 2 T.noSeat) > (0 : Int)))
        (needP (List.length o = List.length o ∧ (List.length o + 1) * 8 ≤ 140737488351232)
        (AWP Try.prog 27 n c103_4
        [(3, AV.msl 1 3 0 (List.length o + 1)),
        (11,
        AV.agg
        (seats f)),
        (12, AV.int IntKind.i64 (3 : Int))]
        [AObj.cells
        (T.encFl f),
        AObj.gone, AObj.cells [AV.int IntKind.i64 (Prod.fst (List.getD (Prod.fst f) 2 T.noSeat)), AV.str { data := List.toArray (Prod.snd (List.getD (Prod.fst f) 2 T.noSeat)) }],
        AObj.arr 1 (Seq.app (Seq.map encI (0 : Int) o) (Seq.raw [[AV.int IntKind.i64 (Prod.fst (List.getD (Prod.fst f) 2 T.noSeat))]]))]
        (q103_2 n Post)))
        (AWP Try.prog 27 n c103_4
        [(3, AV.msl 1 1 0 (List.length o)),
        (11,
        AV.agg
        (seats f)),
        (12, AV.int IntKind.i64 (3 : Int))]
        [AObj.cells
        (T.encFl f),
        AObj.arr 1 (Seq.map encI (0 : Int) o),
        AObj.cells [AV.int IntKind.i64 (Prod.fst (List.getD (Prod.fst f) 2 T.noSeat)), AV.str { data := List.toArray (Prod.snd (List.getD (Prod.fst f) 2 T.noSeat)) }]]
        (q103_2 n Post))) →
    AWP Try.prog 27 n c103_4
      [(3, AV.msl 1 1 0 (List.length o)),
        (11,
        AV.agg
        (seats f)),
        (12, AV.int IntKind.i64 (2 : Int))]
      [AObj.cells (T.encFl f), AObj.arr 1 (Seq.map encI (0 : Int) o)] (q103_2 n Post) := fun f o n Post h => Go.Ab.AWP.loop' g103 (Cfg.live g103) c103_4 (by kernel_rfl) (by kernel_rfl) (Go.Ab.kc (by kernel_rfl) h)
theorem v103_4m3 : ∀ (f : T.Fl) (o : List Int) (n : Nat) (Post : AV → List AObj → Prop),
  needP ((0 : Int) ≤ (3 : Int) ∧ (3 : Int) < (8 : Int))
      (condP (decide (Prod.fst (List.getD (Prod.fst f) 3 T.noSeat) > (0 : Int)))
        (needP (List.length o = List.length o ∧ (List.length o + 1) * 8 ≤ 140737488351232)
        (AWP Try.prog 27 n c103_4
        [(3, AV.msl 1 3 0 (List.length o + 1)),
        (11,
        AV.agg
        (seats f)),
        (12, AV.int IntKind.i64 (4 : Int))]
        [AObj.cells
        (T.encFl f),
        AObj.gone, AObj.cells [AV.int IntKind.i64 (Prod.fst (List.getD (Prod.fst f) 3 T.noSeat)), AV.str { data := List.toArray (Prod.snd (List.getD (Prod.fst f) 3 T.noSeat)) }],
        AObj.arr 1 (Seq.app (Seq.map encI (0 : Int) o) (Seq.raw [[AV.int IntKind.i64 (Prod.fst (List.getD (Prod.fst f) 3 T.noSeat))]]))]
        (q103_2 n Post)))
        (AWP Try.prog 27 n c103_4
        [(3, AV.msl 1 1 0 (List.length o)),
        (11,
        AV.agg
        (seats f)),
        (12, AV.int IntKind.i64 (4 : Int))]
        [AObj.cells
        (T.encFl f),
        AObj.arr 1 (Seq.map encI (0 : Int) o),
        AObj.cells [AV.int IntKind.i64 (Prod.fst (List.getD (Prod.fst f) 3 T.noSeat)), AV.str { data := List.toArray (Prod.snd (List.getD (Prod.fst f) 3 T.noSeat)) }]]
        (q103_2 n Post))) →
    AWP Try.prog 27 n c103_4
      [(3, AV.msl 1 1 0 (List.length o)),
        (11,
        AV.agg
        (seats f)),
        (12, AV.int IntKind.i64 (3 : Int))]
      [AObj.cells (T.encFl f), AObj.arr 1 (Seq.map encI (0 : Int) o)] (q103_2 n Post) := fun f o n Post h => Go.Ab.AWP.loop' g103 (Cfg.live g103) c103_4 (by kernel_rfl) (by kernel_rfl) (Go.Ab.kc (by kernel_rfl) h)
theorem v103_4m4 : ∀ (f : T.Fl) (o : List Int) (n : Nat) (Post : AV → List AObj → Prop),
  needP ((0 : Int) ≤ (4 : Int) ∧ (4 : Int) < (8 : Int))
      (condP (decide (Prod.fst (List.getD (Prod.fst f) 4 T.noSeat) > (0 : Int)))
        (needP (List.length o = List.length o ∧ (List.length o + 1) * 8 ≤ 140737488351232)
        (AWP Try.prog 27 n c103_4
        [(3, AV.msl 1 3 0 (List.length o + 1)),
        (11,
        AV.agg
        (seats f)),
        (12, AV.int IntKind.i64 (5 : Int))]
        [AObj.cells
        (T.encFl f),
        AObj.gone, AObj.cells [AV.int IntKind.i64 (Prod.fst (List.getD (Prod.fst f) 4 T.noSeat)), AV.str { data := List.toArray (Prod.snd (List.getD (Prod.fst f) 4 T.noSeat)) }],
        AObj.arr 1 (Seq.app (Seq.map encI (0 : Int) o) (Seq.raw [[AV.int IntKind.i64 (Prod.fst (List.getD (Prod.fst f) 4 T.noSeat))]]))]
        (q103_2 n Post)))
        (AWP Try.prog 27 n c103_4
        [(3, AV.msl 1 1 0 (List.length o)),
        (11,
        AV.agg
        (seats f)),
        (12, AV.int IntKind.i64 (5 : Int))]
        [AObj.cells
        (T.encFl f),
        AObj.arr 1 (Seq.map encI (0 : Int) o),
        AObj.cells [AV.int IntKind.i64 (Prod.fst (List.getD (Prod.fst f) 4 T.noSeat)), AV.str { data := List.toArray (Prod.snd (List.getD (Prod.fst f) 4 T.noSeat)) }]]
        (q103_2 n Post))) →
    AWP Try.prog 27 n c103_4
      [(3, AV.msl 1 1 0 (List.length o)),
        (11,
        AV.agg
        (seats f)),
        (12, AV.int IntKind.i64 (4 : Int))]
      [AObj.cells (T.encFl f), AObj.arr 1 (Seq.map encI (0 : Int) o)] (q103_2 n Post) := fun f o n Post h => Go.Ab.AWP.loop' g103 (Cfg.live g103) c103_4 (by kernel_rfl) (by kernel_rfl) (Go.Ab.kc (by kernel_rfl) h)
theorem v103_4m5 : ∀ (f : T.Fl) (o : List Int) (n : Nat) (Post : AV → List AObj → Prop),
  needP ((0 : Int) ≤ (5 : Int) ∧ (5 : Int) < (8 : Int))
      (condP (decide (Prod.fst (List.getD (Prod.fst f) 5 T.noSeat) > (0 : Int)))
        (needP (List.length o = List.length o ∧ (List.length o + 1) * 8 ≤ 140737488351232)
        (AWP Try.prog 27 n c103_4
        [(3, AV.msl 1 3 0 (List.length o + 1)),
        (11,
        AV.agg
        (seats f)),
        (12, AV.int IntKind.i64 (6 : Int))]
        [AObj.cells
        (T.encFl f),
        AObj.gone, AObj.cells [AV.int IntKind.i64 (Prod.fst (List.getD (Prod.fst f) 5 T.noSeat)), AV.str { data := List.toArray (Prod.snd (List.getD (Prod.fst f) 5 T.noSeat)) }],
        AObj.arr 1 (Seq.app (Seq.map encI (0 : Int) o) (Seq.raw [[AV.int IntKind.i64 (Prod.fst (List.getD (Prod.fst f) 5 T.noSeat))]]))]
        (q103_2 n Post)))
        (AWP Try.prog 27 n c103_4
        [(3, AV.msl 1 1 0 (List.length o)),
        (11,
        AV.agg
        (seats f)),
        (12, AV.int IntKind.i64 (6 : Int))]
        [AObj.cells
        (T.encFl f),
        AObj.arr 1 (Seq.map encI (0 : Int) o),
        AObj.cells [AV.int IntKind.i64 (Prod.fst (List.getD (Prod.fst f) 5 T.noSeat)), AV.str { data := List.toArray (Prod.snd (List.getD (Prod.fst f) 5 T.noSeat)) }]]
        (q103_2 n Post))) →
    AWP Try.prog 27 n c103_4
      [(3, AV.msl 1 1 0 (List.length o)),
        (11,
        AV.agg
        (seats f)),
        (12, AV.int IntKind.i64 (5 : Int))]
      [AObj.cells (T.encFl f), AObj.arr 1 (Seq.map encI (0 : Int) o)] (q103_2 n Post) := fun f o n Post h => Go.Ab.AWP.loop' g103 (Cfg.live g103) c103_4 (by kernel_rfl) (by kernel_rfl) (Go.Ab.kc (by kernel_rfl) h)
theorem v103_4m6 : ∀ (f : T.Fl) (o : List Int) (n : Nat) (Post : AV → List AObj → Prop),
  needP ((0 : Int) ≤ (6 : Int) ∧ (6 : Int) < (8 : Int))
      (condP (decide (Prod.fst (List.getD (Prod.fst f) 6 T.noSeat) > (0 : Int)))
        (needP (List.length o = List.length o ∧ (List.length o + 1) * 8 ≤ 140737488351232)
        (AWP Try.prog 27 n c103_4
        [(3, AV.msl 1 3 0 (List.length o + 1)),
        (11,
        AV.agg
        (seats f)),
        (12, AV.int IntKind.i64 (7 : Int))]
        [AObj.cells
        (T.encFl f),
        AObj.gone, AObj.cells [AV.int IntKind.i64 (Prod.fst (List.getD (Prod.fst f) 6 T.noSeat)), AV.str { data := List.toArray (Prod.snd (List.getD (Prod.fst f) 6 T.noSeat)) }],
        AObj.arr 1 (Seq.app (Seq.map encI (0 : Int) o) (Seq.raw [[AV.int IntKind.i64 (Prod.fst (List.getD (Prod.fst f) 6 T.noSeat))]]))]
        (q103_2 n Post)))
        (AWP Try.prog 27 n c103_4
        [(3, AV.msl 1 1 0 (List.length o)),
        (11,
        AV.agg
        (seats f)),
        (12, AV.int IntKind.i64 (7 : Int))]
        [AObj.cells
        (T.encFl f),
        AObj.arr 1 (Seq.map encI (0 : Int) o),
        AObj.cells [AV.int IntKind.i64 (Prod.fst (List.getD (Prod.fst f) 6 T.noSeat)), AV.str { data := List.toArray (Prod.snd (List.getD (Prod.fst f) 6 T.noSeat)) }]]
        (q103_2 n Post))) →
    AWP Try.prog 27 n c103_4
      [(3, AV.msl 1 1 0 (List.length o)),
        (11,
        AV.agg
        (seats f)),
        (12, AV.int IntKind.i64 (6 : Int))]
      [AObj.cells (T.encFl f), AObj.arr 1 (Seq.map encI (0 : Int) o)] (q103_2 n Post) := fun f o n Post h => Go.Ab.AWP.loop' g103 (Cfg.live g103) c103_4 (by kernel_rfl) (by kernel_rfl) (Go.Ab.kc (by kernel_rfl) h)
theorem v103_4m7 : ∀ (f : T.Fl) (o : List Int) (n : Nat) (Post : AV → List AObj → Prop),
  needP ((0 : Int) ≤ (7 : Int) ∧ (7 : Int) < (8 : Int))
      (condP (decide (Prod.fst (List.getD (Prod.fst f) 7 T.noSeat) > (0 : Int)))
        (needP (List.length o = List.length o ∧ (List.length o + 1) * 8 ≤ 140737488351232)
        (AWP Try.prog 27 n c103_4
        [(3, AV.msl 1 3 0 (List.length o + 1)),
        (11,
        AV.agg
        (seats f)),
        (12, AV.int IntKind.i64 (8 : Int))]
        [AObj.cells
        (T.encFl f),
        AObj.gone, AObj.cells [AV.int IntKind.i64 (Prod.fst (List.getD (Prod.fst f) 7 T.noSeat)), AV.str { data := List.toArray (Prod.snd (List.getD (Prod.fst f) 7 T.noSeat)) }],
        AObj.arr 1 (Seq.app (Seq.map encI (0 : Int) o) (Seq.raw [[AV.int IntKind.i64 (Prod.fst (List.getD (Prod.fst f) 7 T.noSeat))]]))]
        (q103_2 n Post)))
        (AWP Try.prog 27 n c103_4
        [(3, AV.msl 1 1 0 (List.length o)),
        (11,
        AV.agg
        (seats f)),
        (12, AV.int IntKind.i64 (8 : Int))]
        [AObj.cells
        (T.encFl f),
        AObj.arr 1 (Seq.map encI (0 : Int) o),
        AObj.cells [AV.int IntKind.i64 (Prod.fst (List.getD (Prod.fst f) 7 T.noSeat)), AV.str { data := List.toArray (Prod.snd (List.getD (Prod.fst f) 7 T.noSeat)) }]]
        (q103_2 n Post))) →
    AWP Try.prog 27 n c103_4
      [(3, AV.msl 1 1 0 (List.length o)),
        (11,
        AV.agg
        (seats f)),
        (12, AV.int IntKind.i64 (7 : Int))]
      [AObj.cells (T.encFl f), AObj.arr 1 (Seq.map encI (0 : Int) o)] (q103_2 n Post) := fun f o n Post h => Go.Ab.AWP.loop' g103 (Cfg.live g103) c103_4 (by kernel_rfl) (by kernel_rfl) (Go.Ab.kc (by kernel_rfl) h)
theorem v103_4m8 : ∀ (f : T.Fl) (o : List Int) (n : Nat) (Post : AV → List AObj → Prop),
  AWP Try.prog 27 n c103_9 [(3, AV.msl 1 1 0 (List.length o))]
      [AObj.cells
        (T.encFl f),
        AObj.arr 1 (Seq.map encI (0 : Int) o)]
      (q103_0 n Post) →
    AWP Try.prog 27 n c103_4
      [(3, AV.msl 1 1 0 (List.length o)),
        (11,
        AV.agg
        (seats f)),
        (12, AV.int IntKind.i64 (8 : Int))]
      [AObj.cells (T.encFl f), AObj.arr 1 (Seq.map encI (0 : Int) o)] (q103_2 n Post) := fun f o n Post h => Go.Ab.AWP.loop' g103 (Cfg.live g103) c103_4 (by kernel_rfl) (by kernel_rfl) (Go.Ab.kc (by kernel_rfl) h)
noncomputable def c103_10 : Go.Code := codeSnd c103_9
theorem v103_9n : ∀ (f : T.Fl) (n : Nat) (Post : AV → List AObj → Prop),
  (ASpec Try.prog 217 [AV.sl 0 (Seq.raw []) Tip.nil]
      [AObj.cells
        (T.encFl f)]
      fun (r : AV) (H' : List AObj) =>
      (∃ (x : Unit),
        r = AV.tup [] ∧
        H' =
        [AObj.cells
        (T.encFl f)] ∧
        AWP Try.prog 27 n c103_10 [(3, AV.sl 0 (Seq.raw []) Tip.nil)]
        [AObj.cells
        (T.encFl f)]
        (q103_0 n Post)) ∨
        ∃ (x : List Int),
        r = AV.tup [] ∧
        H' =
        [AObj.cells
        (T.encFl f)] ∧
        AWP Try.prog 27 n c103_10 [(3, AV.sl 0 (Seq.raw []) Tip.nil)]
        [AObj.cells
        (T.encFl f)]
        (q103_0 n Post)) →
    AWP Try.prog 27 n c103_9 [(3, AV.sl 0 (Seq.raw []) Tip.nil)] [AObj.cells (T.encFl f)] (q103_0 n Post) := fun f n Post h => Go.Ab.awp_sound g103 n _ _ _ _ (Go.Ab.kc (by kernel_rfl) h)
theorem v103_9z : ∀ (n : Nat) (Post : AV → List AObj → Prop),
  (ASpec Try.prog 217 [AV.sl 0 (Seq.raw []) Tip.nil] [] fun (r : AV) (H' : List AObj) =>
      (∃ (x : Unit), r = AV.tup [] ∧ H' = [] ∧ AWP Try.prog 27 n c103_10 [(3, AV.sl 0 (Seq.raw []) Tip.nil)] [] (q103_0 n Post)) ∨
        ∃ (x : List Int), r = AV.tup [] ∧ H' = [] ∧ AWP Try.prog 27 n c103_10 [(3, AV.sl 0 (Seq.raw []) Tip.nil)] [] (q103_0 n Post)) →
    AWP Try.prog 27 n c103_9 [(3, AV.sl 0 (Seq.raw []) Tip.nil)] [] (q103_0 n Post) := fun n Post h => Go.Ab.awp_sound g103 n _ _ _ _ (Go.Ab.kc (by kernel_rfl) h)
theorem v103_9m : ∀ (f : T.Fl) (o : List Int) (n : Nat) (Post : AV → List AObj → Prop),
  (ASpec Try.prog 217 [AV.msl 1 1 0 (List.length o)]
      [AObj.cells
        (T.encFl f),
        AObj.arr 1 (Seq.map encI (0 : Int) o)]
      fun (r : AV) (H' : List AObj) =>
      (∃ (x : Unit),
        r = AV.tup [] ∧
        H' =
        [AObj.cells
        (T.encFl f),
        AObj.arr 1 (Seq.map encI (0 : Int) o)] ∧
        AWP Try.prog 27 n c103_10 [(3, AV.msl 1 1 0 (List.length o))]
        [AObj.cells
        (T.encFl f),
        AObj.arr 1 (Seq.map encI (0 : Int) o)]
        (q103_0 n Post)) ∨
        ∃ (x : List Int),
        r = AV.tup [] ∧
        H' =
        [AObj.cells
        (T.encFl f),
        AObj.arr 1 (Seq.map encI (0 : Int) x)] ∧
        AWP Try.prog 27 n c103_10 [(3, AV.msl 1 1 0 (List.length o))]
        [AObj.cells
        (T.encFl f),
        AObj.arr 1 (Seq.map encI (0 : Int) x)]
        (q103_0 n Post)) →
    AWP Try.prog 27 n c103_9 [(3, AV.msl 1 1 0 (List.length o))] [AObj.cells (T.encFl f), AObj.arr 1 (Seq.map encI (0 : Int) o)] (q103_0 n Post) := fun f o n Post h => Go.Ab.awp_sound g103 n _ _ _ _ (Go.Ab.kc (by kernel_rfl) h)
theorem v103_10n : ∀ (f : T.Fl) (n : Nat) (Post : AV → List AObj → Prop),
  Post (AV.sl 0 (Seq.raw []) Tip.nil)
      [AObj.cells
        (T.encFl f)] →
    AWP Try.prog 27 n c103_10 [(3, AV.sl 0 (Seq.raw []) Tip.nil)] [AObj.cells (T.encFl f)] (q103_0 n Post) := fun f n Post h => Go.Ab.awp_sound g103 n _ _ _ _ (Go.Ab.kc (by kernel_rfl) h)
theorem v103_10z : ∀ (n : Nat) (Post : AV → List AObj → Prop), Post (AV.sl 0 (Seq.raw []) Tip.nil) [] → AWP Try.prog 27 n c103_10 [(3, AV.sl 0 (Seq.raw []) Tip.nil)] [] (q103_0 n Post) := fun n Post h => Go.Ab.awp_sound g103 n _ _ _ _ (Go.Ab.kc (by kernel_rfl) h)
theorem v103_10m : ∀ (f : T.Fl) (o : List Int) (n : Nat) (Post : AV → List AObj → Prop),
  Post (AV.msl 1 1 0 (List.length o))
      [AObj.cells
        (T.encFl f),
        AObj.arr 1 (Seq.map encI (0 : Int) o)] →
    AWP Try.prog 27 n c103_10 [(3, AV.msl 1 1 0 (List.length o))] [AObj.cells (T.encFl f), AObj.arr 1 (Seq.map encI (0 : Int) o)] (q103_0 n Post) := fun f o n Post h => Go.Ab.awp_sound g103 n _ _ _ _ (Go.Ab.kc (by kernel_rfl) h)

-- 100
noncomputable def l100 : Nat → List Nat
  | _ => []
noncomputable def u100 : Nat → Bool
  | _ => false
noncomputable def m100 : Nat → Bool
  | _ => false
noncomputable def g100 : Cfg := { N := 6, live := l100, cut := u100, mu := m100, ret := rets }
theorem s100m : ∀ (f : T.Fl) (Post : AV → List AObj → Prop),
  (ASpec Try.prog 103 [AV.ptr 0 0]
      [AObj.cells
        (T.encFl f)]
      fun (r : AV) (H' : List AObj) =>
      ∃ (x : List Int),
        r = AV.sl 1 (Seq.map encI (0 : Int) x) Tip.none ∧
        H' =
        [AObj.cells
        (T.encFl f)] ∧
        Post (AV.int IntKind.i64 (↑(List.length x) : Int))
        [AObj.cells
        (T.encFl f)]) →
    ASpec Try.prog 100 [AV.ptr 0 0] [AObj.cells (T.encFl f)] Post := fun f Post h => Go.Ab.ASpec.of_vc g100 Go.Proofs.Try.func100 (by kernel_rfl) (by kernel_rfl) (by kernel_rfl) (Go.Ab.kc (by kernel_rfl) h)
theorem s100n : ∀ (Post : AV → List AObj → Prop),
  (ASpec Try.prog 103 [AV.nilp] [] fun (r : AV) (H' : List AObj) =>
      ∃ (x : List Int), r = AV.sl 1 (Seq.map encI (0 : Int) x) Tip.none ∧ H' = [] ∧ Post (AV.int IntKind.i64 (↑(List.length x) : Int)) []) →
    ASpec Try.prog 100 [AV.nilp] [] Post := fun Post h => Go.Ab.ASpec.of_vc g100 Go.Proofs.Try.func100 (by kernel_rfl) (by kernel_rfl) (by kernel_rfl) (Go.Ab.kc (by kernel_rfl) h)

-- 104
noncomputable def l104 : Nat → List Nat
  | _ => []
noncomputable def u104 : Nat → Bool
  | _ => false
noncomputable def m104 : Nat → Bool
  | _ => false
noncomputable def g104 : Cfg := { N := 9, live := l104, cut := u104, mu := m104, ret := rets }
theorem s104m : ∀ (f : T.Fl) (Post : AV → List AObj → Prop),
  Post (AV.int IntKind.i64 (Prod.snd (Prod.snd f)))
      [AObj.cells
        (T.encFl f)] →
    ASpec Try.prog 104 [AV.ptr 0 0] [AObj.cells (T.encFl f)] Post := fun f Post h => Go.Ab.ASpec.of_vc g104 Go.Proofs.Try.func104 (by kernel_rfl) (by kernel_rfl) (by kernel_rfl) (Go.Ab.kc (by kernel_rfl) h)
theorem s104n : ∀ (Post : AV → List AObj → Prop), Post (AV.int IntKind.i64 (0 : Int)) [] → ASpec Try.prog 104 [AV.nilp] [] Post := fun Post h => Go.Ab.ASpec.of_vc g104 Go.Proofs.Try.func104 (by kernel_rfl) (by kernel_rfl) (by kernel_rfl) (Go.Ab.kc (by kernel_rfl) h)

-- 96
noncomputable def l96 : Nat → List Nat
  | _ => []
noncomputable def u96 : Nat → Bool
  | _ => false
noncomputable def m96 : Nat → Bool
  | _ => false
noncomputable def g96 : Cfg := { N := 12, live := l96, cut := u96, mu := m96, ret := rets }
theorem s96 : ∀ (w : Int) (Post : AV → List AObj → Prop),
  condP (decide (w < (1 : Int))) (Post AV.nilp [])
      (condP (decide (w > (8 : Int))) (Post AV.nilp [])
        (Post (AV.ptr 0 0)
        [AObj.cells
        [AV.int IntKind.i64 (0 : Int), AV.str { data := #[] }, AV.int IntKind.i64 (0 : Int), AV.str { data := #[] }, AV.int IntKind.i64 (0 : Int), AV.str { data := #[] },
        AV.int IntKind.i64 (0 : Int), AV.str { data := #[] }, AV.int IntKind.i64 (0 : Int), AV.str { data := #[] }, AV.int IntKind.i64 (0 : Int), AV.str { data := #[] },
        AV.int IntKind.i64 (0 : Int), AV.str { data := #[] }, AV.int IntKind.i64 (0 : Int), AV.str { data := #[] }, AV.int IntKind.i64 w, AV.int IntKind.i64 (0 : Int)]])) →
    ASpec Try.prog 96 [AV.int IntKind.i64 w] [] Post := fun w Post h => Go.Ab.ASpec.of_vc g96 Go.Proofs.Try.func96 (by kernel_rfl) (by kernel_rfl) (by kernel_rfl) (Go.Ab.kc (by kernel_rfl) h)

-- 95
noncomputable def l95 : Nat → List Nat
  | 2 => [1]
  | 3 => [1, 2, 3]
  | 4 => [1, 2, 3, 5]
  | 5 => [1, 2, 3, 5, 6, 7]
  | 6 => [1, 2, 3, 5, 6, 7, 8, 9]
  | 7 => [2, 3, 5, 6, 7, 8, 9, 11]
  | _ => []
noncomputable def u95 : Nat → Bool
  | 2 => true
  | 3 => true
  | 4 => true
  | 5 => true
  | 6 => true
  | 7 => true
  | _ => false
noncomputable def m95 : Nat → Bool
  | _ => false
noncomputable def g95 : Cfg := { N := 65, live := l95, cut := u95, mu := m95, ret := rets }
noncomputable def c95 : Go.Code := Go.Ab.bodyOf Go.Proofs.Try.f95
noncomputable def q95_0 : Nat → (AV → List AObj → Prop) → AQ := fun (n : Nat) (Post : AV → List AObj → Prop) => endQ Try.prog (resultsOf Try.f95) Post
noncomputable def c95_2 : Go.Code := codeSnd (codeSnd c95)
theorem s95 : ∀ (Post : AV → List AObj → Prop),
  (ASpec Try.prog 96 [AV.int IntKind.i64 (1 : Int)] [] fun (r : AV) (H' : List AObj) =>
      (∃ (x : Unit), r = AV.nilp ∧ H' = [] ∧ AWP Try.prog 65 0 c95_2 [(1, AV.nilp)] [] (q95_0 0 Post)) ∨
        ∃ (x : List T.Seat × Int × Int),
        r = AV.ptr 0 0 ∧
        H' =
        [AObj.cells
        (T.encFl x)] ∧
        AWP Try.prog 65 0 c95_2 [(1, AV.ptr 0 0)]
        [AObj.cells
        (T.encFl x)]
        (q95_0 0 Post)) →
    ASpec Try.prog 95 [] [] Post := fun Post h => Go.Ab.ASpec.of_vc g95 Go.Proofs.Try.func95 (by kernel_rfl) (by kernel_rfl) (by kernel_rfl) (Go.Ab.kc (by kernel_rfl) h)
noncomputable def c95_3 : Go.Code := codeSnd c95_2
theorem v95_2 : ∀ (f : T.Fl) (n : Nat) (Post : AV → List AObj → Prop),
  (ASpec Try.prog 98 [AV.ptr 0 0, AV.str { data := #[(97 : UInt8)] }]
      [AObj.cells
        (T.encFl f)]
      fun (r : AV) (H' : List AObj) =>
      (∃ (x : Int × Bool),
        r = AV.tup [AV.int IntKind.i64 (Prod.fst x), AV.bool (Prod.snd x)] ∧
        H' =
        [AObj.cells
        (T.encFl f)] ∧
        AWP Try.prog 65 n c95_3 [(1, AV.ptr 0 0), (2, AV.int IntKind.i64 (Prod.fst x)), (3, AV.bool (Prod.snd x))]
        [AObj.cells
        (T.encFl f)]
        (q95_0 n Post)) ∨
        ∃ (x : (Int × Bool) × T.Fl),
        r = AV.tup [AV.int IntKind.i64 (Prod.fst (Prod.fst x)), AV.bool (Prod.snd (Prod.fst x))] ∧
        H' =
        [AObj.cells
        (T.encFl (Prod.snd x))] ∧
        AWP Try.prog 65 n c95_3 [(1, AV.ptr 0 0), (2, AV.int IntKind.i64 (Prod.fst (Prod.fst x))), (3, AV.bool (Prod.snd (Prod.fst x)))]
        [AObj.cells
        (T.encFl (Prod.snd x))]
        (q95_0 n Post)) →
    AWP Try.prog 65 n c95_2 [(1, AV.ptr 0 0)] [AObj.cells (T.encFl f)] (q95_0 n Post) := fun f n Post h => Go.Ab.awp_sound g95 n _ _ _ _ (Go.Ab.kc (by kernel_rfl) h)
noncomputable def c95_4 : Go.Code := codeSnd c95_3
theorem v95_3 : ∀ (f : T.Fl) (a : Int) (b : Bool) (n : Nat) (Post : AV → List AObj → Prop),
  (ASpec Try.prog 98 [AV.ptr 0 0, AV.str { data := #[(98 : UInt8)] }]
      [AObj.cells
        (T.encFl f)]
      fun (r : AV) (H' : List AObj) =>
      (∃ (x : Int × Bool),
        r = AV.tup [AV.int IntKind.i64 (Prod.fst x), AV.bool (Prod.snd x)] ∧
        H' =
        [AObj.cells
        (T.encFl f)] ∧
        AWP Try.prog 65 n c95_4 [(1, AV.ptr 0 0), (2, AV.int IntKind.i64 a), (3, AV.bool b), (5, AV.bool (Prod.snd x))]
        [AObj.cells
        (T.encFl f)]
        (q95_0 n Post)) ∨
        ∃ (x : (Int × Bool) × T.Fl),
        r = AV.tup [AV.int IntKind.i64 (Prod.fst (Prod.fst x)), AV.bool (Prod.snd (Prod.fst x))] ∧
        H' =
        [AObj.cells
        (T.encFl (Prod.snd x))] ∧
        AWP Try.prog 65 n c95_4 [(1, AV.ptr 0 0), (2, AV.int IntKind.i64 a), (3, AV.bool b), (5, AV.bool (Prod.snd (Prod.fst x)))]
        [AObj.cells
        (T.encFl (Prod.snd x))]
        (q95_0 n Post)) →
    AWP Try.prog 65 n c95_3 [(1, AV.ptr 0 0), (2, AV.int IntKind.i64 a), (3, AV.bool b)] [AObj.cells (T.encFl f)] (q95_0 n Post) := fun f a b n Post h => Go.Ab.awp_sound g95 n _ _ _ _ (Go.Ab.kc (by kernel_rfl) h)
noncomputable def c95_5 : Go.Code := codeSnd c95_4
theorem v95_4 : ∀ (f : T.Fl) (a : Int) (b c : Bool) (n : Nat) (Post : AV → List AObj → Prop),
  (ASpec Try.prog 99 [AV.ptr 0 0, AV.int IntKind.i64 (1 : Int)]
      [AObj.cells
        (T.encFl f)]
      fun (r : AV) (H' : List AObj) =>
      (∃ (x : List UInt8 × Bool),
        r = AV.tup [AV.str { data := List.toArray (Prod.fst x) }, AV.bool (Prod.snd x)] ∧
        H' =
        [AObj.cells
        (T.encFl f)] ∧
        AWP Try.prog 65 n c95_5
        [(1, AV.ptr 0 0), (2, AV.int IntKind.i64 a), (3, AV.bool b), (5, AV.bool c), (6, AV.str { data := List.toArray (Prod.fst x) }),
        (7, AV.bool (Prod.snd x))]
        [AObj.cells
        (T.encFl f)]
        (q95_0 n Post)) ∨
        ∃ (x : (List UInt8 × Bool) × T.Fl),
        r = AV.tup [AV.str { data := List.toArray (Prod.fst (Prod.fst x)) }, AV.bool (Prod.snd (Prod.fst x))] ∧
        H' =
        [AObj.cells
        (T.encFl (Prod.snd x))] ∧
        AWP Try.prog 65 n c95_5
        [(1, AV.ptr 0 0), (2, AV.int IntKind.i64 a), (3, AV.bool b), (5, AV.bool c),
        (6, AV.str { data := List.toArray (Prod.fst (Prod.fst x)) }), (7, AV.bool (Prod.snd (Prod.fst x)))]
        [AObj.cells
        (T.encFl (Prod.snd x))]
        (q95_0 n Post)) →
    AWP Try.prog 65 n c95_4 [(1, AV.ptr 0 0), (2, AV.int IntKind.i64 a), (3, AV.bool b), (5, AV.bool c)] [AObj.cells (T.encFl f)] (q95_0 n Post) := fun f a b c n Post h => Go.Ab.awp_sound g95 n _ _ _ _ (Go.Ab.kc (by kernel_rfl) h)
noncomputable def c95_6 : Go.Code := codeSnd c95_5
theorem v95_5 : ∀ (f : T.Fl) (a : Int) (b c : Bool) (s : List UInt8) (d : Bool) (n : Nat) (Post : AV → List AObj → Prop),
  (ASpec Try.prog 98 [AV.ptr 0 0, AV.str { data := #[(98 : UInt8)] }]
      [AObj.cells
        (T.encFl f)]
      fun (r : AV) (H' : List AObj) =>
      (∃ (x : Int × Bool),
        r = AV.tup [AV.int IntKind.i64 (Prod.fst x), AV.bool (Prod.snd x)] ∧
        H' =
        [AObj.cells
        (T.encFl f)] ∧
        AWP Try.prog 65 n c95_6
        [(1, AV.ptr 0 0), (2, AV.int IntKind.i64 a), (3, AV.bool b), (5, AV.bool c), (6, AV.str { data := List.toArray s }),
        (7, AV.bool d), (8, AV.int IntKind.i64 (Prod.fst x)), (9, AV.bool (Prod.snd x))]
        [AObj.cells
        (T.encFl f)]
        (q95_0 n Post)) ∨
        ∃ (x : (Int × Bool) × T.Fl),
        r = AV.tup [AV.int IntKind.i64 (Prod.fst (Prod.fst x)), AV.bool (Prod.snd (Prod.fst x))] ∧
        H' =
        [AObj.cells
        (T.encFl (Prod.snd x))] ∧
        AWP Try.prog 65 n c95_6
        [(1, AV.ptr 0 0), (2, AV.int IntKind.i64 a), (3, AV.bool b), (5, AV.bool c), (6, AV.str { data := List.toArray s }),
        (7, AV.bool d), (8, AV.int IntKind.i64 (Prod.fst (Prod.fst x))), (9, AV.bool (Prod.snd (Prod.fst x)))]
        [AObj.cells
        (T.encFl (Prod.snd x))]
        (q95_0 n Post)) →
    AWP Try.prog 65 n c95_5
      [(1, AV.ptr 0 0), (2, AV.int IntKind.i64 a), (3, AV.bool b), (5, AV.bool c), (6, AV.str { data := List.toArray s }),
        (7, AV.bool d)]
      [AObj.cells (T.encFl f)] (q95_0 n Post) := fun f a b c s d n Post h => Go.Ab.awp_sound g95 n _ _ _ _ (Go.Ab.kc (by kernel_rfl) h)
noncomputable def c95_7 : Go.Code := codeSnd c95_6
theorem v95_6 : ∀ (f : T.Fl) (a : Int) (b c : Bool) (s : List UInt8) (d : Bool) (e : Int) (g : Bool) (n : Nat) (Post : AV → List AObj → Prop),
  (ASpec Try.prog 99 [AV.ptr 0 0, AV.int IntKind.i64 (1 : Int)]
      [AObj.cells
        (T.encFl f)]
      fun (r : AV) (H' : List AObj) =>
      (∃ (x : List UInt8 × Bool),
        r = AV.tup [AV.str { data := List.toArray (Prod.fst x) }, AV.bool (Prod.snd x)] ∧
        H' =
        [AObj.cells
        (T.encFl f)] ∧
        AWP Try.prog 65 n c95_7
        [(2, AV.int IntKind.i64 a), (3, AV.bool b), (5, AV.bool c), (6, AV.str { data := List.toArray s }), (7, AV.bool d),
        (8, AV.int IntKind.i64 e), (9, AV.bool g), (11, AV.bool (Prod.snd x))]
        [AObj.cells
        (T.encFl f)]
        (q95_0 n Post)) ∨
        ∃ (x : (List UInt8 × Bool) × T.Fl),
        r = AV.tup [AV.str { data := List.toArray (Prod.fst (Prod.fst x)) }, AV.bool (Prod.snd (Prod.fst x))] ∧
        H' =
        [AObj.cells
        (T.encFl (Prod.snd x))] ∧
        AWP Try.prog 65 n c95_7
        [(2, AV.int IntKind.i64 a), (3, AV.bool b), (5, AV.bool c), (6, AV.str { data := List.toArray s }), (7, AV.bool d),
        (8, AV.int IntKind.i64 e), (9, AV.bool g), (11, AV.bool (Prod.snd (Prod.fst x)))]
        [AObj.cells
        (T.encFl (Prod.snd x))]
        (q95_0 n Post)) →
    AWP Try.prog 65 n c95_6
      [(1, AV.ptr 0 0), (2, AV.int IntKind.i64 a), (3, AV.bool b), (5, AV.bool c), (6, AV.str { data := List.toArray s }),
        (7, AV.bool d), (8, AV.int IntKind.i64 e), (9, AV.bool g)]
      [AObj.cells (T.encFl f)] (q95_0 n Post) := fun f a b c s d e g n Post h => Go.Ab.awp_sound g95 n _ _ _ _ (Go.Ab.kc (by kernel_rfl) h)
theorem v95_7 : ∀ (a : Int) (b c : Bool) (s : List UInt8) (d : Bool) (e : Int) (g h : Bool) (n : Nat) (Post : AV → List AObj → Prop),
  condP (a == (1 : Int))
      (condP b
        (condP (!c)
        (condP (ByteArray.toList { data := List.toArray s } == ByteArray.toList { data := #[(97 : UInt8)] })
        (condP d (condP (e == (2 : Int)) (condP g (Post (AV.bool !h) []) (Post (AV.bool false) [])) (Post (AV.bool false) [])) (Post (AV.bool false) [])) (Post (AV.bool false) []))
        (Post (AV.bool false) []))
        (Post (AV.bool false) []))
      (Post (AV.bool false) []) →
    AWP Try.prog 65 n c95_7
      [(2, AV.int IntKind.i64 a), (3, AV.bool b), (5, AV.bool c), (6, AV.str { data := List.toArray s }), (7, AV.bool d), (8, AV.int IntKind.i64 e),
        (9, AV.bool g), (11, AV.bool h)]
      [] (q95_0 n Post) := fun a b c s d e g h n Post h => Go.Ab.awp_sound g95 n _ _ _ _ (Go.Ab.kc (by kernel_rfl) h)

-- 12
end
end Fy
end

section
/- The plain law of numbers as bytes. -/

namespace V

end V
end

section
/- vlq.Put: what it computes. -/

set_option linter.unusedVariables false
set_option linter.unusedSimpArgs false
open Go Go.Ab Go.Proofs
namespace V

end V
end

section
/- The reader of bytes: what its methods compute. -/

set_option linter.unusedVariables false
set_option linter.unusedSimpArgs false
open Go Go.Ab Go.Proofs
namespace V

end V
end

section
/- The document's numbers, texts and reader: what they compute. -/

set_option linter.unusedVariables false
set_option linter.unusedSimpArgs false
open Go Go.Ab Go.Proofs
namespace V

abbrev B (l : List UInt8) : ByteArray := ⟨l.toArray⟩

theorem B_size (l : List UInt8) : (B l).size = l.length := by simp [ByteArray.size]
theorem B_toList (l : List UInt8) : (B l).toList = l := by rw [ByteArray.toList_eq]
theorem B_beq (a b : List UInt8) : ((B a).toList == (B b).toList) = (a == b) := by rw [B_toList, B_toList]
theorem condS {a b : List UInt8} {A C : Prop} (h1 : a = b → A) (h2 : a ≠ b → C) : condP ((B a).toList == (B b).toList) A C := by
  rw [B_beq]
  by_cases h : a = b
  · rw [beq_iff_eq.2 h]; exact h1 h
  · rw [beq_eq_false_iff_ne.2 h]; exact h2 h

/-! ### numbers -/

/-! ### the document's look -/

end V
end

section
/- Readers as objects, in any heap; the chapter's examples. -/

set_option linter.unusedVariables false
set_option linter.unusedSimpArgs false
open Go Go.Ab Go.Proofs
namespace V

end V
end

section
/- VlqOrder: the law's function returns true. -/

set_option linter.unusedVariables false
set_option linter.unusedSimpArgs false
open Go Go.Ab Go.Proofs
namespace V

end V
end

section
/- VlqBack: what was put is read: the law's function returns true. -/

set_option linter.unusedVariables false
set_option linter.unusedSimpArgs false
open Go Go.Ab Go.Proofs
namespace V

end V
end

section
/- The document's reader, and a reader that is none: what their methods compute, in any heap. -/

set_option linter.unusedVariables false
set_option linter.unusedSimpArgs false
open Go Go.Ab Go.Proofs
namespace V

theorem condSn {a b : List UInt8} {A C : Prop} (h1 : a ≠ b → A) (h2 : a = b → C) : condP (!(B a).toList == (B b).toList) A C := by
  rw [B_beq]
  by_cases h : a = b
  · rw [beq_iff_eq.2 h]; exact h2 h
  · rw [beq_eq_false_iff_ne.2 h]; exact h1 h

/-! ### a reader that is none -/

/-! ### the reader and the document's -/

end V
end

section
/- Events as cells. -/

open Go Go.Ab Go.Proofs
namespace T
/-- kind, needs, ticks, ticket, body -/
abbrev Ev := Int × List Need × Int × Int × List UInt8
end T
end

section
/- Printed: what the code of functions 328, 329, 375, 376, 377, 394, 282, 48, 330, 190, 283, 189, 194, 70, 188, 187, 281, 415, 72, 71 asks for, by the framework's own reading of it; each line is checked against the code. -/

set_option linter.unusedVariables false
set_option maxRecDepth 100000
set_option maxHeartbeats 4000000
open Go Go.Ab Go.Proofs
namespace E
noncomputable section

end
end E
end

section
/- Printed: what the code of functions 184, 264, 172, 270, 271, 273, 272, 276, 275, 274, 181, 326, 277 asks for, by the framework's own reading of it; each line is checked against the code. -/

set_option linter.unusedVariables false
set_option maxRecDepth 100000
set_option maxHeartbeats 4000000
open Go Go.Ab Go.Proofs
namespace W
noncomputable section

end
end W
end

section
/- Printed: what the code of functions 373, 324, 393, 372, 323, 263, 170, 253, 165, 154, 322, 261, 164, 39, 262, 325, 45 asks for, by the framework's own reading of it; each line is checked against the code. -/

set_option linter.unusedVariables false
set_option maxRecDepth 100000
set_option maxHeartbeats 4000000
open Go Go.Ab Go.Proofs
namespace S
noncomputable section

end
end S
end

section
/- Stamps: what the code and the document sum up, close and open. -/

set_option linter.unusedVariables false
set_option linter.unusedSimpArgs false
open Go Go.Ab Go.Proofs V
namespace Go.Ab

theorem Le.tup {l r : List AV} (h : Les l r) : Le (.tup l) (.tup r) := by
  intro M w loc v hv
  cases hv with
  | tup _ vs hs hr =>
    have hl := h.len
    exact .tup _ vs (by omega) fun i hi => h.get i (by omega) hi M w loc _ (hr i (by omega))

theorem Le.agg {l r : List AV} (h : Les l r) : Le (.agg l) (.agg r) := by
  intro M w loc v hv
  cases hv with
  | agg _ vs hs hr =>
    have hl := h.len
    exact .agg _ vs (by omega) fun i hi => h.get i (by omega) hi M w loc _ (hr i (by omega))

end Go.Ab
namespace S

def fnv : Nat → List UInt8 → Nat
  | n, [] => n
  | n, c :: l => fnv ((n ^^^ c.toNat) * 16777619 % 4294967296) l

abbrev sum (l : List UInt8) : Nat := fnv 2166136261 l
/-! ### xor, bit by bit -/

/-! ### sums -/

/-! ### sealing -/

/-! ### opening -/

end S
end

section
/- Labels: runes, kinds, and which names may be. -/

set_option linter.unusedVariables false
set_option linter.unusedSimpArgs false
set_option maxRecDepth 100000
open Go Go.Ab Go.Proofs V
namespace S

/-! ### the rune at a place -/

/-! ### the document's walk over a rune's bytes -/

section
variable {l : List UInt8} {p : Nat} {Post : AV → List AObj → Prop}

end
end S
end

section
/- Which names may be: the code's walk and the document's. -/

set_option linter.unusedVariables false
set_option linter.unusedSimpArgs false
set_option maxRecDepth 100000
open Go Go.Ab Go.Proofs V
namespace S
theorem condBn {b : Bool} {A C : Prop} (h1 : b = false → A) (h2 : b = true → C) : condP (!b) A C := by cases b <;> simp_all [condP]
section
variable {l : List UInt8} {p : Nat}

/-! ### all runes -/

/-! ### names -/

end
end S
end

section
/- Which spans, needs and manifests may be: the code's walks and the document's. -/

set_option linter.unusedVariables false
set_option linter.unusedSimpArgs false
set_option maxRecDepth 100000
open Go Go.Ab Go.Proofs V S T
namespace C

/-- the answer c, whatever lies in the heap -/
abbrev PB (c : Bool) : AV → List AObj → Prop := fun r H' => ∃ l H2 r2, Sel 0 l H' H2 ∧ Le r (AV.ren (selR l H'.length) r2) ∧ (r2 = .bool c ∧ H2 = [])
theorem pb {b c : Bool} {H' : List AObj} (h : b = c) : PB c (.bool b) H' := ⟨[], [], .bool c, Sel.none, h ▸ Le.refl _, rfl, rfl⟩

theorem dropD {α : Type} (l : List α) (d : α) (i : Nat) (h : i < l.length) : l.drop i = l.getD i d :: l.drop (i + 1) := by
  rw [List.drop_eq_getElem_cons h]
  simp [List.getD, List.getElem?_eq_getElem h]

theorem succ64 {i : Nat} (h : i ≤ 10000000) : IntKind.wrap .i64 ((i : Int) + 1) = ((i + 1 : Nat) : Int) := by rw [wrap64 (by omega) (by omega)]; simp
/-! ### spans -/

/-! ### needs -/

/-! ### manifests -/

/-! ### are they large? -/

end C
end

section
/- Manifests as bytes: what the code puts, and the document. -/

set_option linter.unusedVariables false
set_option linter.unusedSimpArgs false
set_option maxRecDepth 100000
open Go Go.Ab Go.Proofs V S T C
namespace W

section
variable {Post : AV → List AObj → Prop}

abbrev sl1 (b : List UInt8) : AV := .sl 1 (.map encB 0 b) .none
noncomputable abbrev slR (l : List Rel) : AV := .sl 2 (.map T.encR (0, []) l) .none
noncomputable abbrev slN (l : List Need) : AV := .sl 2 (.map encN ([], []) l) .none
noncomputable abbrev slS (l : List Span) : AV := .sl 2 (.map encS (0, 0) l) .none

/-! ### the document's -/

end
end W
end

section
/- Manifests out of bytes: what the code reads. -/

set_option linter.unusedVariables false
set_option linter.unusedSimpArgs false
set_option maxRecDepth 100000
open Go Go.Ab Go.Proofs V S T C
namespace W

/-! ### the model -/

/-! ### the walk -/

section
variable {bs : List UInt8} {p : Nat} {e : Int}

end

end W
end

section
/- WirePuts: the bytes of any manifest, and the manifest of any bytes, or what is wrong first, are the document's: the law's function returns true. -/

set_option linter.unusedVariables false
set_option linter.unusedSimpArgs false
set_option maxRecDepth 100000
open Go Go.Ab Go.Proofs V S T C
namespace W

/-! ### the document's model -/

/-! ### it is the code's -/

/-! ### the document's walk -/

section
variable {Post : AV → List AObj → Prop}

/-! ### are they alike? -/

theorem cons_dec {α : Type} [DecidableEq α] (x y : α) (a b : List α) : decide (x :: a = y :: b) = (decide (x = y) && decide (a = b)) := by
  rw [Bool.eq_iff_iff]; simp

/-! ### the law -/

end
end W
end

section
/- Events: which may be, and which are alike. -/

set_option linter.unusedVariables false
set_option linter.unusedSimpArgs false
set_option maxRecDepth 100000
open Go Go.Ab Go.Proofs V S T C
open W (sl1 slS slN slR cons_dec)
namespace E

/-- the answer r0, whatever lies in the heap -/
abbrev PA (r0 : AV) : AV → List AObj → Prop := fun r H' => ∃ l H2 r2, Sel 0 l H' H2 ∧ Le r (AV.ren (selR l H'.length) r2) ∧ (r2 = r0 ∧ H2 = [])
theorem pa {r r0 : AV} {H' : List AObj} (h : Le r (AV.ren (selR [] H'.length) r0)) : PA r0 r H' := ⟨[], [], r0, Sel.none, h, rfl, rfl⟩

/-! ### alike -/

/-! ### which may be -/

/-- of a kind, the needs' number, the ticks, the ticket, the body's length -/
def evP (k : Int) (A : Nat) (t n : Int) (B : Nat) : Prop := (0 ≤ t ∧ t ≤ 1099511627776) ∧ (k ≠ 1 → A = 0 ∧ t = 0) ∧ ((k = 3 ∨ k = 4) → 1 ≤ n ∧ n ≤ 1099511627776 ∧ B ≤ 9000 ∧ (k = 3 ∨ B = 0)) ∧ (¬ (k = 3 ∨ k = 4) → n = 0 ∧ B = 0 ∧ (k = 1 ∨ k = 2))
instance (k : Int) (A : Nat) (t n : Int) (B : Nat) : Decidable (evP k A t n B) := by unfold evP; infer_instance
section
variable {e : Ev}
end

/-! ### are they large? -/

/-! ### the example -/

end E
end

section
/- What is under way: what the code of the seats computes. -/

set_option linter.unusedVariables false
set_option linter.unusedSimpArgs false
set_option maxRecDepth 100000
open Go Go.Ab Go.Proofs V S T C
open Fy
namespace Fg
abbrev Nm := List UInt8

/-! ### the model -/

def fnd (p : Seat → Bool) (S : List Seat) : Nat → Nat → Int
  | 0, _ => -1
  | m + 1, i => if p (S.getD i noSeat) = true then i else fnd p S m (i + 1)
def findM (p : Seat → Bool) (f : Fl) : Int := fnd p f.1 f.2.1.toNat 0
def freeP (x : Seat) : Bool := x.1 == 0
def nameP (s : Nm) (x : Seat) : Bool := decide (0 < x.1) && x.2 == s
def byP (t : Int) (x : Seat) : Bool := decide (0 < x.1) && x.1 == t
def hasM (f : Fl) (s : Nm) : Bool := decide (0 ≤ findM (nameP s) f)
def startM (f : Fl) (s : Nm) : (Int × Bool) × Fl :=
  if findM freeP f < 0 ∨ hasM f s = true then ((0, false), f) else ((f.2.2 + 1, true), (f.1.set (findM freeP f).toNat (f.2.2 + 1, s), f.2.1, f.2.2 + 1))
def endM (f : Fl) (t : Int) : (Nm × Bool) × Fl :=
  if findM (byP t) f < 0 then (([], false), f) else (((f.1.getD (findM (byP t) f).toNat noSeat).2, true), (f.1.set (findM (byP t) f).toNat noSeat, f.2.1, f.2.2))
def tnameM (f : Fl) (t : Int) : Nm × Bool := if findM (byP t) f < 0 then ([], false) else ((f.1.getD (findM (byP t) f).toNat noSeat).2, true)

/-- eight seats, a window that may be, few given -/
def okF (f : Fl) : Prop := f.1.length = 8 ∧ 1 ≤ f.2.1 ∧ f.2.1 ≤ 8 ∧ 0 ≤ f.2.2 ∧ f.2.2 ≤ 100000

theorem fnd_is (p : Seat → Bool) (S : List Seat) : ∀ (m i : Nat), fnd p S m i = -1 ∨ ∃ k : Nat, fnd p S m i = k ∧ i ≤ k ∧ k < i + m ∧ p (S.getD k noSeat) = true
  | 0, i => .inl rfl
  | m + 1, i => by
    simp only [fnd]
    split
    · rename_i h; exact .inr ⟨i, rfl, Nat.le_refl _, by omega, h⟩
    · rcases fnd_is p S m (i + 1) with h | ⟨k, h1, h2, h3, h4⟩
      · exact .inl h
      · exact .inr ⟨k, h1, by omega, by omega, h4⟩
theorem findM_is (p : Seat → Bool) {f : Fl} (h : okF f) : findM p f = -1 ∨ ∃ k : Nat, findM p f = k ∧ k < 8 ∧ p (f.1.getD k noSeat) = true := by
  obtain ⟨h0, h1, h2, _⟩ := h
  rcases fnd_is p f.1 f.2.1.toNat 0 with h | ⟨k, e1, e2, e3, e4⟩
  · exact .inl h
  · exact .inr ⟨k, e1, by omega, e4⟩

theorem eight {S : List Seat} (h : S.length = 8) : ∃ a b c d e f g i, S = [a, b, c, d, e, f, g, i] := by
  match S, h with
  | [a, b, c, d, e, f, g, i], _ => exact ⟨a, b, c, d, e, f, g, i, rfl⟩

/-! ### looking for a seat -/

theorem stepF {w K : Nat} {g : FuncId} {args : List AV} {H : List AObj} {Post : AV → List AObj → Prop} {N : Prop} {b : Bool} (hs : K < w → ASpec Try.prog g args H (fun r H' => r = .bool b ∧ H' = H))
    (h0 : K < w → b = true → Post (.int .i64 K) H) (h1 : K < w → b = false → N) (h2 : ¬ K < w → Post (.int .i64 (-1)) H) :
    condP (decide ((K : Int) < (w : Int))) (needP (0 ≤ (K : Int) ∧ (K : Int) < (w : Int)) (ASpec Try.prog g args H fun r H' => ∃ x : Bool, r = .bool x ∧ H' = H ∧ condP x (Post (.int .i64 K) H) N)) (Post (.int .i64 (-1)) H) :=
  condD (fun h => needJ ⟨by omega, h⟩ ((hs (by omega)).mono fun r H' hh => ⟨b, hh.1, hh.2, condB (h0 (by omega)) (h1 (by omega))⟩)) fun h => h2 (by omega)

noncomputable abbrev clF (f : Fl) : AObj := .cells (encFl f)

theorem a_spec (x : Seat) (H : List AObj) : ASpec Try.prog 215 [.agg (encSe x)] H (fun r H' => r = .bool (freeP x) ∧ H' = H) :=
  ASpec.pureH (r0 := .bool (freeP x)) H (ASpec.sel (s215 _ _ (pb rfl))) _ _ rfl rfl
theorem h_spec (f : Fl) (x : Seat) (s : Nm) : ASpec Try.prog 214 [.agg (encSe x), .ptr 1 0] [clF f, .cells [.str (B s)]] (fun r H' => r = .bool (nameP s x) ∧ H' = [clF f, .cells [.str (B s)]]) := by
  refine ASpec.sel (s214 _ _ _ _ ?_)
  have fin : ∀ b : Bool, b = nameP s x → ∃ l H2 r2, Sel 2 l [clF f, .cells [.str (B s)], .cells [.int .i64 x.1, .str (B x.2)]] H2 ∧ Le (.bool b) (AV.ren (selR l 3) r2) ∧ r2 = .bool (nameP s x) ∧ H2 = [clF f, .cells [.str (B s)]] := by
    intro b hb
    refine ⟨[0, 1], [clF f, .cells [.str (B s)]], .bool (nameP s x), ⟨by decide, rfl, Nat.le_refl _, fun j h => ?_, fun j h => ?_⟩, by rw [hb]; exact Le.refl _, rfl, rfl⟩
    · match j, h with
      | 0, _ | 1, _ => rfl
    · match j, h with
      | 0, _ | 1, _ => exact .inl rfl
  refine condD (fun h => fin _ ?_) fun h => fin _ ?_
  · rw [B_beq, nameP, decide_eq_true h, Bool.true_and]
  · rw [nameP, decide_eq_false h, Bool.false_and]
theorem b_spec (f : Fl) (x : Seat) (t : Int) : ASpec Try.prog 300 [.agg (encSe x), .ptr 1 0] [clF f, .cells [.int .i64 t]] (fun r H' => r = .bool (byP t x) ∧ H' = [clF f, .cells [.int .i64 t]]) := by
  refine ASpec.sel (s300 _ _ _ _ ?_)
  have fin : ∀ b : Bool, b = byP t x → ∃ l H2 r2, Sel 2 l [clF f, .cells [.int .i64 t], .cells [.int .i64 x.1, .str (B x.2)]] H2 ∧ Le (.bool b) (AV.ren (selR l 3) r2) ∧ r2 = .bool (byP t x) ∧ H2 = [clF f, .cells [.int .i64 t]] := by
    intro b hb
    refine ⟨[0, 1], [clF f, .cells [.int .i64 t]], .bool (byP t x), ⟨by decide, rfl, Nat.le_refl _, fun j h => ?_, fun j h => ?_⟩, by rw [hb]; exact Le.refl _, rfl, rfl⟩
    · match j, h with
      | 0, _ | 1, _ => rfl
    · match j, h with
      | 0, _ | 1, _ => exact .inl rfl
  refine condD (fun h => fin _ ?_) fun h => fin _ ?_
  · rw [byP, decide_eq_true h, Bool.true_and]
  · rw [byP, decide_eq_false h, Bool.false_and]

abbrev PF (v : Int) (H : List AObj) : AV → List AObj → Prop := fun r H' => r = .int .i64 v ∧ H' = H

theorem find2a (f : Fl) {w : Nat} (hw : w ≤ 8) : ∀ (m i : Nat), m + i = w →
    AWP Try.prog 19 1 c299_2 [(0, .csl 2 0 0 w), (1, .fn 215 []), (7, .int .i64 w), (8, .int .i64 i)] [clF f] (q299_2 1 (PF (fnd freeP f.1 m i) [clF f])) := by
  have key : ∀ (i : Nat) (v : Int), i ≤ w → (i < w → freeP (f.1.getD i noSeat) = true → v = i) → (¬ i < w → v = -1) →
      (i < w → freeP (f.1.getD i noSeat) = false → AWP Try.prog 19 1 c299_2 [(0, .csl 2 0 0 w), (1, .fn 215 []), (7, .int .i64 w), (8, .int .i64 (i + 1 : Nat))] [clF f] (q299_2 1 (PF v [clF f]))) →
      AWP Try.prog 19 1 c299_2 [(0, .csl 2 0 0 w), (1, .fn 215 []), (7, .int .i64 w), (8, .int .i64 i)] [clF f] (q299_2 1 (PF v [clF f])) := by
    intro i v hi h1 h2 h3
    have hc : i = 0 ∨ i = 1 ∨ i = 2 ∨ i = 3 ∨ i = 4 ∨ i = 5 ∨ i = 6 ∨ i = 7 ∨ i = 8 := by omega
    rcases hc with rfl | rfl | rfl | rfl | rfl | rfl | rfl | rfl | rfl
    · exact v299_2a0 f w w 1 _ (stepF (K := 0) (fun _ => a_spec _ _) (fun a b => ⟨by rw [h1 a b], rfl⟩) h3 fun a => ⟨by rw [h2 a], rfl⟩)
    · exact v299_2a1 f w w 1 _ (stepF (K := 1) (fun _ => a_spec _ _) (fun a b => ⟨by rw [h1 a b], rfl⟩) h3 fun a => ⟨by rw [h2 a], rfl⟩)
    · exact v299_2a2 f w w 1 _ (stepF (K := 2) (fun _ => a_spec _ _) (fun a b => ⟨by rw [h1 a b], rfl⟩) h3 fun a => ⟨by rw [h2 a], rfl⟩)
    · exact v299_2a3 f w w 1 _ (stepF (K := 3) (fun _ => a_spec _ _) (fun a b => ⟨by rw [h1 a b], rfl⟩) h3 fun a => ⟨by rw [h2 a], rfl⟩)
    · exact v299_2a4 f w w 1 _ (stepF (K := 4) (fun _ => a_spec _ _) (fun a b => ⟨by rw [h1 a b], rfl⟩) h3 fun a => ⟨by rw [h2 a], rfl⟩)
    · exact v299_2a5 f w w 1 _ (stepF (K := 5) (fun _ => a_spec _ _) (fun a b => ⟨by rw [h1 a b], rfl⟩) h3 fun a => ⟨by rw [h2 a], rfl⟩)
    · exact v299_2a6 f w w 1 _ (stepF (K := 6) (fun _ => a_spec _ _) (fun a b => ⟨by rw [h1 a b], rfl⟩) h3 fun a => ⟨by rw [h2 a], rfl⟩)
    · exact v299_2a7 f w w 1 _ (stepF (K := 7) (fun _ => a_spec _ _) (fun a b => ⟨by rw [h1 a b], rfl⟩) h3 fun a => ⟨by rw [h2 a], rfl⟩)
    · exact v299_2a8 f w w 1 _ (condD (fun h => by omega) fun _ => ⟨by rw [h2 (by omega)], rfl⟩)
  intro m
  induction m with
  | zero => intro i hi; exact key i _ (by omega) (fun h => by omega) (fun _ => rfl) fun h => by omega
  | succ m ih =>
    intro i hi
    refine key i _ (by omega) (fun _ h => by rw [fnd, if_pos h]) (fun h => by omega) fun _ h => ?_
    rw [fnd, if_neg (by rw [h]; simp)]
    exact ih (i + 1) (by omega)

theorem finda_spec {f : Fl} (ho : okF f) : ASpec Try.prog 213 [.ptr 0 0, .fn 215 []] [clF f] (PF (findM freeP f) [clF f]) := by
  obtain ⟨h0, h1, h2, _⟩ := ho
  refine s213a f _ (needJ ⟨by omega, h2⟩ ((s299a f f.2.1.toNat _ (find2a f (by omega) f.2.1.toNat 0 (by omega))).mono fun r H' hh => ⟨_, hh.1, hh.2, rfl, rfl⟩))

theorem find2h (f : Fl) (s : Nm) {w : Nat} (hw : w ≤ 8) : ∀ (m i : Nat), m + i = w →
    AWP Try.prog 19 2 c299_2 [(0, .csl 2 0 0 w), (1, .fn 214 [.ptr 1 0]), (7, .int .i64 w), (8, .int .i64 i)] [clF f, .cells [.str (B s)]] (q299_2 2 (PF (fnd (nameP s) f.1 m i) [clF f, .cells [.str (B s)]])) := by
  have key : ∀ (i : Nat) (v : Int), i ≤ w → (i < w → (nameP s) (f.1.getD i noSeat) = true → v = i) → (¬ i < w → v = -1) →
      (i < w → (nameP s) (f.1.getD i noSeat) = false → AWP Try.prog 19 2 c299_2 [(0, .csl 2 0 0 w), (1, .fn 214 [.ptr 1 0]), (7, .int .i64 w), (8, .int .i64 (i + 1 : Nat))] [clF f, .cells [.str (B s)]] (q299_2 2 (PF v [clF f, .cells [.str (B s)]]))) →
      AWP Try.prog 19 2 c299_2 [(0, .csl 2 0 0 w), (1, .fn 214 [.ptr 1 0]), (7, .int .i64 w), (8, .int .i64 i)] [clF f, .cells [.str (B s)]] (q299_2 2 (PF v [clF f, .cells [.str (B s)]])) := by
    intro i v hi h1 h2 h3
    have hc : i = 0 ∨ i = 1 ∨ i = 2 ∨ i = 3 ∨ i = 4 ∨ i = 5 ∨ i = 6 ∨ i = 7 ∨ i = 8 := by omega
    rcases hc with rfl | rfl | rfl | rfl | rfl | rfl | rfl | rfl | rfl
    · exact v299_2h0 f s w w 2 _ (stepF (K := 0) (fun _ => h_spec f _ s) (fun a b => ⟨by rw [h1 a b], rfl⟩) h3 fun a => ⟨by rw [h2 a], rfl⟩)
    · exact v299_2h1 f s w w 2 _ (stepF (K := 1) (fun _ => h_spec f _ s) (fun a b => ⟨by rw [h1 a b], rfl⟩) h3 fun a => ⟨by rw [h2 a], rfl⟩)
    · exact v299_2h2 f s w w 2 _ (stepF (K := 2) (fun _ => h_spec f _ s) (fun a b => ⟨by rw [h1 a b], rfl⟩) h3 fun a => ⟨by rw [h2 a], rfl⟩)
    · exact v299_2h3 f s w w 2 _ (stepF (K := 3) (fun _ => h_spec f _ s) (fun a b => ⟨by rw [h1 a b], rfl⟩) h3 fun a => ⟨by rw [h2 a], rfl⟩)
    · exact v299_2h4 f s w w 2 _ (stepF (K := 4) (fun _ => h_spec f _ s) (fun a b => ⟨by rw [h1 a b], rfl⟩) h3 fun a => ⟨by rw [h2 a], rfl⟩)
    · exact v299_2h5 f s w w 2 _ (stepF (K := 5) (fun _ => h_spec f _ s) (fun a b => ⟨by rw [h1 a b], rfl⟩) h3 fun a => ⟨by rw [h2 a], rfl⟩)
    · exact v299_2h6 f s w w 2 _ (stepF (K := 6) (fun _ => h_spec f _ s) (fun a b => ⟨by rw [h1 a b], rfl⟩) h3 fun a => ⟨by rw [h2 a], rfl⟩)
    · exact v299_2h7 f s w w 2 _ (stepF (K := 7) (fun _ => h_spec f _ s) (fun a b => ⟨by rw [h1 a b], rfl⟩) h3 fun a => ⟨by rw [h2 a], rfl⟩)
    · exact v299_2h8 f s w w 2 _ (condD (fun h => by omega) fun _ => ⟨by rw [h2 (by omega)], rfl⟩)
  intro m
  induction m with
  | zero => intro i hi; exact key i _ (by omega) (fun h => by omega) (fun _ => rfl) fun h => by omega
  | succ m ih =>
    intro i hi
    refine key i _ (by omega) (fun _ h => by rw [fnd, if_pos h]) (fun h => by omega) fun _ h => ?_
    rw [fnd, if_neg (by rw [h]; simp)]
    exact ih (i + 1) (by omega)

theorem findh_spec {f : Fl} (ho : okF f) (s : Nm) : ASpec Try.prog 213 [.ptr 0 0, .fn 214 [.ptr 1 0]] [clF f, .cells [.str (B s)]] (PF (findM (nameP s) f) [clF f, .cells [.str (B s)]]) := by
  obtain ⟨h0, h1, h2, _⟩ := ho
  refine s213h f s _ (needJ ⟨by omega, h2⟩ ((s299h f s f.2.1.toNat _ (find2h f s (by omega) f.2.1.toNat 0 (by omega))).mono fun r H' hh => ⟨_, hh.1, hh.2, rfl, rfl⟩))

theorem find2b (f : Fl) (t : Int) {w : Nat} (hw : w ≤ 8) : ∀ (m i : Nat), m + i = w →
    AWP Try.prog 19 2 c299_2 [(0, .csl 2 0 0 w), (1, .fn 300 [.ptr 1 0]), (7, .int .i64 w), (8, .int .i64 i)] [clF f, .cells [.int .i64 t]] (q299_2 2 (PF (fnd (byP t) f.1 m i) [clF f, .cells [.int .i64 t]])) := by
  have key : ∀ (i : Nat) (v : Int), i ≤ w → (i < w → (byP t) (f.1.getD i noSeat) = true → v = i) → (¬ i < w → v = -1) →
      (i < w → (byP t) (f.1.getD i noSeat) = false → AWP Try.prog 19 2 c299_2 [(0, .csl 2 0 0 w), (1, .fn 300 [.ptr 1 0]), (7, .int .i64 w), (8, .int .i64 (i + 1 : Nat))] [clF f, .cells [.int .i64 t]] (q299_2 2 (PF v [clF f, .cells [.int .i64 t]]))) →
      AWP Try.prog 19 2 c299_2 [(0, .csl 2 0 0 w), (1, .fn 300 [.ptr 1 0]), (7, .int .i64 w), (8, .int .i64 i)] [clF f, .cells [.int .i64 t]] (q299_2 2 (PF v [clF f, .cells [.int .i64 t]])) := by
    intro i v hi h1 h2 h3
    have hc : i = 0 ∨ i = 1 ∨ i = 2 ∨ i = 3 ∨ i = 4 ∨ i = 5 ∨ i = 6 ∨ i = 7 ∨ i = 8 := by omega
    rcases hc with rfl | rfl | rfl | rfl | rfl | rfl | rfl | rfl | rfl
    · exact v299_2b0 f t w w 2 _ (stepF (K := 0) (fun _ => b_spec f _ t) (fun a b => ⟨by rw [h1 a b], rfl⟩) h3 fun a => ⟨by rw [h2 a], rfl⟩)
    · exact v299_2b1 f t w w 2 _ (stepF (K := 1) (fun _ => b_spec f _ t) (fun a b => ⟨by rw [h1 a b], rfl⟩) h3 fun a => ⟨by rw [h2 a], rfl⟩)
    · exact v299_2b2 f t w w 2 _ (stepF (K := 2) (fun _ => b_spec f _ t) (fun a b => ⟨by rw [h1 a b], rfl⟩) h3 fun a => ⟨by rw [h2 a], rfl⟩)
    · exact v299_2b3 f t w w 2 _ (stepF (K := 3) (fun _ => b_spec f _ t) (fun a b => ⟨by rw [h1 a b], rfl⟩) h3 fun a => ⟨by rw [h2 a], rfl⟩)
    · exact v299_2b4 f t w w 2 _ (stepF (K := 4) (fun _ => b_spec f _ t) (fun a b => ⟨by rw [h1 a b], rfl⟩) h3 fun a => ⟨by rw [h2 a], rfl⟩)
    · exact v299_2b5 f t w w 2 _ (stepF (K := 5) (fun _ => b_spec f _ t) (fun a b => ⟨by rw [h1 a b], rfl⟩) h3 fun a => ⟨by rw [h2 a], rfl⟩)
    · exact v299_2b6 f t w w 2 _ (stepF (K := 6) (fun _ => b_spec f _ t) (fun a b => ⟨by rw [h1 a b], rfl⟩) h3 fun a => ⟨by rw [h2 a], rfl⟩)
    · exact v299_2b7 f t w w 2 _ (stepF (K := 7) (fun _ => b_spec f _ t) (fun a b => ⟨by rw [h1 a b], rfl⟩) h3 fun a => ⟨by rw [h2 a], rfl⟩)
    · exact v299_2b8 f t w w 2 _ (condD (fun h => by omega) fun _ => ⟨by rw [h2 (by omega)], rfl⟩)
  intro m
  induction m with
  | zero => intro i hi; exact key i _ (by omega) (fun h => by omega) (fun _ => rfl) fun h => by omega
  | succ m ih =>
    intro i hi
    refine key i _ (by omega) (fun _ h => by rw [fnd, if_pos h]) (fun h => by omega) fun _ h => ?_
    rw [fnd, if_neg (by rw [h]; simp)]
    exact ih (i + 1) (by omega)

theorem findb_spec {f : Fl} (ho : okF f) (t : Int) : ASpec Try.prog 213 [.ptr 0 0, .fn 300 [.ptr 1 0]] [clF f, .cells [.int .i64 t]] (PF (findM (byP t) f) [clF f, .cells [.int .i64 t]]) := by
  obtain ⟨h0, h1, h2, _⟩ := ho
  refine s213b f t _ (needJ ⟨by omega, h2⟩ ((s299b f t f.2.1.toNat _ (find2b f t (by omega) f.2.1.toNat 0 (by omega))).mono fun r H' hh => ⟨_, hh.1, hh.2, rfl, rfl⟩))

/-! ### what it tells -/

theorem sel1 {f : Fl} {o : AObj} {v r : AV} (h : r = v) (hv : ∀ ρ, AV.ren ρ v = v) : ∃ l H2 r2, Sel 1 l [clF f, o] H2 ∧ Le r (AV.ren (selR l 2) r2) ∧ r2 = v ∧ H2 = [clF f] :=
  ⟨[0], [clF f], v, ⟨by decide, rfl, Nat.le_refl _, fun j h => by match j, h with | 0, _ => rfl, fun j h => by match j, h with | 0, _ => exact .inl rfl⟩, by rw [h, hv]; exact Le.refl _, rfl, rfl⟩

theorem has_spec {f : Fl} (ho : okF f) (s : Nm) : ASpec Try.prog 97 [.ptr 0 0, .str (B s)] [clF f] (fun r H' => r = .bool (hasM f s) ∧ H' = [clF f]) :=
  ASpec.sel (s97m f s _ ((findh_spec ho s).mono fun r H' hh => ⟨_, hh.1, hh.2, sel1 rfl fun _ => rfl⟩))
theorem by_spec {f : Fl} (ho : okF f) (t : Int) : ASpec Try.prog 216 [.ptr 0 0, .int .i64 t] [clF f] (fun r H' => r = .int .i64 (findM (byP t) f) ∧ H' = [clF f]) :=
  ASpec.sel (s216m f t _ ((findb_spec ho t).mono fun r H' hh => ⟨_, hh.1, hh.2, sel1 rfl fun _ => rfl⟩))

theorem start_spec {f : Fl} (ho : okF f) (s : Nm) : ASpec Try.prog 98 [.ptr 0 0, .str (B s)] [clF f]
    (fun r H' => r = .tup [.int .i64 (startM f s).1.1, .bool (startM f s).1.2] ∧ H' = [clF (startM f s).2]) := by
  have hk := findM_is freeP ho
  obtain ⟨h0, h1, h2, h3, h4⟩ := ho
  refine s98m f s _ ((finda_spec ⟨h0, h1, h2, h3, h4⟩).mono fun r H' hh => ⟨_, hh.1, hh.2, condD (fun hn => ?_) fun hn => ?_⟩)
  · have e : startM f s = ((0, false), f) := by unfold startM; rw [if_pos (.inl hn)]
    rw [e]; exact ⟨rfl, rfl⟩
  · refine (has_spec ⟨h0, h1, h2, h3, h4⟩ s).mono fun r H' hh => ⟨_, hh.1, hh.2, condB (fun hb => ?_) fun hb => ?_⟩
    · have e : startM f s = ((0, false), f) := by unfold startM; rw [if_pos (.inr hb)]
      rw [e]; exact ⟨rfl, rfl⟩
    · have e : startM f s = ((f.2.2 + 1, true), (f.1.set (findM freeP f).toNat (f.2.2 + 1, s), f.2.1, f.2.2 + 1)) := by unfold startM; rw [if_neg (by rintro (h | h); exact hn h; rw [hb] at h; cases h)]
      rw [e]
      refine v98_4 _ _ _ _ _ ?_
      rw [wrap64 (by omega) (by omega)]
      rcases hk with hk | ⟨k, hk, hk8, _⟩
      · exact absurd hn (by omega)
      · rw [hk, Int.toNat_natCast]
        obtain ⟨S, w, g⟩ := f
        obtain ⟨a0, a1, a2, a3, a4, a5, a6, a7, rfl⟩ := eight h0
        have hc : k = 0 ∨ k = 1 ∨ k = 2 ∨ k = 3 ∨ k = 4 ∨ k = 5 ∨ k = 6 ∨ k = 7 := by omega
        rcases hc with rfl | rfl | rfl | rfl | rfl | rfl | rfl | rfl
        · exact v98_5k0 ([a0, a1, a2, a3, a4, a5, a6, a7], w, g + 1) s _ _ (needJ (by omega) ⟨rfl, rfl⟩)
        · exact v98_5k1 ([a0, a1, a2, a3, a4, a5, a6, a7], w, g + 1) s _ _ (needJ (by omega) ⟨rfl, rfl⟩)
        · exact v98_5k2 ([a0, a1, a2, a3, a4, a5, a6, a7], w, g + 1) s _ _ (needJ (by omega) ⟨rfl, rfl⟩)
        · exact v98_5k3 ([a0, a1, a2, a3, a4, a5, a6, a7], w, g + 1) s _ _ (needJ (by omega) ⟨rfl, rfl⟩)
        · exact v98_5k4 ([a0, a1, a2, a3, a4, a5, a6, a7], w, g + 1) s _ _ (needJ (by omega) ⟨rfl, rfl⟩)
        · exact v98_5k5 ([a0, a1, a2, a3, a4, a5, a6, a7], w, g + 1) s _ _ (needJ (by omega) ⟨rfl, rfl⟩)
        · exact v98_5k6 ([a0, a1, a2, a3, a4, a5, a6, a7], w, g + 1) s _ _ (needJ (by omega) ⟨rfl, rfl⟩)
        · exact v98_5k7 ([a0, a1, a2, a3, a4, a5, a6, a7], w, g + 1) s _ _ (needJ (by omega) ⟨rfl, rfl⟩)

theorem end_spec {f : Fl} (ho : okF f) (t : Int) : ASpec Try.prog 99 [.ptr 0 0, .int .i64 t] [clF f]
    (fun r H' => r = .tup [.str (B (endM f t).1.1), .bool (endM f t).1.2] ∧ H' = [clF (endM f t).2]) := by
  have hk := findM_is (byP t) ho
  refine s99m f t _ ((by_spec ho t).mono fun r H' hh => ⟨_, hh.1, hh.2, condD (fun hn => ?_) fun hn => ?_⟩)
  · have e : endM f t = (([], false), f) := by unfold endM; rw [if_pos hn]
    rw [e]; exact ⟨rfl, rfl⟩
  · have e : endM f t = (((f.1.getD (findM (byP t) f).toNat noSeat).2, true), (f.1.set (findM (byP t) f).toNat noSeat, f.2.1, f.2.2)) := by unfold endM; rw [if_neg hn]
    rw [e]
    rcases hk with hk | ⟨k, hk, hk8, _⟩
    · exact absurd hn (by omega)
    · rw [hk, Int.toNat_natCast]
      obtain ⟨S, w, g⟩ := f
      obtain ⟨a0, a1, a2, a3, a4, a5, a6, a7, rfl⟩ := eight ho.1
      have hc : k = 0 ∨ k = 1 ∨ k = 2 ∨ k = 3 ∨ k = 4 ∨ k = 5 ∨ k = 6 ∨ k = 7 := by omega
      rcases hc with rfl | rfl | rfl | rfl | rfl | rfl | rfl | rfl
      · exact v99_4k0 ([a0, a1, a2, a3, a4, a5, a6, a7], w, g) _ _ (needJ (by omega) (needJ (by omega) ⟨rfl, rfl⟩))
      · exact v99_4k1 ([a0, a1, a2, a3, a4, a5, a6, a7], w, g) _ _ (needJ (by omega) (needJ (by omega) ⟨rfl, rfl⟩))
      · exact v99_4k2 ([a0, a1, a2, a3, a4, a5, a6, a7], w, g) _ _ (needJ (by omega) (needJ (by omega) ⟨rfl, rfl⟩))
      · exact v99_4k3 ([a0, a1, a2, a3, a4, a5, a6, a7], w, g) _ _ (needJ (by omega) (needJ (by omega) ⟨rfl, rfl⟩))
      · exact v99_4k4 ([a0, a1, a2, a3, a4, a5, a6, a7], w, g) _ _ (needJ (by omega) (needJ (by omega) ⟨rfl, rfl⟩))
      · exact v99_4k5 ([a0, a1, a2, a3, a4, a5, a6, a7], w, g) _ _ (needJ (by omega) (needJ (by omega) ⟨rfl, rfl⟩))
      · exact v99_4k6 ([a0, a1, a2, a3, a4, a5, a6, a7], w, g) _ _ (needJ (by omega) (needJ (by omega) ⟨rfl, rfl⟩))
      · exact v99_4k7 ([a0, a1, a2, a3, a4, a5, a6, a7], w, g) _ _ (needJ (by omega) (needJ (by omega) ⟨rfl, rfl⟩))

theorem tname_spec {f : Fl} (ho : okF f) (t : Int) : ASpec Try.prog 102 [.ptr 0 0, .int .i64 t] [clF f]
    (fun r H' => r = .tup [.str (B (tnameM f t).1), .bool (tnameM f t).2] ∧ H' = [clF f]) := by
  have hk := findM_is (byP t) ho
  refine s102m f t _ ((by_spec ho t).mono fun r H' hh => ⟨_, hh.1, hh.2, condD (fun hn => ?_) fun hn => ?_⟩)
  · have e : tnameM f t = ([], false) := by unfold tnameM; rw [if_pos hn]
    rw [e]; exact ⟨rfl, rfl⟩
  · have e : tnameM f t = ((f.1.getD (findM (byP t) f).toNat noSeat).2, true) := by unfold tnameM; rw [if_neg hn]
    rw [e]
    rcases hk with hk | ⟨k, hk, hk8, _⟩
    · exact absurd hn (by omega)
    · rw [hk, Int.toNat_natCast]
      have hc : k = 0 ∨ k = 1 ∨ k = 2 ∨ k = 3 ∨ k = 4 ∨ k = 5 ∨ k = 6 ∨ k = 7 := by omega
      rcases hc with rfl | rfl | rfl | rfl | rfl | rfl | rfl | rfl
      · exact v102_4k0 f _ _ (needJ (by omega) ⟨rfl, rfl⟩)
      · exact v102_4k1 f _ _ (needJ (by omega) ⟨rfl, rfl⟩)
      · exact v102_4k2 f _ _ (needJ (by omega) ⟨rfl, rfl⟩)
      · exact v102_4k3 f _ _ (needJ (by omega) ⟨rfl, rfl⟩)
      · exact v102_4k4 f _ _ (needJ (by omega) ⟨rfl, rfl⟩)
      · exact v102_4k5 f _ _ (needJ (by omega) ⟨rfl, rfl⟩)
      · exact v102_4k6 f _ _ (needJ (by omega) ⟨rfl, rfl⟩)
      · exact v102_4k7 f _ _ (needJ (by omega) ⟨rfl, rfl⟩)
end Fg
end

section
/- Printed: what the code of functions 101, 107, 108, 110, 105, 106, 109, 13 asks for, by the framework's own reading of it; each line is checked against the code. -/

set_option linter.unusedVariables false
set_option maxRecDepth 100000
set_option maxHeartbeats 4000000
open Go Go.Ab Go.Proofs
namespace Fz
noncomputable section

noncomputable def addP (args : List AV) (H : List AObj) (o : AObj) : List AObj := match args with
  | .ptr id _ :: _ => H.set id o
  | _ => H
noncomputable def addHz (args : List AV) (H : List AObj) (o : AObj) : List AObj := match args with
  | .msl _ id _ _ :: _ => H.set id o
  | _ => H
noncomputable def retF : List (Nat × Ret) := [
  (94, ⟨Bool, fun _ _ x => .bool x, fun _ H _ => H⟩), (95, ⟨Unit, fun _ _ _ => .bool true, fun _ H _ => H⟩), (214, ⟨Bool, fun _ _ x => .bool x, fun _ H _ => H⟩), (215, ⟨Bool, fun _ _ x => .bool x, fun _ H _ => H⟩), (300, ⟨Bool, fun _ _ x => .bool x, fun _ H _ => H⟩), (299, ⟨Int, fun _ _ x => .int .i64 x, fun _ H _ => H⟩), (213, ⟨Int, fun _ _ x => .int .i64 x, fun _ H _ => H⟩), (216, ⟨Int, fun _ _ x => .int .i64 x, fun _ H _ => H⟩), (97, ⟨Bool, fun _ _ x => .bool x, fun _ H _ => H⟩), (100, ⟨Int, fun _ _ x => .int .i64 x, fun _ H _ => H⟩), (104, ⟨Int, fun _ _ x => .int .i64 x, fun _ H _ => H⟩), (102, ⟨List UInt8 × Bool, fun _ _ x => .tup [.str ⟨x.1.toArray⟩, .bool x.2], fun _ H _ => H⟩), (103, ⟨List Int, fun _ _ x => .sl 1 (.map Ab.encI 0 x) .none, fun _ H _ => H⟩), (107, ⟨List UInt8 × Bool, fun _ _ x => .tup [.str ⟨x.1.toArray⟩, .bool x.2], fun _ H _ => H⟩), (108, ⟨Bool, fun _ _ x => .bool x, fun _ H _ => H⟩), (109, ⟨Bool, fun _ _ x => .bool x, fun _ H _ => H⟩), (110, ⟨List Int, fun _ _ x => .sl 1 (.map Ab.encI 0 x) .none, fun _ H _ => H⟩),
  (96, ⟨Unit, fun _ _ _ => .nilp, fun _ H _ => H⟩), (96, ⟨T.Fl, fun _ H _ => .ptr H.length 0, fun _ H x => H ++ [.cells (T.encFl x)]⟩),
  (98, ⟨Int × Bool, fun _ _ x => .tup [.int .i64 x.1, .bool x.2], fun _ H _ => H⟩), (98, ⟨(Int × Bool) × T.Fl, fun _ _ x => .tup [.int .i64 x.1.1, .bool x.1.2], fun a H x => addP a H (.cells (T.encFl x.2))⟩),
  (99, ⟨List UInt8 × Bool, fun _ _ x => .tup [.str ⟨x.1.toArray⟩, .bool x.2], fun _ H _ => H⟩), (99, ⟨(List UInt8 × Bool) × T.Fl, fun _ _ x => .tup [.str ⟨x.1.1.toArray⟩, .bool x.1.2], fun a H x => addP a H (.cells (T.encFl x.2))⟩),
  (101, ⟨T.Xf × Bool, fun _ _ x => .tup [.agg (T.encXf x.1), .bool x.2], fun _ H _ => H⟩),
  (105, ⟨(List UInt8 × Bool) × T.Xf, fun _ _ x => .tup [.str ⟨x.1.1.toArray⟩, .bool x.1.2], fun a H x => addP a H (.cells (T.encXf x.2))⟩),
  (106, ⟨(Int × Bool) × T.Xf, fun _ _ x => .tup [.int .i64 x.1.1, .bool x.1.2], fun a H x => addP a H (.cells (T.encXf x.2))⟩),
  (217, ⟨Unit, fun _ _ _ => .tup [], fun _ H _ => H⟩), (217, ⟨List Int, fun _ _ _ => .tup [], fun a H x => addHz a H (.arr 1 (.map Ab.encI 0 x))⟩)]
noncomputable def rets : FuncId → List Ret := lookupR (retF ++ C.retC ++ V.retL)

noncomputable def l101 : Nat → List Nat
  | _ => []
noncomputable def u101 : Nat → Bool
  | _ => false
noncomputable def m101 : Nat → Bool
  | _ => false
noncomputable def g101 : Cfg := { N := 13, live := l101, cut := u101, mu := m101, ret := rets }
theorem s101 : ∀ (w : Int) (Post : AV → List AObj → Prop),
  condP (decide (w < (1 : Int)))
      (Post (AV.tup [AV.agg [AV.int IntKind.i64 (0 : Int), AV.sl 0 (Seq.raw []) Tip.nil, AV.int IntKind.i64 (0 : Int)], AV.bool false])
        [AObj.cells [AV.int IntKind.i64 (0 : Int), AV.sl 0 (Seq.raw []) Tip.nil, AV.int IntKind.i64 (0 : Int)]])
      (condP (decide (w > (8 : Int)))
        (Post (AV.tup [AV.agg [AV.int IntKind.i64 (0 : Int), AV.sl 0 (Seq.raw []) Tip.nil, AV.int IntKind.i64 (0 : Int)], AV.bool false])
        [AObj.cells [AV.int IntKind.i64 (0 : Int), AV.sl 0 (Seq.raw []) Tip.nil, AV.int IntKind.i64 (0 : Int)]])
        (Post (AV.tup [AV.agg [AV.int IntKind.i64 w, AV.sl 0 (Seq.raw []) Tip.nil, AV.int IntKind.i64 (0 : Int)], AV.bool true])
        [AObj.cells [AV.int IntKind.i64 w, AV.sl 0 (Seq.raw []) Tip.nil, AV.int IntKind.i64 (0 : Int)]])) →
    ASpec Try.prog 101 [AV.int IntKind.i64 w] [] Post := fun w Post h => Go.Ab.ASpec.of_vc g101 Go.Proofs.Try.func101 (by kernel_rfl) (by kernel_rfl) (by kernel_rfl) (Go.Ab.kc (by kernel_rfl) h)

-- 107
noncomputable def l107 : Nat → List Nat
  | 2 => [1, 2, 6]
  | _ => []
noncomputable def u107 : Nat → Bool
  | _ => false
noncomputable def m107 : Nat → Bool
  | _ => false
noncomputable def g107 : Cfg := { N := 28, live := l107, cut := u107, mu := m107, ret := rets }
noncomputable def c107 : Go.Code := Go.Ab.bodyOf Go.Proofs.Try.f107
noncomputable def q107_0 : Nat → (AV → List AObj → Prop) → AQ := fun (n : Nat) (Post : AV → List AObj → Prop) => endQ Try.prog (resultsOf Try.f107) Post
noncomputable def q107_1 : Nat → (AV → List AObj → Prop) → AQ := fun (n : Nat) (Post : AV → List AObj → Prop) => seqQ (fun (s' : Slots) (H' : List AObj) => awp Try.prog g107 n (codeSnd (codeSnd c107)) s' H' (q107_0 n Post)) (q107_0 n Post)
noncomputable def q107_2 : Nat → (AV → List AObj → Prop) → AQ := fun (n : Nat) (Post : AV → List AObj → Prop) => blockQ 0 (q107_1 n Post)
noncomputable def c107_2 : Go.Code := codeFst (codeSnd (codeFst (codeSnd c107)))
theorem s107 : ∀ (x : T.Xf) (t : Int) (Post : AV → List AObj → Prop),
  AWP Try.prog 28 0 c107_2 [(1, AV.int IntKind.i64 t), (2, AV.ptr 0 0), (6, AV.int IntKind.i64 (0 : Int))]
      [AObj.cells [AV.int IntKind.i64 (Prod.fst x), AV.sl 2 (Seq.map T.encSe T.noSeat (Prod.fst (Prod.snd x))) Tip.none, AV.int IntKind.i64 (Prod.snd (Prod.snd x))]] (q107_2 0 Post) →
    ASpec Try.prog 107 [AV.agg (T.encXf x), AV.int IntKind.i64 t] [] Post := fun x t Post h => Go.Ab.ASpec.of_vc g107 Go.Proofs.Try.func107 (by kernel_rfl) (by kernel_rfl) (by kernel_rfl) (Go.Ab.kc (by kernel_rfl) h)
theorem v107_2 : ∀ (x : T.Xf) (t i : Int) (n : Nat) (Post : AV → List AObj → Prop),
  condP (decide (i < (↑(List.length (Prod.fst (Prod.snd x))) : Int)))
      (needP ((0 : Int) ≤ i ∧ i < (↑(List.length (Prod.fst (Prod.snd x))) : Int))
        (condP (Prod.fst (List.getD (Prod.fst (Prod.snd x)) (Int.toNat i) T.noSeat) == t)
        (needP ((0 : Int) ≤ i ∧ i < (↑(List.length (Prod.fst (Prod.snd x))) : Int))
        (Post (AV.tup [AV.str { data := List.toArray (Prod.snd (List.getD (Prod.fst (Prod.snd x)) (Int.toNat i) T.noSeat)) }, AV.bool true])
        [AObj.cells [AV.int IntKind.i64 (Prod.fst x), AV.sl 2 (Seq.map T.encSe T.noSeat (Prod.fst (Prod.snd x))) Tip.none, AV.int IntKind.i64 (Prod.snd (Prod.snd x))]]))
        (AWP Try.prog 28 n c107_2 [(1, AV.int IntKind.i64 t), (2, AV.ptr 0 0), (6, AV.int IntKind.i64 (IntKind.wrap IntKind.i64 (i + (1 : Int))))]
        [AObj.cells [AV.int IntKind.i64 (Prod.fst x), AV.sl 2 (Seq.map T.encSe T.noSeat (Prod.fst (Prod.snd x))) Tip.none, AV.int IntKind.i64 (Prod.snd (Prod.snd x))]] (q107_2 n Post))))
      (Post (AV.tup [AV.str { data := #[] }, AV.bool false])
        [AObj.cells [AV.int IntKind.i64 (Prod.fst x), AV.sl 2 (Seq.map T.encSe T.noSeat (Prod.fst (Prod.snd x))) Tip.none, AV.int IntKind.i64 (Prod.snd (Prod.snd x))]]) →
    AWP Try.prog 28 n c107_2 [(1, AV.int IntKind.i64 t), (2, AV.ptr 0 0), (6, AV.int IntKind.i64 i)] [AObj.cells (T.encXf x)] (q107_2 n Post) := fun x t i n Post h => Go.Ab.AWP.loop' g107 (Cfg.live g107) c107_2 (by kernel_rfl) (by kernel_rfl) (Go.Ab.kc (by kernel_rfl) h)

-- 108
noncomputable def l108 : Nat → List Nat
  | 2 => [1, 2, 5]
  | _ => []
noncomputable def u108 : Nat → Bool
  | _ => false
noncomputable def m108 : Nat → Bool
  | _ => false
noncomputable def g108 : Cfg := { N := 21, live := l108, cut := u108, mu := m108, ret := rets }
noncomputable def c108 : Go.Code := Go.Ab.bodyOf Go.Proofs.Try.f108
noncomputable def q108_0 : Nat → (AV → List AObj → Prop) → AQ := fun (n : Nat) (Post : AV → List AObj → Prop) => endQ Try.prog (resultsOf Try.f108) Post
noncomputable def q108_1 : Nat → (AV → List AObj → Prop) → AQ := fun (n : Nat) (Post : AV → List AObj → Prop) => seqQ (fun (s' : Slots) (H' : List AObj) => awp Try.prog g108 n (codeSnd (codeSnd c108)) s' H' (q108_0 n Post)) (q108_0 n Post)
noncomputable def q108_2 : Nat → (AV → List AObj → Prop) → AQ := fun (n : Nat) (Post : AV → List AObj → Prop) => blockQ 0 (q108_1 n Post)
noncomputable def c108_2 : Go.Code := codeFst (codeSnd (codeFst (codeSnd c108)))
theorem s108 : ∀ (x : T.Xf) (s : List UInt8) (Post : AV → List AObj → Prop),
  AWP Try.prog 21 0 c108_2 [(1, AV.str { data := List.toArray s }), (2, AV.ptr 0 0), (5, AV.int IntKind.i64 (0 : Int))]
      [AObj.cells [AV.int IntKind.i64 (Prod.fst x), AV.sl 2 (Seq.map T.encSe T.noSeat (Prod.fst (Prod.snd x))) Tip.none, AV.int IntKind.i64 (Prod.snd (Prod.snd x))]] (q108_2 0 Post) →
    ASpec Try.prog 108 [AV.agg (T.encXf x), AV.str { data := List.toArray s }] [] Post := fun x s Post h => Go.Ab.ASpec.of_vc g108 Go.Proofs.Try.func108 (by kernel_rfl) (by kernel_rfl) (by kernel_rfl) (Go.Ab.kc (by kernel_rfl) h)
theorem v108_2 : ∀ (x : T.Xf) (s : List UInt8) (i : Int) (n : Nat) (Post : AV → List AObj → Prop),
  condP (decide (i < (↑(List.length (Prod.fst (Prod.snd x))) : Int)))
      (needP ((0 : Int) ≤ i ∧ i < (↑(List.length (Prod.fst (Prod.snd x))) : Int))
        (condP (ByteArray.toList { data := List.toArray (Prod.snd (List.getD (Prod.fst (Prod.snd x)) (Int.toNat i) T.noSeat)) } == ByteArray.toList { data := List.toArray s })
        (Post (AV.bool true) [AObj.cells [AV.int IntKind.i64 (Prod.fst x), AV.sl 2 (Seq.map T.encSe T.noSeat (Prod.fst (Prod.snd x))) Tip.none, AV.int IntKind.i64 (Prod.snd (Prod.snd x))]])
        (AWP Try.prog 21 n c108_2
        [(1, AV.str { data := List.toArray s }), (2, AV.ptr 0 0), (5, AV.int IntKind.i64 (IntKind.wrap IntKind.i64 (i + (1 : Int))))]
        [AObj.cells [AV.int IntKind.i64 (Prod.fst x), AV.sl 2 (Seq.map T.encSe T.noSeat (Prod.fst (Prod.snd x))) Tip.none, AV.int IntKind.i64 (Prod.snd (Prod.snd x))]] (q108_2 n Post))))
      (Post (AV.bool false) [AObj.cells [AV.int IntKind.i64 (Prod.fst x), AV.sl 2 (Seq.map T.encSe T.noSeat (Prod.fst (Prod.snd x))) Tip.none, AV.int IntKind.i64 (Prod.snd (Prod.snd x))]]) →
    AWP Try.prog 21 n c108_2 [(1, AV.str { data := List.toArray s }), (2, AV.ptr 0 0), (5, AV.int IntKind.i64 i)] [AObj.cells (T.encXf x)]
      (q108_2 n Post) := fun x s i n Post h => Go.Ab.AWP.loop' g108 (Cfg.live g108) c108_2 (by kernel_rfl) (by kernel_rfl) (Go.Ab.kc (by kernel_rfl) h)

-- 110
noncomputable def l110 : Nat → List Nat
  | 3 => [1, 3, 4]
  | _ => []
noncomputable def u110 : Nat → Bool
  | _ => false
noncomputable def m110 : Nat → Bool
  | _ => false
noncomputable def g110 : Cfg := { N := 22, live := l110, cut := u110, mu := m110, ret := rets }
noncomputable def c110 : Go.Code := Go.Ab.bodyOf Go.Proofs.Try.f110
noncomputable def q110_0 : Nat → (AV → List AObj → Prop) → AQ := fun (n : Nat) (Post : AV → List AObj → Prop) => endQ Try.prog (resultsOf Try.f110) Post
noncomputable def q110_1 : Nat → (AV → List AObj → Prop) → AQ := fun (n : Nat) (Post : AV → List AObj → Prop) => seqQ (fun (s' : Slots) (H' : List AObj) => awp Try.prog g110 n (codeSnd (codeSnd (codeSnd c110))) s' H' (q110_0 n Post)) (q110_0 n Post)
noncomputable def q110_2 : Nat → (AV → List AObj → Prop) → AQ := fun (n : Nat) (Post : AV → List AObj → Prop) => blockQ 0 (q110_1 n Post)
noncomputable def c110_3 : Go.Code := codeFst (codeSnd (codeFst (codeSnd (codeSnd c110))))
theorem s110 : ∀ (x : T.Xf) (Post : AV → List AObj → Prop),
  AWP Try.prog 22 0 c110_3 [(1, AV.ptr 0 0), (3, AV.sl 0 (Seq.raw []) Tip.nil), (4, AV.int IntKind.i64 (0 : Int))]
      [AObj.cells [AV.int IntKind.i64 (Prod.fst x), AV.sl 2 (Seq.map T.encSe T.noSeat (Prod.fst (Prod.snd x))) Tip.none, AV.int IntKind.i64 (Prod.snd (Prod.snd x))]] (q110_2 0 Post) →
    ASpec Try.prog 110 [AV.agg (T.encXf x)] [] Post := fun x Post h => Go.Ab.ASpec.of_vc g110 Go.Proofs.Try.func110 (by kernel_rfl) (by kernel_rfl) (by kernel_rfl) (Go.Ab.kc (by kernel_rfl) h)
theorem v110_3 : ∀ (x : T.Xf) (o : List Int) (i : Int) (n : Nat) (Post : AV → List AObj → Prop),
  condP (decide (i < (↑(List.length (Prod.fst (Prod.snd x))) : Int)))
      (needP ((0 : Int) ≤ i ∧ i < (↑(List.length (Prod.fst (Prod.snd x))) : Int))
        (needP ((List.length o + 1) * 8 ≤ 140737488351232)
        (AWP Try.prog 22 n c110_3
        [(1, AV.ptr 0 0),
        (3,
        AV.sl 1 (Seq.app (Seq.map encI (0 : Int) o) (Seq.raw [[AV.int IntKind.i64 (Prod.fst (List.getD (Prod.fst (Prod.snd x)) (Int.toNat i) T.noSeat))]])) (Tip.tok 2)),
        (4, AV.int IntKind.i64 (IntKind.wrap IntKind.i64 (i + (1 : Int))))]
        [AObj.cells [AV.int IntKind.i64 (Prod.fst x), AV.sl 2 (Seq.map T.encSe T.noSeat (Prod.fst (Prod.snd x))) Tip.none, AV.int IntKind.i64 (Prod.snd (Prod.snd x))], AObj.gone, AObj.tok]
        (q110_2 n Post))))
      (Post (AV.sl 1 (Seq.map encI (0 : Int) o) (Tip.tok 1))
        [AObj.cells [AV.int IntKind.i64 (Prod.fst x), AV.sl 2 (Seq.map T.encSe T.noSeat (Prod.fst (Prod.snd x))) Tip.none, AV.int IntKind.i64 (Prod.snd (Prod.snd x))], AObj.tok]) →
    AWP Try.prog 22 n c110_3 [(1, AV.ptr 0 0), (3, AV.sl 1 (Seq.map encI (0 : Int) o) (Tip.tok 1)), (4, AV.int IntKind.i64 i)]
      [AObj.cells (T.encXf x), AObj.tok] (q110_2 n Post) := fun x o i n Post h => Go.Ab.AWP.loop' g110 (Cfg.live g110) c110_3 (by kernel_rfl) (by kernel_rfl) (Go.Ab.kc (by kernel_rfl) h)

-- 105
noncomputable def l105 : Nat → List Nat
  | 4 => [0, 1, 6, 7, 8, 9]
  | 8 => [0, 6, 7, 8]
  | _ => []
noncomputable def u105 : Nat → Bool
  | 8 => true
  | _ => false
noncomputable def m105 : Nat → Bool
  | _ => false
noncomputable def g105 : Cfg := { N := 53, live := l105, cut := u105, mu := m105, ret := rets }
noncomputable def c105 : Go.Code := Go.Ab.bodyOf Go.Proofs.Try.f105
noncomputable def q105_0 : Nat → (AV → List AObj → Prop) → AQ := fun (n : Nat) (Post : AV → List AObj → Prop) => endQ Try.prog (resultsOf Try.f105) Post
noncomputable def c105_8 : Go.Code := codeSnd (codeSnd (codeSnd (codeSnd c105)))
noncomputable def q105_1 : Nat → (AV → List AObj → Prop) → AQ := fun (n : Nat) (Post : AV → List AObj → Prop) => seqQ (fun (s' : Slots) (H' : List AObj) => AWP Try.prog (Cfg.N g105) n c105_8 (restrict s' (Cfg.live g105 8)) H' (q105_0 n Post)) (q105_0 n Post)
noncomputable def q105_2 : Nat → (AV → List AObj → Prop) → AQ := fun (n : Nat) (Post : AV → List AObj → Prop) => blockQ 0 (q105_1 n Post)
noncomputable def c105_4 : Go.Code := codeFst (codeSnd (codeFst (codeSnd (codeSnd (codeSnd c105)))))
theorem s105 : ∀ (x : T.Xf) (t : Int) (Post : AV → List AObj → Prop),
  (ASpec Try.prog 107
      [AV.agg [AV.int IntKind.i64 (Prod.fst x), AV.sl 2 (Seq.map T.encSe T.noSeat (Prod.fst (Prod.snd x))) Tip.none, AV.int IntKind.i64 (Prod.snd (Prod.snd x))], AV.int IntKind.i64 t]
      [AObj.cells [AV.int IntKind.i64 (Prod.fst x), AV.sl 2 (Seq.map T.encSe T.noSeat (Prod.fst (Prod.snd x))) Tip.none, AV.int IntKind.i64 (Prod.snd (Prod.snd x))]]
      fun (r : AV) (H' : List AObj) =>
      ∃ (x_1 : List UInt8 × Bool),
        r = AV.tup [AV.str { data := List.toArray (Prod.fst x_1) }, AV.bool (Prod.snd x_1)] ∧
        H' = [AObj.cells [AV.int IntKind.i64 (Prod.fst x), AV.sl 2 (Seq.map T.encSe T.noSeat (Prod.fst (Prod.snd x))) Tip.none, AV.int IntKind.i64 (Prod.snd (Prod.snd x))]] ∧
        AWP Try.prog 53 1 c105_4
        [(0, AV.ptr 0 0), (1, AV.int IntKind.i64 t), (6, AV.str { data := List.toArray (Prod.fst x_1) }), (7, AV.bool (Prod.snd x_1)),
        (8, AV.sl 0 (Seq.raw []) Tip.nil), (9, AV.int IntKind.i64 (0 : Int))]
        [AObj.cells [AV.int IntKind.i64 (Prod.fst x), AV.sl 2 (Seq.map T.encSe T.noSeat (Prod.fst (Prod.snd x))) Tip.none, AV.int IntKind.i64 (Prod.snd (Prod.snd x))]]
        (q105_2 1 Post)) →
    ASpec Try.prog 105 [AV.ptr 0 0, AV.int IntKind.i64 t] [AObj.cells (T.encXf x)] Post := fun x t Post h => Go.Ab.ASpec.of_vc g105 Go.Proofs.Try.func105 (by kernel_rfl) (by kernel_rfl) (by kernel_rfl) (Go.Ab.kc (by kernel_rfl) h)
theorem v105_4 : ∀ (x : T.Xf) (t : Int) (s : List UInt8) (b : Bool) (o : List T.Seat) (i : Int) (n : Nat) (Post : AV → List AObj → Prop),
  condP (decide (i < (↑(List.length (Prod.fst (Prod.snd x))) : Int)))
      (needP ((0 : Int) ≤ i ∧ i < (↑(List.length (Prod.fst (Prod.snd x))) : Int))
        (condP (Prod.fst (List.getD (Prod.fst (Prod.snd x)) (Int.toNat i) T.noSeat) != t)
        (needP ((0 : Int) ≤ i ∧ i < (↑(List.length (Prod.fst (Prod.snd x))) : Int))
        (needP ((List.length o + 1) * 24 ≤ 140737488351232)
        (AWP Try.prog 53 n c105_4
        [(0, AV.ptr 0 0), (1, AV.int IntKind.i64 t), (6, AV.str { data := List.toArray s }), (7, AV.bool b),
        (8,
        AV.sl 2
        (Seq.app (Seq.map T.encSe T.noSeat o)
        (Seq.raw
        [[AV.int IntKind.i64 (Prod.fst (List.getD (Prod.fst (Prod.snd x)) (Int.toNat i) T.noSeat)),
        AV.str { data := List.toArray (Prod.snd (List.getD (Prod.fst (Prod.snd x)) (Int.toNat i) T.noSeat)) }]]))
        (Tip.tok 2)),
        (9, AV.int IntKind.i64 (IntKind.wrap IntKind.i64 (i + (1 : Int))))]
        [AObj.cells [AV.int IntKind.i64 (Prod.fst x), AV.sl 2 (Seq.map T.encSe T.noSeat (Prod.fst (Prod.snd x))) Tip.none, AV.int IntKind.i64 (Prod.snd (Prod.snd x))], AObj.gone,
        AObj.tok]
        (q105_2 n Post))))
        (AWP Try.prog 53 n c105_4
        [(0, AV.ptr 0 0), (1, AV.int IntKind.i64 t), (6, AV.str { data := List.toArray s }), (7, AV.bool b),
        (8, AV.sl 2 (Seq.map T.encSe T.noSeat o) (Tip.tok 1)), (9, AV.int IntKind.i64 (IntKind.wrap IntKind.i64 (i + (1 : Int))))]
        [AObj.cells [AV.int IntKind.i64 (Prod.fst x), AV.sl 2 (Seq.map T.encSe T.noSeat (Prod.fst (Prod.snd x))) Tip.none, AV.int IntKind.i64 (Prod.snd (Prod.snd x))], AObj.tok]
        (q105_2 n Post))))
      (AWP Try.prog 53 n c105_8
        [(0, AV.ptr 0 0), (6, AV.str { data := List.toArray s }), (7, AV.bool b), (8, AV.sl 2 (Seq.map T.encSe T.noSeat o) (Tip.tok 1))]
        [AObj.cells [AV.int IntKind.i64 (Prod.fst x), AV.sl 2 (Seq.map T.encSe T.noSeat (Prod.fst (Prod.snd x))) Tip.none, AV.int IntKind.i64 (Prod.snd (Prod.snd x))], AObj.tok]
        (q105_0 n Post)) →
    AWP Try.prog 53 n c105_4
      [(0, AV.ptr 0 0), (1, AV.int IntKind.i64 t), (6, AV.str { data := List.toArray s }), (7, AV.bool b),
        (8, AV.sl 2 (Seq.map T.encSe T.noSeat o) (Tip.tok 1)), (9, AV.int IntKind.i64 i)]
      [AObj.cells (T.encXf x), AObj.tok] (q105_2 n Post) := fun x t s b o i n Post h => Go.Ab.AWP.loop' g105 (Cfg.live g105) c105_4 (by kernel_rfl) (by kernel_rfl) (Go.Ab.kc (by kernel_rfl) h)
theorem v105_8 : ∀ (x : T.Xf) (s : List UInt8) (b : Bool) (o : List T.Seat) (n : Nat) (Post : AV → List AObj → Prop),
  Post (AV.tup [AV.str { data := List.toArray s }, AV.bool b])
      [AObj.cells [AV.int IntKind.i64 (Prod.fst x), AV.sl 2 (Seq.map T.encSe T.noSeat o) (Tip.tok 1), AV.int IntKind.i64 (Prod.snd (Prod.snd x))], AObj.tok] →
    AWP Try.prog 53 n c105_8
      [(0, AV.ptr 0 0), (6, AV.str { data := List.toArray s }), (7, AV.bool b), (8, AV.sl 2 (Seq.map T.encSe T.noSeat o) (Tip.tok 1))]
      [AObj.cells (T.encXf x), AObj.tok] (q105_0 n Post) := fun x s b o n Post h => Go.Ab.awp_sound g105 n _ _ _ _ (Go.Ab.kc (by kernel_rfl) h)

-- 106
noncomputable def l106 : Nat → List Nat
  | _ => []
noncomputable def u106 : Nat → Bool
  | _ => false
noncomputable def m106 : Nat → Bool
  | _ => false
noncomputable def g106 : Cfg := { N := 55, live := l106, cut := u106, mu := m106, ret := rets }
theorem s106 : ∀ (x : T.Xf) (s : List UInt8) (Post : AV → List AObj → Prop),
  condP (decide ((↑(List.length (Prod.fst (Prod.snd x))) : Int) ≥ Prod.fst x))
      (Post (AV.tup [AV.int IntKind.i64 (0 : Int), AV.bool false])
        [AObj.cells [AV.int IntKind.i64 (Prod.fst x), AV.sl 2 (Seq.map T.encSe T.noSeat (Prod.fst (Prod.snd x))) Tip.none, AV.int IntKind.i64 (Prod.snd (Prod.snd x))]])
      (ASpec Try.prog 108
        [AV.agg [AV.int IntKind.i64 (Prod.fst x), AV.sl 2 (Seq.map T.encSe T.noSeat (Prod.fst (Prod.snd x))) Tip.none, AV.int IntKind.i64 (Prod.snd (Prod.snd x))],
        AV.str { data := List.toArray s }]
        [AObj.cells [AV.int IntKind.i64 (Prod.fst x), AV.sl 2 (Seq.map T.encSe T.noSeat (Prod.fst (Prod.snd x))) Tip.none, AV.int IntKind.i64 (Prod.snd (Prod.snd x))]]
        fun (r : AV) (H' : List AObj) =>
        ∃ (x_1 : Bool),
        r = AV.bool x_1 ∧
        H' = [AObj.cells [AV.int IntKind.i64 (Prod.fst x), AV.sl 2 (Seq.map T.encSe T.noSeat (Prod.fst (Prod.snd x))) Tip.none, AV.int IntKind.i64 (Prod.snd (Prod.snd x))]] ∧
        condP x_1
        (Post (AV.tup [AV.int IntKind.i64 (0 : Int), AV.bool false])
        [AObj.cells [AV.int IntKind.i64 (Prod.fst x), AV.sl 2 (Seq.map T.encSe T.noSeat (Prod.fst (Prod.snd x))) Tip.none, AV.int IntKind.i64 (Prod.snd (Prod.snd x))]])
        (needP (∀ (x : T.Seat), List.all (T.encSe x) oneAV = true)
        (needP ((0 + List.length (Prod.fst (Prod.snd x))) * 24 ≤ 140737488351232)
        (needP ((0 + List.length (Prod.fst (Prod.snd x)) + 1) * 24 ≤ 140737488351232)
        (Post (AV.tup [AV.int IntKind.i64 (IntKind.wrap IntKind.i64 (Prod.snd (Prod.snd x) + (1 : Int))), AV.bool true])
        [AObj.cells
        [AV.int IntKind.i64 (Prod.fst x),
        AV.sl 2
        (Seq.app (Seq.app (Seq.raw []) (Seq.map T.encSe T.noSeat (Prod.fst (Prod.snd x))))
        (Seq.raw [[AV.int IntKind.i64 (IntKind.wrap IntKind.i64 (Prod.snd (Prod.snd x) + (1 : Int))), AV.str { data := List.toArray s }]]))
        (Tip.tok 2),
        AV.int IntKind.i64 (IntKind.wrap IntKind.i64 (Prod.snd (Prod.snd x) + (1 : Int)))],
        AObj.gone, AObj.tok]))))) →
    ASpec Try.prog 106 [AV.ptr 0 0, AV.str { data := List.toArray s }] [AObj.cells (T.encXf x)] Post := fun x s Post h => Go.Ab.ASpec.of_vc g106 Go.Proofs.Try.func106 (by kernel_rfl) (by kernel_rfl) (by kernel_rfl) (Go.Ab.kc (by kernel_rfl) h)

-- 109
noncomputable def l109 : Nat → List Nat
  | 4 => [0, 1, 5]
  | _ => []
noncomputable def u109 : Nat → Bool
  | _ => false
noncomputable def m109 : Nat → Bool
  | _ => false
noncomputable def g109 : Cfg := { N := 26, live := l109, cut := u109, mu := m109, ret := rets }
noncomputable def c109 : Go.Code := Go.Ab.bodyOf Go.Proofs.Try.f109
noncomputable def q109_0 : Nat → (AV → List AObj → Prop) → AQ := fun (n : Nat) (Post : AV → List AObj → Prop) => endQ Try.prog (resultsOf Try.f109) Post
noncomputable def q109_1 : Nat → (AV → List AObj → Prop) → AQ := fun (n : Nat) (Post : AV → List AObj → Prop) => seqQ (fun (s' : Slots) (H' : List AObj) => awp Try.prog g109 n (codeSnd (codeSnd (codeSnd c109))) s' H' (q109_0 n Post)) (q109_0 n Post)
noncomputable def q109_2 : Nat → (AV → List AObj → Prop) → AQ := fun (n : Nat) (Post : AV → List AObj → Prop) => blockQ 0 (q109_1 n Post)
noncomputable def c109_4 : Go.Code := codeFst (codeSnd (codeFst (codeSnd (codeSnd c109))))
theorem s109 : ∀ (a b : List Int) (Post : AV → List AObj → Prop),
  condP ((↑(List.length a) : Int) != (↑(List.length b) : Int)) (Post (AV.bool false) [])
      (AWP Try.prog 26 0 c109_4
        [(0, AV.sl 1 (Seq.map encI (0 : Int) a) Tip.none), (1, AV.sl 1 (Seq.map encI (0 : Int) b) Tip.none), (5, AV.int IntKind.i64 (0 : Int))] []
        (q109_2 0 Post)) →
    ASpec Try.prog 109 [AV.sl 1 (Seq.map encI (0 : Int) a) Tip.none, AV.sl 1 (Seq.map encI (0 : Int) b) Tip.none] [] Post := fun a b Post h => Go.Ab.ASpec.of_vc g109 Go.Proofs.Try.func109 (by kernel_rfl) (by kernel_rfl) (by kernel_rfl) (Go.Ab.kc (by kernel_rfl) h)
theorem v109_4 : ∀ (a b : List Int) (i : Int) (n : Nat) (Post : AV → List AObj → Prop),
  condP (decide (i < (↑(List.length a) : Int)))
      (needP ((0 : Int) ≤ i ∧ i < (↑(List.length a) : Int))
        (needP ((0 : Int) ≤ i ∧ i < (↑(List.length b) : Int))
        (condP (List.getD a (Int.toNat i) (0 : Int) != List.getD b (Int.toNat i) (0 : Int)) (Post (AV.bool false) [])
        (AWP Try.prog 26 n c109_4
        [(0, AV.sl 1 (Seq.map encI (0 : Int) a) Tip.none), (1, AV.sl 1 (Seq.map encI (0 : Int) b) Tip.none),
        (5, AV.int IntKind.i64 (IntKind.wrap IntKind.i64 (i + (1 : Int))))]
        [] (q109_2 n Post)))))
      (Post (AV.bool true) []) →
    AWP Try.prog 26 n c109_4
      [(0, AV.sl 1 (Seq.map encI (0 : Int) a) Tip.none), (1, AV.sl 1 (Seq.map encI (0 : Int) b) Tip.none), (5, AV.int IntKind.i64 i)] [] (q109_2 n Post) := fun a b i n Post h => Go.Ab.AWP.loop' g109 (Cfg.live g109) c109_4 (by kernel_rfl) (by kernel_rfl) (Go.Ab.kc (by kernel_rfl) h)

-- 13
noncomputable def l13 : Nat → List Nat
  | 4 => [0, 1, 5]
  | 5 => [1, 5, 6, 7]
  | 7 => [5, 9]
  | 8 => [5, 9, 11]
  | 9 => [5, 9, 11, 13]
  | 13 => [1, 5, 6, 14]
  | 16 => [1, 5, 6, 14, 15]
  | 18 => [1, 5, 6, 14, 15, 16, 17]
  | 19 => [1, 5, 6, 14, 15, 16, 17, 18, 19]
  | 20 => [1, 5, 6, 14, 15, 123]
  | 22 => [1, 5, 6, 14, 15, 20, 21]
  | 23 => [1, 5, 6, 14, 15, 20, 21, 22, 23]
  | 24 => [1, 5, 6, 14, 15, 144]
  | 25 => [1, 5, 6, 14, 15]
  | 26 => [1, 5, 6, 14, 15, 24, 25]
  | 27 => [1, 5, 6, 14, 15, 24, 25, 26, 27]
  | 28 => [1, 5, 6, 14, 200]
  | _ => []
noncomputable def u13 : Nat → Bool
  | 4 => true
  | 5 => true
  | 7 => true
  | 8 => true
  | 9 => true
  | 16 => true
  | 18 => true
  | 19 => true
  | 20 => true
  | 22 => true
  | 23 => true
  | 24 => true
  | 25 => true
  | 26 => true
  | 27 => true
  | 28 => true
  | _ => false
noncomputable def m13 : Nat → Bool
  | _ => false
noncomputable def g13 : Cfg := { N := 202, live := l13, cut := u13, mu := m13, ret := rets }
noncomputable def c13 : Go.Code := Go.Ab.bodyOf Go.Proofs.Try.f13
noncomputable def q13_0 : Nat → (AV → List AObj → Prop) → AQ := fun (n : Nat) (Post : AV → List AObj → Prop) => endQ Try.prog (resultsOf Try.f13) Post
noncomputable def c13_4 : Go.Code := codeSnd (codeSnd (codeSnd c13))
theorem s13 : ∀ (w : Int) (l : List T.Fd) (Post : AV → List AObj → Prop),
  (ASpec Try.prog 94 [AV.sl 3 (Seq.map T.encFd T.noFd l) Tip.none] [] fun (r : AV) (H' : List AObj) =>
      ∃ (x : Bool),
        r = AV.bool x ∧
        H' = [] ∧
        condP x (ASpec Try.prog 95 [] [] fun (r : AV) (H' : List AObj) => ∃ (x : Unit), r = AV.bool true ∧ H' = [] ∧ Post (AV.bool true) [])
        (ASpec Try.prog 96 [AV.int IntKind.i64 w] [] fun (r : AV) (H' : List AObj) =>
        (∃ (x : Unit),
        r = AV.nilp ∧
        H' = [] ∧
        AWP Try.prog 202 0 c13_4 [(0, AV.int IntKind.i64 w), (1, AV.sl 3 (Seq.map T.encFd T.noFd l) Tip.none), (5, AV.nilp)] []
        (q13_0 0 Post)) ∨
        ∃ (x : List T.Seat × Int × Int),
        r = AV.ptr 0 0 ∧
        H' =
        [AObj.cells
        (T.encFl x)] ∧
        AWP Try.prog 202 0 c13_4
        [(0, AV.int IntKind.i64 w), (1, AV.sl 3 (Seq.map T.encFd T.noFd l) Tip.none), (5, AV.ptr 0 0)]
        [AObj.cells
        (T.encFl x)]
        (q13_0 0 Post))) →
    ASpec Try.prog 13 [AV.int IntKind.i64 w, AV.sl 3 (Seq.map T.encFd T.noFd l) Tip.none] [] Post := fun w l Post h => Go.Ab.ASpec.of_vc g13 Go.Proofs.Try.func13 (by kernel_rfl) (by kernel_rfl) (by kernel_rfl) (Go.Ab.kc (by kernel_rfl) h)
noncomputable def c13_5 : Go.Code := codeSnd c13_4
theorem v13_4n : ∀ (w : Int) (l : List T.Fd) (n : Nat) (Post : AV → List AObj → Prop),
  (ASpec Try.prog 101 [AV.int IntKind.i64 w] [] fun (r : AV) (H' : List AObj) =>
      ∃ (x : T.Xf × Bool),
        r =
        AV.tup
        [AV.agg
        [AV.int IntKind.i64 (Prod.fst (Prod.fst x)), AV.sl 2 (Seq.map T.encSe T.noSeat (Prod.fst (Prod.snd (Prod.fst x)))) Tip.none,
        AV.int IntKind.i64 (Prod.snd (Prod.snd (Prod.fst x)))],
        AV.bool (Prod.snd x)] ∧
        H' = [] ∧
        AWP Try.prog 202 n c13_5
        [(1, AV.sl 3 (Seq.map T.encFd T.noFd l) Tip.none), (5, AV.nilp), (6, AV.ptr 0 0), (7, AV.bool (Prod.snd x))]
        [AObj.cells
        [AV.int IntKind.i64 (Prod.fst (Prod.fst x)), AV.sl 2 (Seq.map T.encSe T.noSeat (Prod.fst (Prod.snd (Prod.fst x)))) Tip.none,
        AV.int IntKind.i64 (Prod.snd (Prod.snd (Prod.fst x)))]]
        (q13_0 n Post)) →
    AWP Try.prog 202 n c13_4 [(0, AV.int IntKind.i64 w), (1, AV.sl 3 (Seq.map T.encFd T.noFd l) Tip.none), (5, AV.nilp)] [] (q13_0 n Post) := fun w l n Post h => Go.Ab.awp_sound g13 n _ _ _ _ (Go.Ab.kc (by kernel_rfl) h)
theorem v13_4m : ∀ (w : Int) (l : List T.Fd) (f : T.Fl) (n : Nat) (Post : AV → List AObj → Prop),
  (ASpec Try.prog 101 [AV.int IntKind.i64 w]
      [AObj.cells
        (T.encFl f)]
      fun (r : AV) (H' : List AObj) =>
      ∃ (x : T.Xf × Bool),
        r =
        AV.tup
        [AV.agg
        [AV.int IntKind.i64 (Prod.fst (Prod.fst x)), AV.sl 2 (Seq.map T.encSe T.noSeat (Prod.fst (Prod.snd (Prod.fst x)))) Tip.none,
        AV.int IntKind.i64 (Prod.snd (Prod.snd (Prod.fst x)))],
        AV.bool (Prod.snd x)] ∧
        H' =
        [AObj.cells
        (T.encFl f)] ∧
        AWP Try.prog 202 n c13_5
        [(1, AV.sl 3 (Seq.map T.encFd T.noFd l) Tip.none), (5, AV.ptr 0 0), (6, AV.ptr 1 0), (7, AV.bool (Prod.snd x))]
        [AObj.cells
        (T.encFl f),
        AObj.cells
        [AV.int IntKind.i64 (Prod.fst (Prod.fst x)), AV.sl 2 (Seq.map T.encSe T.noSeat (Prod.fst (Prod.snd (Prod.fst x)))) Tip.none,
        AV.int IntKind.i64 (Prod.snd (Prod.snd (Prod.fst x)))]]
        (q13_0 n Post)) →
    AWP Try.prog 202 n c13_4 [(0, AV.int IntKind.i64 w), (1, AV.sl 3 (Seq.map T.encFd T.noFd l) Tip.none), (5, AV.ptr 0 0)]
      [AObj.cells (T.encFl f)] (q13_0 n Post) := fun w l f n Post h => Go.Ab.awp_sound g13 n _ _ _ _ (Go.Ab.kc (by kernel_rfl) h)
noncomputable def q13_1 : Nat → (AV → List AObj → Prop) → AQ := fun (n : Nat) (Post : AV → List AObj → Prop) => seqQ (fun (s' : Slots) (H' : List AObj) => awp Try.prog g13 n (codeSnd c13_5) s' H' (q13_0 n Post)) (q13_0 n Post)
noncomputable def c13_7 : Go.Code := codeSnd (codeFst (codeSnd (codeFst c13_5)))
theorem v13_5n : ∀ (l : List T.Fd) (x : T.Xf) (b : Bool) (n : Nat) (Post : AV → List AObj → Prop),
  condP (!b)
      (ASpec Try.prog 98 [AV.nilp, AV.str { data := #[(97 : UInt8)] }]
        [AObj.cells [AV.int IntKind.i64 (Prod.fst x), AV.sl 2 (Seq.map T.encSe T.noSeat (Prod.fst (Prod.snd x))) Tip.none, AV.int IntKind.i64 (Prod.snd (Prod.snd x))]]
        fun (r : AV) (H' : List AObj) =>
        (∃ (x_1 : Int × Bool),
        r = AV.tup [AV.int IntKind.i64 (Prod.fst x_1), AV.bool (Prod.snd x_1)] ∧
        H' = [AObj.cells [AV.int IntKind.i64 (Prod.fst x), AV.sl 2 (Seq.map T.encSe T.noSeat (Prod.fst (Prod.snd x))) Tip.none, AV.int IntKind.i64 (Prod.snd (Prod.snd x))]] ∧
        AWP Try.prog 202 n c13_7 [(5, AV.nilp), (9, AV.bool (Prod.snd x_1))]
        [AObj.cells [AV.int IntKind.i64 (Prod.fst x), AV.sl 2 (Seq.map T.encSe T.noSeat (Prod.fst (Prod.snd x))) Tip.none, AV.int IntKind.i64 (Prod.snd (Prod.snd x))]]
        (q13_1 n Post)) ∨
        ∃ (x_1 : (Int × Bool) × T.Fl),
        r = AV.tup [AV.int IntKind.i64 (Prod.fst (Prod.fst x_1)), AV.bool (Prod.snd (Prod.fst x_1))] ∧
        H' = [AObj.cells [AV.int IntKind.i64 (Prod.fst x), AV.sl 2 (Seq.map T.encSe T.noSeat (Prod.fst (Prod.snd x))) Tip.none, AV.int IntKind.i64 (Prod.snd (Prod.snd x))]] ∧
        AWP Try.prog 202 n c13_7 [(5, AV.nilp), (9, AV.bool (Prod.snd (Prod.fst x_1)))]
        [AObj.cells [AV.int IntKind.i64 (Prod.fst x), AV.sl 2 (Seq.map T.encSe T.noSeat (Prod.fst (Prod.snd x))) Tip.none, AV.int IntKind.i64 (Prod.snd (Prod.snd x))]]
        (q13_1 n Post))
      (Post (AV.bool false) [AObj.cells [AV.int IntKind.i64 (Prod.fst x), AV.sl 2 (Seq.map T.encSe T.noSeat (Prod.fst (Prod.snd x))) Tip.none, AV.int IntKind.i64 (Prod.snd (Prod.snd x))]]) →
    AWP Try.prog 202 n c13_5 [(1, AV.sl 3 (Seq.map T.encFd T.noFd l) Tip.none), (5, AV.nilp), (6, AV.ptr 0 0), (7, AV.bool b)]
      [AObj.cells (T.encXf x)] (q13_0 n Post) := fun l x b n Post h => Go.Ab.awp_sound g13 n _ _ _ _ (Go.Ab.kc (by kernel_rfl) h)
noncomputable def q13_2 : Nat → (AV → List AObj → Prop) → AQ := fun (n : Nat) (Post : AV → List AObj → Prop) => seqQ (fun (s' : Slots) (H' : List AObj) => awp Try.prog g13 n (codeSnd (codeSnd (codeSnd c13_5))) s' H' (q13_0 n Post)) (q13_0 n Post)
noncomputable def q13_3 : Nat → (AV → List AObj → Prop) → AQ := fun (n : Nat) (Post : AV → List AObj → Prop) => blockQ 0 (q13_2 n Post)
noncomputable def c13_13 : Go.Code := codeFst (codeSnd (codeFst (codeSnd (codeSnd c13_5))))
theorem v13_5m : ∀ (l : List T.Fd) (f : T.Fl) (x : T.Xf) (b : Bool) (n : Nat) (Post : AV → List AObj → Prop),
  condP (!b)
      (ASpec Try.prog 98 [AV.ptr 0 0, AV.str { data := #[(97 : UInt8)] }]
        [AObj.cells
        (T.encFl f),
        AObj.cells [AV.int IntKind.i64 (Prod.fst x), AV.sl 2 (Seq.map T.encSe T.noSeat (Prod.fst (Prod.snd x))) Tip.none, AV.int IntKind.i64 (Prod.snd (Prod.snd x))]]
        fun (r : AV) (H' : List AObj) =>
        (∃ (x_1 : Int × Bool),
        r = AV.tup [AV.int IntKind.i64 (Prod.fst x_1), AV.bool (Prod.snd x_1)] ∧
        H' =
        [AObj.cells
        (T.encFl f),
        AObj.cells [AV.int IntKind.i64 (Prod.fst x), AV.sl 2 (Seq.map T.encSe T.noSeat (Prod.fst (Prod.snd x))) Tip.none, AV.int IntKind.i64 (Prod.snd (Prod.snd x))]] ∧
        AWP Try.prog 202 n c13_7 [(5, AV.ptr 0 0), (9, AV.bool (Prod.snd x_1))]
        [AObj.cells
        (T.encFl f),
        AObj.cells [AV.int IntKind.i64 (Prod.fst x), AV.sl 2 (Seq.map T.encSe T.noSeat (Prod.fst (Prod.snd x))) Tip.none, AV.int IntKind.i64 (Prod.snd (Prod.snd x))]]
        (q13_1 n Post)) ∨
        ∃ (x_1 : (Int × Bool) × T.Fl),
        r = AV.tup [AV.int IntKind.i64 (Prod.fst (Prod.fst x_1)), AV.bool (Prod.snd (Prod.fst x_1))] ∧
        H' =
        [AObj.cells
        (T.encFl (Prod.snd x_1)),
        AObj.cells [AV.int IntKind.i64 (Prod.fst x), AV.sl 2 (Seq.map T.encSe T.noSeat (Prod.fst (Prod.snd x))) Tip.none, AV.int IntKind.i64 (Prod.snd (Prod.snd x))]] ∧
        AWP Try.prog 202 n c13_7 [(5, AV.ptr 0 0), (9, AV.bool (Prod.snd (Prod.fst x_1)))]
        [AObj.cells
        (T.encFl (Prod.snd x_1)),
        AObj.cells [AV.int IntKind.i64 (Prod.fst x), AV.sl 2 (Seq.map T.encSe T.noSeat (Prod.fst (Prod.snd x))) Tip.none, AV.int IntKind.i64 (Prod.snd (Prod.snd x))]]
        (q13_1 n Post))
      (AWP Try.prog 202 n c13_13
        [(1, AV.sl 3 (Seq.map T.encFd T.noFd l) Tip.none), (5, AV.ptr 0 0), (6, AV.ptr 1 0), (14, AV.int IntKind.i64 (0 : Int))]
        [AObj.cells
        (T.encFl f),
        AObj.cells [AV.int IntKind.i64 (Prod.fst x), AV.sl 2 (Seq.map T.encSe T.noSeat (Prod.fst (Prod.snd x))) Tip.none, AV.int IntKind.i64 (Prod.snd (Prod.snd x))]]
        (q13_3 n Post)) →
    AWP Try.prog 202 n c13_5
      [(1, AV.sl 3 (Seq.map T.encFd T.noFd l) Tip.none), (5, AV.ptr 0 0), (6, AV.ptr 1 0), (7, AV.bool b)]
      [AObj.cells (T.encFl f), AObj.cells (T.encXf x)] (q13_0 n Post) := fun l f x b n Post h => Go.Ab.awp_sound g13 n _ _ _ _ (Go.Ab.kc (by kernel_rfl) h)
noncomputable def c13_8 : Go.Code := codeSnd c13_7
theorem v13_7 : ∀ (x : T.Xf) (b : Bool) (n : Nat) (Post : AV → List AObj → Prop),
  (ASpec Try.prog 99 [AV.nilp, AV.int IntKind.i64 (1 : Int)]
      [AObj.cells [AV.int IntKind.i64 (Prod.fst x), AV.sl 2 (Seq.map T.encSe T.noSeat (Prod.fst (Prod.snd x))) Tip.none, AV.int IntKind.i64 (Prod.snd (Prod.snd x))]]
      fun (r : AV) (H' : List AObj) =>
      (∃ (x_1 : List UInt8 × Bool),
        r = AV.tup [AV.str { data := List.toArray (Prod.fst x_1) }, AV.bool (Prod.snd x_1)] ∧
        H' = [AObj.cells [AV.int IntKind.i64 (Prod.fst x), AV.sl 2 (Seq.map T.encSe T.noSeat (Prod.fst (Prod.snd x))) Tip.none, AV.int IntKind.i64 (Prod.snd (Prod.snd x))]] ∧
        AWP Try.prog 202 n c13_8 [(5, AV.nilp), (9, AV.bool b), (11, AV.bool (Prod.snd x_1))]
        [AObj.cells [AV.int IntKind.i64 (Prod.fst x), AV.sl 2 (Seq.map T.encSe T.noSeat (Prod.fst (Prod.snd x))) Tip.none, AV.int IntKind.i64 (Prod.snd (Prod.snd x))]]
        (q13_1 n Post)) ∨
        ∃ (x_1 : (List UInt8 × Bool) × T.Fl),
        r = AV.tup [AV.str { data := List.toArray (Prod.fst (Prod.fst x_1)) }, AV.bool (Prod.snd (Prod.fst x_1))] ∧
        H' = [AObj.cells [AV.int IntKind.i64 (Prod.fst x), AV.sl 2 (Seq.map T.encSe T.noSeat (Prod.fst (Prod.snd x))) Tip.none, AV.int IntKind.i64 (Prod.snd (Prod.snd x))]] ∧
        AWP Try.prog 202 n c13_8 [(5, AV.nilp), (9, AV.bool b), (11, AV.bool (Prod.snd (Prod.fst x_1)))]
        [AObj.cells [AV.int IntKind.i64 (Prod.fst x), AV.sl 2 (Seq.map T.encSe T.noSeat (Prod.fst (Prod.snd x))) Tip.none, AV.int IntKind.i64 (Prod.snd (Prod.snd x))]]
        (q13_1 n Post)) →
    AWP Try.prog 202 n c13_7 [(5, AV.nilp), (9, AV.bool b)] [AObj.cells (T.encXf x)] (q13_1 n Post) := fun x b n Post h => Go.Ab.awp_sound g13 n _ _ _ _ (Go.Ab.kc (by kernel_rfl) h)
noncomputable def c13_9 : Go.Code := codeSnd c13_8
theorem v13_8 : ∀ (x : T.Xf) (b c : Bool) (n : Nat) (Post : AV → List AObj → Prop),
  (ASpec Try.prog 102 [AV.nilp, AV.int IntKind.i64 (1 : Int)]
      [AObj.cells [AV.int IntKind.i64 (Prod.fst x), AV.sl 2 (Seq.map T.encSe T.noSeat (Prod.fst (Prod.snd x))) Tip.none, AV.int IntKind.i64 (Prod.snd (Prod.snd x))]]
      fun (r : AV) (H' : List AObj) =>
      ∃ (x_1 : List UInt8 × Bool),
        r = AV.tup [AV.str { data := List.toArray (Prod.fst x_1) }, AV.bool (Prod.snd x_1)] ∧
        H' = [AObj.cells [AV.int IntKind.i64 (Prod.fst x), AV.sl 2 (Seq.map T.encSe T.noSeat (Prod.fst (Prod.snd x))) Tip.none, AV.int IntKind.i64 (Prod.snd (Prod.snd x))]] ∧
        AWP Try.prog 202 n c13_9 [(5, AV.nilp), (9, AV.bool b), (11, AV.bool c), (13, AV.bool (Prod.snd x_1))]
        [AObj.cells [AV.int IntKind.i64 (Prod.fst x), AV.sl 2 (Seq.map T.encSe T.noSeat (Prod.fst (Prod.snd x))) Tip.none, AV.int IntKind.i64 (Prod.snd (Prod.snd x))]] (q13_1 n Post)) →
    AWP Try.prog 202 n c13_8 [(5, AV.nilp), (9, AV.bool b), (11, AV.bool c)] [AObj.cells (T.encXf x)] (q13_1 n Post) := fun x b c n Post h => Go.Ab.awp_sound g13 n _ _ _ _ (Go.Ab.kc (by kernel_rfl) h)
theorem v13_9 : ∀ (x : T.Xf) (b c e : Bool) (n : Nat) (Post : AV → List AObj → Prop),
  condP (!b)
      (condP (!c)
        (condP (!e)
        (ASpec Try.prog 97 [AV.nilp, AV.str { data := #[(97 : UInt8)] }]
        [AObj.cells [AV.int IntKind.i64 (Prod.fst x), AV.sl 2 (Seq.map T.encSe T.noSeat (Prod.fst (Prod.snd x))) Tip.none, AV.int IntKind.i64 (Prod.snd (Prod.snd x))]]
        fun (r : AV) (H' : List AObj) =>
        ∃ (x_1 : Bool),
        r = AV.bool x_1 ∧
        H' = [AObj.cells [AV.int IntKind.i64 (Prod.fst x), AV.sl 2 (Seq.map T.encSe T.noSeat (Prod.fst (Prod.snd x))) Tip.none, AV.int IntKind.i64 (Prod.snd (Prod.snd x))]] ∧
        condP (!x_1)
        (ASpec Try.prog 103 [AV.nilp]
        [AObj.cells [AV.int IntKind.i64 (Prod.fst x), AV.sl 2 (Seq.map T.encSe T.noSeat (Prod.fst (Prod.snd x))) Tip.none, AV.int IntKind.i64 (Prod.snd (Prod.snd x))]]
        fun (r : AV) (H' : List AObj) =>
        ∃ (x_2 : List Int),
        r = AV.sl 1 (Seq.map encI (0 : Int) x_2) Tip.none ∧
        H' = [AObj.cells [AV.int IntKind.i64 (Prod.fst x), AV.sl 2 (Seq.map T.encSe T.noSeat (Prod.fst (Prod.snd x))) Tip.none, AV.int IntKind.i64 (Prod.snd (Prod.snd x))]] ∧
        ASpec Try.prog 100 [AV.nilp]
        [AObj.cells [AV.int IntKind.i64 (Prod.fst x), AV.sl 2 (Seq.map T.encSe T.noSeat (Prod.fst (Prod.snd x))) Tip.none, AV.int IntKind.i64 (Prod.snd (Prod.snd x))]]
        fun (r : AV) (H' : List AObj) =>
        ∃ (x_3 : Int),
        r = AV.int IntKind.i64 x_3 ∧
        H' =
        [AObj.cells
        [AV.int IntKind.i64 (Prod.fst x), AV.sl 2 (Seq.map T.encSe T.noSeat (Prod.fst (Prod.snd x))) Tip.none, AV.int IntKind.i64 (Prod.snd (Prod.snd x))]] ∧
        ASpec Try.prog 104 [AV.nilp]
        [AObj.cells
        [AV.int IntKind.i64 (Prod.fst x), AV.sl 2 (Seq.map T.encSe T.noSeat (Prod.fst (Prod.snd x))) Tip.none, AV.int IntKind.i64 (Prod.snd (Prod.snd x))]]
        fun (r : AV) (H' : List AObj) =>
        ∃ (x_4 : Int),
        r = AV.int IntKind.i64 x_4 ∧
        H' =
        [AObj.cells
        [AV.int IntKind.i64 (Prod.fst x), AV.sl 2 (Seq.map T.encSe T.noSeat (Prod.fst (Prod.snd x))) Tip.none,
        AV.int IntKind.i64 (Prod.snd (Prod.snd x))]] ∧
        condP (IntKind.wrap IntKind.i64 (IntKind.wrap IntKind.i64 ((↑(List.length x_2) : Int) + x_3) + x_4) == (0 : Int))
        (ASpec Try.prog 95 []
        [AObj.cells
        [AV.int IntKind.i64 (Prod.fst x), AV.sl 2 (Seq.map T.encSe T.noSeat (Prod.fst (Prod.snd x))) Tip.none,
        AV.int IntKind.i64 (Prod.snd (Prod.snd x))]]
        fun (r : AV) (H' : List AObj) =>
        ∃ (x_5 : Unit),
        r = AV.bool true ∧
        H' =
        [AObj.cells
        [AV.int IntKind.i64 (Prod.fst x), AV.sl 2 (Seq.map T.encSe T.noSeat (Prod.fst (Prod.snd x))) Tip.none,
        AV.int IntKind.i64 (Prod.snd (Prod.snd x))]] ∧
        Post (AV.bool true)
        [AObj.cells
        [AV.int IntKind.i64 (Prod.fst x), AV.sl 2 (Seq.map T.encSe T.noSeat (Prod.fst (Prod.snd x))) Tip.none,
        AV.int IntKind.i64 (Prod.snd (Prod.snd x))]])
        (Post (AV.bool false)
        [AObj.cells
        [AV.int IntKind.i64 (Prod.fst x), AV.sl 2 (Seq.map T.encSe T.noSeat (Prod.fst (Prod.snd x))) Tip.none,
        AV.int IntKind.i64 (Prod.snd (Prod.snd x))]]))
        (Post (AV.bool false)
        [AObj.cells [AV.int IntKind.i64 (Prod.fst x), AV.sl 2 (Seq.map T.encSe T.noSeat (Prod.fst (Prod.snd x))) Tip.none, AV.int IntKind.i64 (Prod.snd (Prod.snd x))]]))
        (Post (AV.bool false)
        [AObj.cells [AV.int IntKind.i64 (Prod.fst x), AV.sl 2 (Seq.map T.encSe T.noSeat (Prod.fst (Prod.snd x))) Tip.none, AV.int IntKind.i64 (Prod.snd (Prod.snd x))]]))
        (Post (AV.bool false) [AObj.cells [AV.int IntKind.i64 (Prod.fst x), AV.sl 2 (Seq.map T.encSe T.noSeat (Prod.fst (Prod.snd x))) Tip.none, AV.int IntKind.i64 (Prod.snd (Prod.snd x))]]))
      (Post (AV.bool false) [AObj.cells [AV.int IntKind.i64 (Prod.fst x), AV.sl 2 (Seq.map T.encSe T.noSeat (Prod.fst (Prod.snd x))) Tip.none, AV.int IntKind.i64 (Prod.snd (Prod.snd x))]]) →
    AWP Try.prog 202 n c13_9 [(5, AV.nilp), (9, AV.bool b), (11, AV.bool c), (13, AV.bool e)] [AObj.cells (T.encXf x)] (q13_1 n Post) := fun x b c e n Post h => Go.Ab.awp_sound g13 n _ _ _ _ (Go.Ab.kc (by kernel_rfl) h)
noncomputable def q13_4 : Nat → (AV → List AObj → Prop) → AQ := fun (n : Nat) (Post : AV → List AObj → Prop) => loopQ Try.prog 202 n c13_13 (q13_3 n Post) (Cfg.live g13)
noncomputable def q13_5 : Nat → (AV → List AObj → Prop) → AQ := fun (n : Nat) (Post : AV → List AObj → Prop) => seqQ (fun (s' : Slots) (H' : List AObj) => awp Try.prog g13 n (codeSnd (codeSnd (codeFst c13_13))) s' H' (q13_4 n Post)) (q13_4 n Post)
noncomputable def q13_6 : Nat → (AV → List AObj → Prop) → AQ := fun (n : Nat) (Post : AV → List AObj → Prop) => blockQ 1 (q13_5 n Post)
noncomputable def c13_16 : Go.Code := codeSnd (codeFst (codeFst (codeSnd (codeFst c13_13))))
theorem v13_13 : ∀ (l : List T.Fd) (f : T.Fl) (x : T.Xf) (i : Int) (n : Nat) (Post : AV → List AObj → Prop),
  condP (decide (i < (↑(List.length l) : Int)))
      (needP ((0 : Int) ≤ i ∧ i < (↑(List.length l) : Int))
        (AWP Try.prog 202 n c13_16
        [(1, AV.sl 3 (Seq.map T.encFd T.noFd l) Tip.none), (5, AV.ptr 0 0), (6, AV.ptr 1 0), (14, AV.int IntKind.i64 i),
        (15, AV.ptr 2 0)]
        [AObj.cells
        (T.encFl f),
        AObj.cells [AV.int IntKind.i64 (Prod.fst x), AV.sl 2 (Seq.map T.encSe T.noSeat (Prod.fst (Prod.snd x))) Tip.none, AV.int IntKind.i64 (Prod.snd (Prod.snd x))],
        AObj.cells
        [AV.bool (Prod.fst (List.getD l (Int.toNat i) T.noFd)), AV.int IntKind.i64 (Prod.fst (Prod.snd (List.getD l (Int.toNat i) T.noFd))),
        AV.str { data := List.toArray (Prod.snd (Prod.snd (List.getD l (Int.toNat i) T.noFd))) }]]
        (q13_6 n Post)))
      (ASpec Try.prog 95 []
        [AObj.cells
        (T.encFl f),
        AObj.cells [AV.int IntKind.i64 (Prod.fst x), AV.sl 2 (Seq.map T.encSe T.noSeat (Prod.fst (Prod.snd x))) Tip.none, AV.int IntKind.i64 (Prod.snd (Prod.snd x))]]
        fun (r : AV) (H' : List AObj) =>
        ∃ (x_1 : Unit),
        r = AV.bool true ∧
        H' =
        [AObj.cells
        (T.encFl f),
        AObj.cells [AV.int IntKind.i64 (Prod.fst x), AV.sl 2 (Seq.map T.encSe T.noSeat (Prod.fst (Prod.snd x))) Tip.none, AV.int IntKind.i64 (Prod.snd (Prod.snd x))]] ∧
        Post (AV.bool true)
        [AObj.cells
        (T.encFl f),
        AObj.cells [AV.int IntKind.i64 (Prod.fst x), AV.sl 2 (Seq.map T.encSe T.noSeat (Prod.fst (Prod.snd x))) Tip.none, AV.int IntKind.i64 (Prod.snd (Prod.snd x))]]) →
    AWP Try.prog 202 n c13_13
      [(1, AV.sl 3 (Seq.map T.encFd T.noFd l) Tip.none), (5, AV.ptr 0 0), (6, AV.ptr 1 0), (14, AV.int IntKind.i64 i)]
      [AObj.cells (T.encFl f), AObj.cells (T.encXf x)] (q13_3 n Post) := fun l f x i n Post h => Go.Ab.AWP.loop' g13 (Cfg.live g13) c13_13 (by kernel_rfl) (by kernel_rfl) (Go.Ab.kc (by kernel_rfl) h)
noncomputable def c13_25 : Go.Code := codeSnd c13_16
noncomputable def q13_7 : Nat → (AV → List AObj → Prop) → AQ := fun (n : Nat) (Post : AV → List AObj → Prop) => seqQ (fun (s' : Slots) (H' : List AObj) => AWP Try.prog (Cfg.N g13) n c13_25 (restrict s' (Cfg.live g13 25)) H' (q13_6 n Post)) (q13_6 n Post)
noncomputable def c13_18 : Go.Code := codeSnd (codeFst (codeSnd (codeFst c13_16)))
noncomputable def c13_22 : Go.Code := codeSnd (codeSnd (codeSnd (codeFst c13_16)))
theorem v13_16 : ∀ (l : List T.Fd) (f : T.Fl) (x : T.Xf) (i : Int) (d : T.Fd) (n : Nat) (Post : AV → List AObj → Prop),
  condP (Prod.fst d)
      (ASpec Try.prog 99 [AV.ptr 0 0, AV.int IntKind.i64 (Prod.fst (Prod.snd d))]
        [AObj.cells
        (T.encFl f),
        AObj.cells [AV.int IntKind.i64 (Prod.fst x), AV.sl 2 (Seq.map T.encSe T.noSeat (Prod.fst (Prod.snd x))) Tip.none, AV.int IntKind.i64 (Prod.snd (Prod.snd x))],
        AObj.cells [AV.bool (Prod.fst d), AV.int IntKind.i64 (Prod.fst (Prod.snd d)), AV.str { data := List.toArray (Prod.snd (Prod.snd d)) }]]
        fun (r : AV) (H' : List AObj) =>
        (∃ (x_1 : List UInt8 × Bool),
        r = AV.tup [AV.str { data := List.toArray (Prod.fst x_1) }, AV.bool (Prod.snd x_1)] ∧
        H' =
        [AObj.cells
        (T.encFl f),
        AObj.cells [AV.int IntKind.i64 (Prod.fst x), AV.sl 2 (Seq.map T.encSe T.noSeat (Prod.fst (Prod.snd x))) Tip.none, AV.int IntKind.i64 (Prod.snd (Prod.snd x))],
        AObj.cells [AV.bool (Prod.fst d), AV.int IntKind.i64 (Prod.fst (Prod.snd d)), AV.str { data := List.toArray (Prod.snd (Prod.snd d)) }]] ∧
        AWP Try.prog 202 n c13_18
        [(1, AV.sl 3 (Seq.map T.encFd T.noFd l) Tip.none), (5, AV.ptr 0 0), (6, AV.ptr 1 0),
        (14, AV.int IntKind.i64 i), (15, AV.ptr 2 0), (16, AV.str { data := List.toArray (Prod.fst x_1) }), (17, AV.bool (Prod.snd x_1))]
        [AObj.cells
        (T.encFl f),
        AObj.cells [AV.int IntKind.i64 (Prod.fst x), AV.sl 2 (Seq.map T.encSe T.noSeat (Prod.fst (Prod.snd x))) Tip.none, AV.int IntKind.i64 (Prod.snd (Prod.snd x))],
        AObj.cells [AV.bool (Prod.fst d), AV.int IntKind.i64 (Prod.fst (Prod.snd d)), AV.str { data := List.toArray (Prod.snd (Prod.snd d)) }]]
        (q13_7 n Post)) ∨
        ∃ (x_1 : (List UInt8 × Bool) × T.Fl),
        r = AV.tup [AV.str { data := List.toArray (Prod.fst (Prod.fst x_1)) }, AV.bool (Prod.snd (Prod.fst x_1))] ∧
        H' =
        [AObj.cells
        (T.encFl (Prod.snd x_1)),
        AObj.cells [AV.int IntKind.i64 (Prod.fst x), AV.sl 2 (Seq.map T.encSe T.noSeat (Prod.fst (Prod.snd x))) Tip.none, AV.int IntKind.i64 (Prod.snd (Prod.snd x))],
        AObj.cells [AV.bool (Prod.fst d), AV.int IntKind.i64 (Prod.fst (Prod.snd d)), AV.str { data := List.toArray (Prod.snd (Prod.snd d)) }]] ∧
        AWP Try.prog 202 n c13_18
        [(1, AV.sl 3 (Seq.map T.encFd T.noFd l) Tip.none), (5, AV.ptr 0 0), (6, AV.ptr 1 0),
        (14, AV.int IntKind.i64 i), (15, AV.ptr 2 0), (16, AV.str { data := List.toArray (Prod.fst (Prod.fst x_1)) }),
        (17, AV.bool (Prod.snd (Prod.fst x_1)))]
        [AObj.cells
        (T.encFl (Prod.snd x_1)),
        AObj.cells [AV.int IntKind.i64 (Prod.fst x), AV.sl 2 (Seq.map T.encSe T.noSeat (Prod.fst (Prod.snd x))) Tip.none, AV.int IntKind.i64 (Prod.snd (Prod.snd x))],
        AObj.cells [AV.bool (Prod.fst d), AV.int IntKind.i64 (Prod.fst (Prod.snd d)), AV.str { data := List.toArray (Prod.snd (Prod.snd d)) }]]
        (q13_7 n Post))
      (ASpec Try.prog 98 [AV.ptr 0 0, AV.str { data := List.toArray (Prod.snd (Prod.snd d)) }]
        [AObj.cells
        (T.encFl f),
        AObj.cells [AV.int IntKind.i64 (Prod.fst x), AV.sl 2 (Seq.map T.encSe T.noSeat (Prod.fst (Prod.snd x))) Tip.none, AV.int IntKind.i64 (Prod.snd (Prod.snd x))],
        AObj.cells [AV.bool (Prod.fst d), AV.int IntKind.i64 (Prod.fst (Prod.snd d)), AV.str { data := List.toArray (Prod.snd (Prod.snd d)) }]]
        fun (r : AV) (H' : List AObj) =>
        (∃ (x_1 : Int × Bool),
        r = AV.tup [AV.int IntKind.i64 (Prod.fst x_1), AV.bool (Prod.snd x_1)] ∧
        H' =
        [AObj.cells
        (T.encFl f),
        AObj.cells [AV.int IntKind.i64 (Prod.fst x), AV.sl 2 (Seq.map T.encSe T.noSeat (Prod.fst (Prod.snd x))) Tip.none, AV.int IntKind.i64 (Prod.snd (Prod.snd x))],
        AObj.cells [AV.bool (Prod.fst d), AV.int IntKind.i64 (Prod.fst (Prod.snd d)), AV.str { data := List.toArray (Prod.snd (Prod.snd d)) }]] ∧
        AWP Try.prog 202 n c13_22
        [(1, AV.sl 3 (Seq.map T.encFd T.noFd l) Tip.none), (5, AV.ptr 0 0), (6, AV.ptr 1 0),
        (14, AV.int IntKind.i64 i), (15, AV.ptr 2 0), (20, AV.int IntKind.i64 (Prod.fst x_1)), (21, AV.bool (Prod.snd x_1))]
        [AObj.cells
        (T.encFl f),
        AObj.cells [AV.int IntKind.i64 (Prod.fst x), AV.sl 2 (Seq.map T.encSe T.noSeat (Prod.fst (Prod.snd x))) Tip.none, AV.int IntKind.i64 (Prod.snd (Prod.snd x))],
        AObj.cells [AV.bool (Prod.fst d), AV.int IntKind.i64 (Prod.fst (Prod.snd d)), AV.str { data := List.toArray (Prod.snd (Prod.snd d)) }]]
        (q13_7 n Post)) ∨
        ∃ (x_1 : (Int × Bool) × T.Fl),
        r = AV.tup [AV.int IntKind.i64 (Prod.fst (Prod.fst x_1)), AV.bool (Prod.snd (Prod.fst x_1))] ∧
        H' =
        [AObj.cells
        (T.encFl (Prod.snd x_1)),
        AObj.cells [AV.int IntKind.i64 (Prod.fst x), AV.sl 2 (Seq.map T.encSe T.noSeat (Prod.fst (Prod.snd x))) Tip.none, AV.int IntKind.i64 (Prod.snd (Prod.snd x))],
        AObj.cells [AV.bool (Prod.fst d), AV.int IntKind.i64 (Prod.fst (Prod.snd d)), AV.str { data := List.toArray (Prod.snd (Prod.snd d)) }]] ∧
        AWP Try.prog 202 n c13_22
        [(1, AV.sl 3 (Seq.map T.encFd T.noFd l) Tip.none), (5, AV.ptr 0 0), (6, AV.ptr 1 0),
        (14, AV.int IntKind.i64 i), (15, AV.ptr 2 0), (20, AV.int IntKind.i64 (Prod.fst (Prod.fst x_1))),
        (21, AV.bool (Prod.snd (Prod.fst x_1)))]
        [AObj.cells
        (T.encFl (Prod.snd x_1)),
        AObj.cells [AV.int IntKind.i64 (Prod.fst x), AV.sl 2 (Seq.map T.encSe T.noSeat (Prod.fst (Prod.snd x))) Tip.none, AV.int IntKind.i64 (Prod.snd (Prod.snd x))],
        AObj.cells [AV.bool (Prod.fst d), AV.int IntKind.i64 (Prod.fst (Prod.snd d)), AV.str { data := List.toArray (Prod.snd (Prod.snd d)) }]]
        (q13_7 n Post)) →
    AWP Try.prog 202 n c13_16
      [(1, AV.sl 3 (Seq.map T.encFd T.noFd l) Tip.none), (5, AV.ptr 0 0), (6, AV.ptr 1 0), (14, AV.int IntKind.i64 i),
        (15, AV.ptr 2 0)]
      [AObj.cells (T.encFl f), AObj.cells (T.encXf x), AObj.cells (T.encFd d)] (q13_6 n Post) := fun l f x i d n Post h => Go.Ab.awp_sound g13 n _ _ _ _ (Go.Ab.kc (by kernel_rfl) h)
noncomputable def c13_19 : Go.Code := codeSnd c13_18
theorem v13_18 : ∀ (l : List T.Fd) (f : T.Fl) (x : T.Xf) (i : Int) (d : T.Fd) (s : List UInt8) (b : Bool) (n : Nat) (Post : AV → List AObj → Prop),
  (ASpec Try.prog 105 [AV.ptr 1 0, AV.int IntKind.i64 (Prod.fst (Prod.snd d))]
      [AObj.cells
        (T.encFl f),
        AObj.cells [AV.int IntKind.i64 (Prod.fst x), AV.sl 2 (Seq.map T.encSe T.noSeat (Prod.fst (Prod.snd x))) Tip.none, AV.int IntKind.i64 (Prod.snd (Prod.snd x))],
        AObj.cells [AV.bool (Prod.fst d), AV.int IntKind.i64 (Prod.fst (Prod.snd d)), AV.str { data := List.toArray (Prod.snd (Prod.snd d)) }]]
      fun (r : AV) (H' : List AObj) =>
      ∃ (x : (List UInt8 × Bool) × T.Xf),
        r = AV.tup [AV.str { data := List.toArray (Prod.fst (Prod.fst x)) }, AV.bool (Prod.snd (Prod.fst x))] ∧
        H' =
        [AObj.cells
        (T.encFl f),
        AObj.cells
        [AV.int IntKind.i64 (Prod.fst (Prod.snd x)), AV.sl 2 (Seq.map T.encSe T.noSeat (Prod.fst (Prod.snd (Prod.snd x)))) Tip.none,
        AV.int IntKind.i64 (Prod.snd (Prod.snd (Prod.snd x)))],
        AObj.cells [AV.bool (Prod.fst d), AV.int IntKind.i64 (Prod.fst (Prod.snd d)), AV.str { data := List.toArray (Prod.snd (Prod.snd d)) }]] ∧
        AWP Try.prog 202 n c13_19
        [(1, AV.sl 3 (Seq.map T.encFd T.noFd l) Tip.none), (5, AV.ptr 0 0), (6, AV.ptr 1 0), (14, AV.int IntKind.i64 i),
        (15, AV.ptr 2 0), (16, AV.str { data := List.toArray s }), (17, AV.bool b),
        (18, AV.str { data := List.toArray (Prod.fst (Prod.fst x)) }), (19, AV.bool (Prod.snd (Prod.fst x)))]
        [AObj.cells
        (T.encFl f),
        AObj.cells
        [AV.int IntKind.i64 (Prod.fst (Prod.snd x)), AV.sl 2 (Seq.map T.encSe T.noSeat (Prod.fst (Prod.snd (Prod.snd x)))) Tip.none,
        AV.int IntKind.i64 (Prod.snd (Prod.snd (Prod.snd x)))],
        AObj.cells [AV.bool (Prod.fst d), AV.int IntKind.i64 (Prod.fst (Prod.snd d)), AV.str { data := List.toArray (Prod.snd (Prod.snd d)) }]]
        (q13_7 n Post)) →
    AWP Try.prog 202 n c13_18
      [(1, AV.sl 3 (Seq.map T.encFd T.noFd l) Tip.none), (5, AV.ptr 0 0), (6, AV.ptr 1 0), (14, AV.int IntKind.i64 i),
        (15, AV.ptr 2 0), (16, AV.str { data := List.toArray s }), (17, AV.bool b)]
      [AObj.cells (T.encFl f), AObj.cells (T.encXf x), AObj.cells (T.encFd d)] (q13_7 n Post) := fun l f x i d s b n Post h => Go.Ab.awp_sound g13 n _ _ _ _ (Go.Ab.kc (by kernel_rfl) h)
noncomputable def c13_20 : Go.Code := codeSnd c13_19
theorem v13_19 : ∀ (l : List T.Fd) (f : T.Fl) (x : T.Xf) (i : Int) (d : T.Fd) (s : List UInt8) (b : Bool) (t : List UInt8) (c : Bool) (n : Nat) (Post : AV → List AObj → Prop),
  condP (!ByteArray.toList { data := List.toArray s } == ByteArray.toList { data := List.toArray t })
      (AWP Try.prog 202 n c13_20
        [(1, AV.sl 3 (Seq.map T.encFd T.noFd l) Tip.none), (5, AV.ptr 0 0), (6, AV.ptr 1 0), (14, AV.int IntKind.i64 i),
        (15, AV.ptr 2 0), (123, AV.bool true)]
        [AObj.cells
        (T.encFl f),
        AObj.cells [AV.int IntKind.i64 (Prod.fst x), AV.sl 2 (Seq.map T.encSe T.noSeat (Prod.fst (Prod.snd x))) Tip.none, AV.int IntKind.i64 (Prod.snd (Prod.snd x))],
        AObj.cells [AV.bool (Prod.fst d), AV.int IntKind.i64 (Prod.fst (Prod.snd d)), AV.str { data := List.toArray (Prod.snd (Prod.snd d)) }]]
        (q13_7 n Post))
      (AWP Try.prog 202 n c13_20
        [(1, AV.sl 3 (Seq.map T.encFd T.noFd l) Tip.none), (5, AV.ptr 0 0), (6, AV.ptr 1 0), (14, AV.int IntKind.i64 i),
        (15, AV.ptr 2 0), (123, AV.bool !b == c)]
        [AObj.cells
        (T.encFl f),
        AObj.cells [AV.int IntKind.i64 (Prod.fst x), AV.sl 2 (Seq.map T.encSe T.noSeat (Prod.fst (Prod.snd x))) Tip.none, AV.int IntKind.i64 (Prod.snd (Prod.snd x))],
        AObj.cells [AV.bool (Prod.fst d), AV.int IntKind.i64 (Prod.fst (Prod.snd d)), AV.str { data := List.toArray (Prod.snd (Prod.snd d)) }]]
        (q13_7 n Post)) →
    AWP Try.prog 202 n c13_19
      [(1, AV.sl 3 (Seq.map T.encFd T.noFd l) Tip.none), (5, AV.ptr 0 0), (6, AV.ptr 1 0), (14, AV.int IntKind.i64 i),
        (15, AV.ptr 2 0), (16, AV.str { data := List.toArray s }), (17, AV.bool b), (18, AV.str { data := List.toArray t }), (19, AV.bool c)]
      [AObj.cells (T.encFl f), AObj.cells (T.encXf x), AObj.cells (T.encFd d)] (q13_7 n Post) := fun l f x i d s b t c n Post h => Go.Ab.awp_sound g13 n _ _ _ _ (Go.Ab.kc (by kernel_rfl) h)
theorem v13_20 : ∀ (l : List T.Fd) (f : T.Fl) (x : T.Xf) (i : Int) (d : T.Fd) (b : Bool) (n : Nat) (Post : AV → List AObj → Prop),
  condP b
      (Post (AV.bool false)
        [AObj.cells
        (T.encFl f),
        AObj.cells [AV.int IntKind.i64 (Prod.fst x), AV.sl 2 (Seq.map T.encSe T.noSeat (Prod.fst (Prod.snd x))) Tip.none, AV.int IntKind.i64 (Prod.snd (Prod.snd x))],
        AObj.cells [AV.bool (Prod.fst d), AV.int IntKind.i64 (Prod.fst (Prod.snd d)), AV.str { data := List.toArray (Prod.snd (Prod.snd d)) }]])
      (AWP Try.prog 202 n c13_25
        [(1, AV.sl 3 (Seq.map T.encFd T.noFd l) Tip.none), (5, AV.ptr 0 0), (6, AV.ptr 1 0), (14, AV.int IntKind.i64 i),
        (15, AV.ptr 2 0)]
        [AObj.cells
        (T.encFl f),
        AObj.cells [AV.int IntKind.i64 (Prod.fst x), AV.sl 2 (Seq.map T.encSe T.noSeat (Prod.fst (Prod.snd x))) Tip.none, AV.int IntKind.i64 (Prod.snd (Prod.snd x))],
        AObj.cells [AV.bool (Prod.fst d), AV.int IntKind.i64 (Prod.fst (Prod.snd d)), AV.str { data := List.toArray (Prod.snd (Prod.snd d)) }]]
        (q13_6 n Post)) →
    AWP Try.prog 202 n c13_20
      [(1, AV.sl 3 (Seq.map T.encFd T.noFd l) Tip.none), (5, AV.ptr 0 0), (6, AV.ptr 1 0), (14, AV.int IntKind.i64 i),
        (15, AV.ptr 2 0), (123, AV.bool b)]
      [AObj.cells (T.encFl f), AObj.cells (T.encXf x), AObj.cells (T.encFd d)] (q13_7 n Post) := fun l f x i d b n Post h => Go.Ab.awp_sound g13 n _ _ _ _ (Go.Ab.kc (by kernel_rfl) h)
noncomputable def c13_23 : Go.Code := codeSnd c13_22
theorem v13_22 : ∀ (l : List T.Fd) (f : T.Fl) (x : T.Xf) (i : Int) (d : T.Fd) (n : Int) (b : Bool) (n_1 : Nat) (Post : AV → List AObj → Prop),
  (ASpec Try.prog 106 [AV.ptr 1 0, AV.str { data := List.toArray (Prod.snd (Prod.snd d)) }]
      [AObj.cells
        (T.encFl f),
        AObj.cells [AV.int IntKind.i64 (Prod.fst x), AV.sl 2 (Seq.map T.encSe T.noSeat (Prod.fst (Prod.snd x))) Tip.none, AV.int IntKind.i64 (Prod.snd (Prod.snd x))],
        AObj.cells [AV.bool (Prod.fst d), AV.int IntKind.i64 (Prod.fst (Prod.snd d)), AV.str { data := List.toArray (Prod.snd (Prod.snd d)) }]]
      fun (r : AV) (H' : List AObj) =>
      ∃ (x : (Int × Bool) × T.Xf),
        r = AV.tup [AV.int IntKind.i64 (Prod.fst (Prod.fst x)), AV.bool (Prod.snd (Prod.fst x))] ∧
        H' =
        [AObj.cells
        (T.encFl f),
        AObj.cells
        [AV.int IntKind.i64 (Prod.fst (Prod.snd x)), AV.sl 2 (Seq.map T.encSe T.noSeat (Prod.fst (Prod.snd (Prod.snd x)))) Tip.none,
        AV.int IntKind.i64 (Prod.snd (Prod.snd (Prod.snd x)))],
        AObj.cells [AV.bool (Prod.fst d), AV.int IntKind.i64 (Prod.fst (Prod.snd d)), AV.str { data := List.toArray (Prod.snd (Prod.snd d)) }]] ∧
        AWP Try.prog 202 n_1 c13_23
        [(1, AV.sl 3 (Seq.map T.encFd T.noFd l) Tip.none), (5, AV.ptr 0 0), (6, AV.ptr 1 0), (14, AV.int IntKind.i64 i),
        (15, AV.ptr 2 0), (20, AV.int IntKind.i64 n), (21, AV.bool b), (22, AV.int IntKind.i64 (Prod.fst (Prod.fst x))),
        (23, AV.bool (Prod.snd (Prod.fst x)))]
        [AObj.cells
        (T.encFl f),
        AObj.cells
        [AV.int IntKind.i64 (Prod.fst (Prod.snd x)), AV.sl 2 (Seq.map T.encSe T.noSeat (Prod.fst (Prod.snd (Prod.snd x)))) Tip.none,
        AV.int IntKind.i64 (Prod.snd (Prod.snd (Prod.snd x)))],
        AObj.cells [AV.bool (Prod.fst d), AV.int IntKind.i64 (Prod.fst (Prod.snd d)), AV.str { data := List.toArray (Prod.snd (Prod.snd d)) }]]
        (q13_7 n_1 Post)) →
    AWP Try.prog 202 n_1 c13_22
      [(1, AV.sl 3 (Seq.map T.encFd T.noFd l) Tip.none), (5, AV.ptr 0 0), (6, AV.ptr 1 0), (14, AV.int IntKind.i64 i),
        (15, AV.ptr 2 0), (20, AV.int IntKind.i64 n), (21, AV.bool b)]
      [AObj.cells (T.encFl f), AObj.cells (T.encXf x), AObj.cells (T.encFd d)] (q13_7 n_1 Post) := fun l f x i d n b n Post h => Go.Ab.awp_sound g13 n _ _ _ _ (Go.Ab.kc (by kernel_rfl) h)
noncomputable def c13_24 : Go.Code := codeSnd c13_23
theorem v13_23 : ∀ (l : List T.Fd) (f : T.Fl) (x : T.Xf) (i : Int) (d : T.Fd) (n : Int) (b : Bool) (m : Int) (c : Bool) (n_1 : Nat) (Post : AV → List AObj → Prop),
  condP (n != m)
      (AWP Try.prog 202 n_1 c13_24
        [(1, AV.sl 3 (Seq.map T.encFd T.noFd l) Tip.none), (5, AV.ptr 0 0), (6, AV.ptr 1 0), (14, AV.int IntKind.i64 i),
        (15, AV.ptr 2 0), (144, AV.bool true)]
        [AObj.cells
        (T.encFl f),
        AObj.cells [AV.int IntKind.i64 (Prod.fst x), AV.sl 2 (Seq.map T.encSe T.noSeat (Prod.fst (Prod.snd x))) Tip.none, AV.int IntKind.i64 (Prod.snd (Prod.snd x))],
        AObj.cells [AV.bool (Prod.fst d), AV.int IntKind.i64 (Prod.fst (Prod.snd d)), AV.str { data := List.toArray (Prod.snd (Prod.snd d)) }]]
        (q13_7 n_1 Post))
      (AWP Try.prog 202 n_1 c13_24
        [(1, AV.sl 3 (Seq.map T.encFd T.noFd l) Tip.none), (5, AV.ptr 0 0), (6, AV.ptr 1 0), (14, AV.int IntKind.i64 i),
        (15, AV.ptr 2 0), (144, AV.bool !b == c)]
        [AObj.cells
        (T.encFl f),
        AObj.cells [AV.int IntKind.i64 (Prod.fst x), AV.sl 2 (Seq.map T.encSe T.noSeat (Prod.fst (Prod.snd x))) Tip.none, AV.int IntKind.i64 (Prod.snd (Prod.snd x))],
        AObj.cells [AV.bool (Prod.fst d), AV.int IntKind.i64 (Prod.fst (Prod.snd d)), AV.str { data := List.toArray (Prod.snd (Prod.snd d)) }]]
        (q13_7 n_1 Post)) →
    AWP Try.prog 202 n_1 c13_23
      [(1, AV.sl 3 (Seq.map T.encFd T.noFd l) Tip.none), (5, AV.ptr 0 0), (6, AV.ptr 1 0), (14, AV.int IntKind.i64 i),
        (15, AV.ptr 2 0), (20, AV.int IntKind.i64 n), (21, AV.bool b), (22, AV.int IntKind.i64 m), (23, AV.bool c)]
      [AObj.cells (T.encFl f), AObj.cells (T.encXf x), AObj.cells (T.encFd d)] (q13_7 n_1 Post) := fun l f x i d n b m c n Post h => Go.Ab.awp_sound g13 n _ _ _ _ (Go.Ab.kc (by kernel_rfl) h)
theorem v13_24 : ∀ (l : List T.Fd) (f : T.Fl) (x : T.Xf) (i : Int) (d : T.Fd) (b : Bool) (n : Nat) (Post : AV → List AObj → Prop),
  condP b
      (Post (AV.bool false)
        [AObj.cells
        (T.encFl f),
        AObj.cells [AV.int IntKind.i64 (Prod.fst x), AV.sl 2 (Seq.map T.encSe T.noSeat (Prod.fst (Prod.snd x))) Tip.none, AV.int IntKind.i64 (Prod.snd (Prod.snd x))],
        AObj.cells [AV.bool (Prod.fst d), AV.int IntKind.i64 (Prod.fst (Prod.snd d)), AV.str { data := List.toArray (Prod.snd (Prod.snd d)) }]])
      (AWP Try.prog 202 n c13_25
        [(1, AV.sl 3 (Seq.map T.encFd T.noFd l) Tip.none), (5, AV.ptr 0 0), (6, AV.ptr 1 0), (14, AV.int IntKind.i64 i),
        (15, AV.ptr 2 0)]
        [AObj.cells
        (T.encFl f),
        AObj.cells [AV.int IntKind.i64 (Prod.fst x), AV.sl 2 (Seq.map T.encSe T.noSeat (Prod.fst (Prod.snd x))) Tip.none, AV.int IntKind.i64 (Prod.snd (Prod.snd x))],
        AObj.cells [AV.bool (Prod.fst d), AV.int IntKind.i64 (Prod.fst (Prod.snd d)), AV.str { data := List.toArray (Prod.snd (Prod.snd d)) }]]
        (q13_6 n Post)) →
    AWP Try.prog 202 n c13_24
      [(1, AV.sl 3 (Seq.map T.encFd T.noFd l) Tip.none), (5, AV.ptr 0 0), (6, AV.ptr 1 0), (14, AV.int IntKind.i64 i),
        (15, AV.ptr 2 0), (144, AV.bool b)]
      [AObj.cells (T.encFl f), AObj.cells (T.encXf x), AObj.cells (T.encFd d)] (q13_7 n Post) := fun l f x i d b n Post h => Go.Ab.awp_sound g13 n _ _ _ _ (Go.Ab.kc (by kernel_rfl) h)
noncomputable def c13_26 : Go.Code := codeSnd c13_25
theorem v13_25 : ∀ (l : List T.Fd) (f : T.Fl) (x : T.Xf) (i : Int) (d : T.Fd) (n : Nat) (Post : AV → List AObj → Prop),
  (ASpec Try.prog 102 [AV.ptr 0 0, AV.int IntKind.i64 (Prod.fst (Prod.snd d))]
      [AObj.cells
        (T.encFl f),
        AObj.cells [AV.int IntKind.i64 (Prod.fst x), AV.sl 2 (Seq.map T.encSe T.noSeat (Prod.fst (Prod.snd x))) Tip.none, AV.int IntKind.i64 (Prod.snd (Prod.snd x))],
        AObj.cells [AV.bool (Prod.fst d), AV.int IntKind.i64 (Prod.fst (Prod.snd d)), AV.str { data := List.toArray (Prod.snd (Prod.snd d)) }]]
      fun (r : AV) (H' : List AObj) =>
      ∃ (x_1 : List UInt8 × Bool),
        r = AV.tup [AV.str { data := List.toArray (Prod.fst x_1) }, AV.bool (Prod.snd x_1)] ∧
        H' =
        [AObj.cells
        (T.encFl f),
        AObj.cells [AV.int IntKind.i64 (Prod.fst x), AV.sl 2 (Seq.map T.encSe T.noSeat (Prod.fst (Prod.snd x))) Tip.none, AV.int IntKind.i64 (Prod.snd (Prod.snd x))],
        AObj.cells [AV.bool (Prod.fst d), AV.int IntKind.i64 (Prod.fst (Prod.snd d)), AV.str { data := List.toArray (Prod.snd (Prod.snd d)) }]] ∧
        AWP Try.prog 202 n c13_26
        [(1, AV.sl 3 (Seq.map T.encFd T.noFd l) Tip.none), (5, AV.ptr 0 0), (6, AV.ptr 1 0), (14, AV.int IntKind.i64 i),
        (15, AV.ptr 2 0), (24, AV.str { data := List.toArray (Prod.fst x_1) }), (25, AV.bool (Prod.snd x_1))]
        [AObj.cells
        (T.encFl f),
        AObj.cells [AV.int IntKind.i64 (Prod.fst x), AV.sl 2 (Seq.map T.encSe T.noSeat (Prod.fst (Prod.snd x))) Tip.none, AV.int IntKind.i64 (Prod.snd (Prod.snd x))],
        AObj.cells [AV.bool (Prod.fst d), AV.int IntKind.i64 (Prod.fst (Prod.snd d)), AV.str { data := List.toArray (Prod.snd (Prod.snd d)) }]]
        (q13_6 n Post)) →
    AWP Try.prog 202 n c13_25
      [(1, AV.sl 3 (Seq.map T.encFd T.noFd l) Tip.none), (5, AV.ptr 0 0), (6, AV.ptr 1 0), (14, AV.int IntKind.i64 i),
        (15, AV.ptr 2 0)]
      [AObj.cells (T.encFl f), AObj.cells (T.encXf x), AObj.cells (T.encFd d)] (q13_6 n Post) := fun l f x i d n Post h => Go.Ab.awp_sound g13 n _ _ _ _ (Go.Ab.kc (by kernel_rfl) h)
noncomputable def c13_27 : Go.Code := codeSnd c13_26
theorem v13_26 : ∀ (l : List T.Fd) (f : T.Fl) (x : T.Xf) (i : Int) (d : T.Fd) (s : List UInt8) (b : Bool) (n : Nat) (Post : AV → List AObj → Prop),
  (ASpec Try.prog 107
      [AV.agg [AV.int IntKind.i64 (Prod.fst x), AV.sl 2 (Seq.map T.encSe T.noSeat (Prod.fst (Prod.snd x))) Tip.none, AV.int IntKind.i64 (Prod.snd (Prod.snd x))],
        AV.int IntKind.i64 (Prod.fst (Prod.snd d))]
      [AObj.cells
        (T.encFl f),
        AObj.cells [AV.int IntKind.i64 (Prod.fst x), AV.sl 2 (Seq.map T.encSe T.noSeat (Prod.fst (Prod.snd x))) Tip.none, AV.int IntKind.i64 (Prod.snd (Prod.snd x))],
        AObj.cells [AV.bool (Prod.fst d), AV.int IntKind.i64 (Prod.fst (Prod.snd d)), AV.str { data := List.toArray (Prod.snd (Prod.snd d)) }]]
      fun (r : AV) (H' : List AObj) =>
      ∃ (x_1 : List UInt8 × Bool),
        r = AV.tup [AV.str { data := List.toArray (Prod.fst x_1) }, AV.bool (Prod.snd x_1)] ∧
        H' =
        [AObj.cells
        (T.encFl f),
        AObj.cells [AV.int IntKind.i64 (Prod.fst x), AV.sl 2 (Seq.map T.encSe T.noSeat (Prod.fst (Prod.snd x))) Tip.none, AV.int IntKind.i64 (Prod.snd (Prod.snd x))],
        AObj.cells [AV.bool (Prod.fst d), AV.int IntKind.i64 (Prod.fst (Prod.snd d)), AV.str { data := List.toArray (Prod.snd (Prod.snd d)) }]] ∧
        AWP Try.prog 202 n c13_27
        [(1, AV.sl 3 (Seq.map T.encFd T.noFd l) Tip.none), (5, AV.ptr 0 0), (6, AV.ptr 1 0), (14, AV.int IntKind.i64 i),
        (15, AV.ptr 2 0), (24, AV.str { data := List.toArray s }), (25, AV.bool b), (26, AV.str { data := List.toArray (Prod.fst x_1) }),
        (27, AV.bool (Prod.snd x_1))]
        [AObj.cells
        (T.encFl f),
        AObj.cells [AV.int IntKind.i64 (Prod.fst x), AV.sl 2 (Seq.map T.encSe T.noSeat (Prod.fst (Prod.snd x))) Tip.none, AV.int IntKind.i64 (Prod.snd (Prod.snd x))],
        AObj.cells [AV.bool (Prod.fst d), AV.int IntKind.i64 (Prod.fst (Prod.snd d)), AV.str { data := List.toArray (Prod.snd (Prod.snd d)) }]]
        (q13_6 n Post)) →
    AWP Try.prog 202 n c13_26
      [(1, AV.sl 3 (Seq.map T.encFd T.noFd l) Tip.none), (5, AV.ptr 0 0), (6, AV.ptr 1 0), (14, AV.int IntKind.i64 i),
        (15, AV.ptr 2 0), (24, AV.str { data := List.toArray s }), (25, AV.bool b)]
      [AObj.cells (T.encFl f), AObj.cells (T.encXf x), AObj.cells (T.encFd d)] (q13_6 n Post) := fun l f x i d s b n Post h => Go.Ab.awp_sound g13 n _ _ _ _ (Go.Ab.kc (by kernel_rfl) h)
noncomputable def c13_28 : Go.Code := codeSnd c13_27
theorem v13_27 : ∀ (l : List T.Fd) (f : T.Fl) (x : T.Xf) (i : Int) (d : T.Fd) (s : List UInt8) (b : Bool) (t : List UInt8) (c : Bool) (n : Nat) (Post : AV → List AObj → Prop),
  condP (!ByteArray.toList { data := List.toArray s } == ByteArray.toList { data := List.toArray t })
      (AV.tup [] = AV.tup [] ∧
        AV.tup [] = AV.tup [] ∧
        AV.tup [] = AV.tup [] ∧
        AV.tup [] = AV.tup [] ∧
        AV.tup [] = AV.tup [] ∧
        AV.tup [] = AV.tup [] ∧
        AWP Try.prog 202 n c13_28
        [(1, AV.sl 3 (Seq.map T.encFd T.noFd l) Tip.none), (5, AV.ptr 0 0), (6, AV.ptr 1 0),
        (14, AV.int IntKind.i64 i), (200, AV.bool true)]
        [AObj.cells
        (T.encFl f),
        AObj.cells [AV.int IntKind.i64 (Prod.fst x), AV.sl 2 (Seq.map T.encSe T.noSeat (Prod.fst (Prod.snd x))) Tip.none, AV.int IntKind.i64 (Prod.snd (Prod.snd x))],
        AObj.cells [AV.bool (Prod.fst d), AV.int IntKind.i64 (Prod.fst (Prod.snd d)), AV.str { data := List.toArray (Prod.snd (Prod.snd d)) }]]
        (q13_6 n Post))
      (condP (!b == c)
        (AV.tup [] = AV.tup [] ∧
        AV.tup [] = AV.tup [] ∧
        AV.tup [] = AV.tup [] ∧
        AV.tup [] = AV.tup [] ∧
        AV.tup [] = AV.tup [] ∧
        AV.tup [] = AV.tup [] ∧
        AWP Try.prog 202 n c13_28
        [(1, AV.sl 3 (Seq.map T.encFd T.noFd l) Tip.none), (5, AV.ptr 0 0), (6, AV.ptr 1 0),
        (14, AV.int IntKind.i64 i), (200, AV.bool true)]
        [AObj.cells
        (T.encFl f),
        AObj.cells [AV.int IntKind.i64 (Prod.fst x), AV.sl 2 (Seq.map T.encSe T.noSeat (Prod.fst (Prod.snd x))) Tip.none, AV.int IntKind.i64 (Prod.snd (Prod.snd x))],
        AObj.cells [AV.bool (Prod.fst d), AV.int IntKind.i64 (Prod.fst (Prod.snd d)), AV.str { data := List.toArray (Prod.snd (Prod.snd d)) }]]
        (q13_6 n Post))
        (ASpec Try.prog 97 [AV.ptr 0 0, AV.str { data := List.toArray (Prod.snd (Prod.snd d)) }]
        [AObj.cells
        (T.encFl f),
        AObj.cells [AV.int IntKind.i64 (Prod.fst x), AV.sl 2 (Seq.map T.encSe T.noSeat (Prod.fst (Prod.snd x))) Tip.none, AV.int IntKind.i64 (Prod.snd (Prod.snd x))],
        AObj.cells [AV.bool (Prod.fst d), AV.int IntKind.i64 (Prod.fst (Prod.snd d)), AV.str { data := List.toArray (Prod.snd (Prod.snd d)) }]]
        fun (r : AV) (H' : List AObj) =>
        ∃ (x_1 : Bool),
        r = AV.bool x_1 ∧
        H' =
        [AObj.cells
        (T.encFl f),
        AObj.cells [AV.int IntKind.i64 (Prod.fst x), AV.sl 2 (Seq.map T.encSe T.noSeat (Prod.fst (Prod.snd x))) Tip.none, AV.int IntKind.i64 (Prod.snd (Prod.snd x))],
        AObj.cells [AV.bool (Prod.fst d), AV.int IntKind.i64 (Prod.fst (Prod.snd d)), AV.str { data := List.toArray (Prod.snd (Prod.snd d)) }]] ∧
        (AV.str { data := List.toArray (Prod.snd (Prod.snd d)) } = AV.str { data := List.toArray (Prod.snd (Prod.snd d)) } ∧
        [AObj.cells
        (T.encFl f),
        AObj.cells [AV.int IntKind.i64 (Prod.fst x), AV.sl 2 (Seq.map T.encSe T.noSeat (Prod.fst (Prod.snd x))) Tip.none, AV.int IntKind.i64 (Prod.snd (Prod.snd x))],
        AObj.cells [AV.bool (Prod.fst d), AV.int IntKind.i64 (Prod.fst (Prod.snd d)), AV.str { data := List.toArray (Prod.snd (Prod.snd d)) }]] =
        [AObj.cells
        (T.encFl f),
        AObj.cells [AV.int IntKind.i64 (Prod.fst x), AV.sl 2 (Seq.map T.encSe T.noSeat (Prod.fst (Prod.snd x))) Tip.none, AV.int IntKind.i64 (Prod.snd (Prod.snd x))],
        AObj.cells [AV.bool (Prod.fst d), AV.int IntKind.i64 (Prod.fst (Prod.snd d)), AV.str { data := List.toArray (Prod.snd (Prod.snd d)) }]]) ∧
        (AV.agg [AV.int IntKind.i64 (Prod.fst x), AV.sl 2 (Seq.map T.encSe T.noSeat (Prod.fst (Prod.snd x))) Tip.none, AV.int IntKind.i64 (Prod.snd (Prod.snd x))] =
        AV.agg [AV.int IntKind.i64 (Prod.fst x), AV.sl 2 (Seq.map T.encSe T.noSeat (Prod.fst (Prod.snd x))) Tip.none, AV.int IntKind.i64 (Prod.snd (Prod.snd x))] ∧
        [AObj.cells
        (T.encFl f),
        AObj.cells [AV.int IntKind.i64 (Prod.fst x), AV.sl 2 (Seq.map T.encSe T.noSeat (Prod.fst (Prod.snd x))) Tip.none, AV.int IntKind.i64 (Prod.snd (Prod.snd x))],
        AObj.cells [AV.bool (Prod.fst d), AV.int IntKind.i64 (Prod.fst (Prod.snd d)), AV.str { data := List.toArray (Prod.snd (Prod.snd d)) }]] =
        [AObj.cells
        (T.encFl f),
        AObj.cells [AV.int IntKind.i64 (Prod.fst x), AV.sl 2 (Seq.map T.encSe T.noSeat (Prod.fst (Prod.snd x))) Tip.none, AV.int IntKind.i64 (Prod.snd (Prod.snd x))],
        AObj.cells [AV.bool (Prod.fst d), AV.int IntKind.i64 (Prod.fst (Prod.snd d)), AV.str { data := List.toArray (Prod.snd (Prod.snd d)) }]]) ∧
        ASpec Try.prog 108
        [AV.agg [AV.int IntKind.i64 (Prod.fst x), AV.sl 2 (Seq.map T.encSe T.noSeat (Prod.fst (Prod.snd x))) Tip.none, AV.int IntKind.i64 (Prod.snd (Prod.snd x))],
        AV.str { data := List.toArray (Prod.snd (Prod.snd d)) }]
        [AObj.cells
        (T.encFl f),
        AObj.cells [AV.int IntKind.i64 (Prod.fst x), AV.sl 2 (Seq.map T.encSe T.noSeat (Prod.fst (Prod.snd x))) Tip.none, AV.int IntKind.i64 (Prod.snd (Prod.snd x))],
        AObj.cells [AV.bool (Prod.fst d), AV.int IntKind.i64 (Prod.fst (Prod.snd d)), AV.str { data := List.toArray (Prod.snd (Prod.snd d)) }]]
        fun (r : AV) (H' : List AObj) =>
        ∃ (x_2 : Bool),
        r = AV.bool x_2 ∧
        H' =
        [AObj.cells
        (T.encFl f),
        AObj.cells [AV.int IntKind.i64 (Prod.fst x), AV.sl 2 (Seq.map T.encSe T.noSeat (Prod.fst (Prod.snd x))) Tip.none, AV.int IntKind.i64 (Prod.snd (Prod.snd x))],
        AObj.cells [AV.bool (Prod.fst d), AV.int IntKind.i64 (Prod.fst (Prod.snd d)), AV.str { data := List.toArray (Prod.snd (Prod.snd d)) }]] ∧
        condP (!x_1 == x_2)
        (AV.tup [] = AV.tup [] ∧
        AV.tup [] = AV.tup [] ∧
        AV.tup [] = AV.tup [] ∧
        AV.tup [] = AV.tup [] ∧
        AWP Try.prog 202 n c13_28
        [(1, AV.sl 3 (Seq.map T.encFd T.noFd l) Tip.none), (5, AV.ptr 0 0), (6, AV.ptr 1 0),
        (14, AV.int IntKind.i64 i), (200, AV.bool true)]
        [AObj.cells
        (T.encFl f),
        AObj.cells
        [AV.int IntKind.i64 (Prod.fst x), AV.sl 2 (Seq.map T.encSe T.noSeat (Prod.fst (Prod.snd x))) Tip.none, AV.int IntKind.i64 (Prod.snd (Prod.snd x))],
        AObj.cells [AV.bool (Prod.fst d), AV.int IntKind.i64 (Prod.fst (Prod.snd d)), AV.str { data := List.toArray (Prod.snd (Prod.snd d)) }]]
        (q13_6 n Post))
        (ASpec Try.prog 100 [AV.ptr 0 0]
        [AObj.cells
        (T.encFl f),
        AObj.cells [AV.int IntKind.i64 (Prod.fst x), AV.sl 2 (Seq.map T.encSe T.noSeat (Prod.fst (Prod.snd x))) Tip.none, AV.int IntKind.i64 (Prod.snd (Prod.snd x))],
        AObj.cells [AV.bool (Prod.fst d), AV.int IntKind.i64 (Prod.fst (Prod.snd d)), AV.str { data := List.toArray (Prod.snd (Prod.snd d)) }]]
        fun (r : AV) (H' : List AObj) =>
        ∃ (x_3 : Int),
        r = AV.int IntKind.i64 x_3 ∧
        H' =
        [AObj.cells
        (T.encFl f),
        AObj.cells
        [AV.int IntKind.i64 (Prod.fst x), AV.sl 2 (Seq.map T.encSe T.noSeat (Prod.fst (Prod.snd x))) Tip.none, AV.int IntKind.i64 (Prod.snd (Prod.snd x))],
        AObj.cells [AV.bool (Prod.fst d), AV.int IntKind.i64 (Prod.fst (Prod.snd d)), AV.str { data := List.toArray (Prod.snd (Prod.snd d)) }]] ∧
        (AV.int IntKind.i64 (↑(List.length (Prod.fst (Prod.snd x))) : Int) = AV.int IntKind.i64 (↑(List.length (Prod.fst (Prod.snd x))) : Int) ∧
        [AObj.cells
        (T.encFl f),
        AObj.cells
        [AV.int IntKind.i64 (Prod.fst x), AV.sl 2 (Seq.map T.encSe T.noSeat (Prod.fst (Prod.snd x))) Tip.none,
        AV.int IntKind.i64 (Prod.snd (Prod.snd x))],
        AObj.cells [AV.bool (Prod.fst d), AV.int IntKind.i64 (Prod.fst (Prod.snd d)), AV.str { data := List.toArray (Prod.snd (Prod.snd d)) }]] =
        [AObj.cells
        (T.encFl f),
        AObj.cells
        [AV.int IntKind.i64 (Prod.fst x), AV.sl 2 (Seq.map T.encSe T.noSeat (Prod.fst (Prod.snd x))) Tip.none,
        AV.int IntKind.i64 (Prod.snd (Prod.snd x))],
        AObj.cells [AV.bool (Prod.fst d), AV.int IntKind.i64 (Prod.fst (Prod.snd d)), AV.str { data := List.toArray (Prod.snd (Prod.snd d)) }]]) ∧
        (AV.sl 2 (Seq.map T.encSe T.noSeat (Prod.fst (Prod.snd x))) Tip.none = AV.sl 2 (Seq.map T.encSe T.noSeat (Prod.fst (Prod.snd x))) Tip.none ∧
        [AObj.cells
        (T.encFl f),
        AObj.cells
        [AV.int IntKind.i64 (Prod.fst x), AV.sl 2 (Seq.map T.encSe T.noSeat (Prod.fst (Prod.snd x))) Tip.none,
        AV.int IntKind.i64 (Prod.snd (Prod.snd x))],
        AObj.cells [AV.bool (Prod.fst d), AV.int IntKind.i64 (Prod.fst (Prod.snd d)), AV.str { data := List.toArray (Prod.snd (Prod.snd d)) }]] =
        [AObj.cells
        (T.encFl f),
        AObj.cells
        [AV.int IntKind.i64 (Prod.fst x), AV.sl 2 (Seq.map T.encSe T.noSeat (Prod.fst (Prod.snd x))) Tip.none,
        AV.int IntKind.i64 (Prod.snd (Prod.snd x))],
        AObj.cells [AV.bool (Prod.fst d), AV.int IntKind.i64 (Prod.fst (Prod.snd d)), AV.str { data := List.toArray (Prod.snd (Prod.snd d)) }]]) ∧
        condP (x_3 != (↑(List.length (Prod.fst (Prod.snd x))) : Int))
        (AV.tup [] = AV.tup [] ∧
        AV.tup [] = AV.tup [] ∧
        AWP Try.prog 202 n c13_28
        [(1, AV.sl 3 (Seq.map T.encFd T.noFd l) Tip.none), (5, AV.ptr 0 0), (6, AV.ptr 1 0),
        (14, AV.int IntKind.i64 i), (200, AV.bool true)]
        [AObj.cells
        (T.encFl f),
        AObj.cells
        [AV.int IntKind.i64 (Prod.fst x), AV.sl 2 (Seq.map T.encSe T.noSeat (Prod.fst (Prod.snd x))) Tip.none,
        AV.int IntKind.i64 (Prod.snd (Prod.snd x))],
        AObj.cells [AV.bool (Prod.fst d), AV.int IntKind.i64 (Prod.fst (Prod.snd d)), AV.str { data := List.toArray (Prod.snd (Prod.snd d)) }]]
        (q13_6 n Post))
        (ASpec Try.prog 104 [AV.ptr 0 0]
        [AObj.cells
        (T.encFl f),
        AObj.cells
        [AV.int IntKind.i64 (Prod.fst x), AV.sl 2 (Seq.map T.encSe T.noSeat (Prod.fst (Prod.snd x))) Tip.none,
        AV.int IntKind.i64 (Prod.snd (Prod.snd x))],
        AObj.cells [AV.bool (Prod.fst d), AV.int IntKind.i64 (Prod.fst (Prod.snd d)), AV.str { data := List.toArray (Prod.snd (Prod.snd d)) }]]
        fun (r : AV) (H' : List AObj) =>
        ∃ (x_4 : Int),
        r = AV.int IntKind.i64 x_4 ∧
        H' =
        [AObj.cells
        (T.encFl f),
        AObj.cells
        [AV.int IntKind.i64 (Prod.fst x), AV.sl 2 (Seq.map T.encSe T.noSeat (Prod.fst (Prod.snd x))) Tip.none,
        AV.int IntKind.i64 (Prod.snd (Prod.snd x))],
        AObj.cells [AV.bool (Prod.fst d), AV.int IntKind.i64 (Prod.fst (Prod.snd d)), AV.str { data := List.toArray (Prod.snd (Prod.snd d)) }]] ∧
        (AV.int IntKind.i64 (Prod.snd (Prod.snd x)) = AV.int IntKind.i64 (Prod.snd (Prod.snd x)) ∧
        [AObj.cells
        (T.encFl f),
        AObj.cells
        [AV.int IntKind.i64 (Prod.fst x), AV.sl 2 (Seq.map T.encSe T.noSeat (Prod.fst (Prod.snd x))) Tip.none,
        AV.int IntKind.i64 (Prod.snd (Prod.snd x))],
        AObj.cells [AV.bool (Prod.fst d), AV.int IntKind.i64 (Prod.fst (Prod.snd d)), AV.str { data := List.toArray (Prod.snd (Prod.snd d)) }]] =
        [AObj.cells
        (T.encFl f),
        AObj.cells
        [AV.int IntKind.i64 (Prod.fst x), AV.sl 2 (Seq.map T.encSe T.noSeat (Prod.fst (Prod.snd x))) Tip.none,
        AV.int IntKind.i64 (Prod.snd (Prod.snd x))],
        AObj.cells [AV.bool (Prod.fst d), AV.int IntKind.i64 (Prod.fst (Prod.snd d)), AV.str { data := List.toArray (Prod.snd (Prod.snd d)) }]]) ∧
        condP (x_4 != Prod.snd (Prod.snd x))
        (AV.tup [] = AV.tup [] ∧
        AWP Try.prog 202 n c13_28
        [(1, AV.sl 3 (Seq.map T.encFd T.noFd l) Tip.none), (5, AV.ptr 0 0),
        (6, AV.ptr 1 0), (14, AV.int IntKind.i64 i), (200, AV.bool true)]
        [AObj.cells
        (T.encFl f),
        AObj.cells
        [AV.int IntKind.i64 (Prod.fst x), AV.sl 2 (Seq.map T.encSe T.noSeat (Prod.fst (Prod.snd x))) Tip.none,
        AV.int IntKind.i64 (Prod.snd (Prod.snd x))],
        AObj.cells [AV.bool (Prod.fst d), AV.int IntKind.i64 (Prod.fst (Prod.snd d)), AV.str { data := List.toArray (Prod.snd (Prod.snd d)) }]]
        (q13_6 n Post))
        (ASpec Try.prog 103 [AV.ptr 0 0]
        [AObj.cells
        (T.encFl f),
        AObj.cells
        [AV.int IntKind.i64 (Prod.fst x), AV.sl 2 (Seq.map T.encSe T.noSeat (Prod.fst (Prod.snd x))) Tip.none,
        AV.int IntKind.i64 (Prod.snd (Prod.snd x))],
        AObj.cells [AV.bool (Prod.fst d), AV.int IntKind.i64 (Prod.fst (Prod.snd d)), AV.str { data := List.toArray (Prod.snd (Prod.snd d)) }]]
        fun (r : AV) (H' : List AObj) =>
        ∃ (x_5 : List Int),
        r = AV.sl 1 (Seq.map encI (0 : Int) x_5) Tip.none ∧
        H' =
        [AObj.cells
        (T.encFl f),
        AObj.cells
        [AV.int IntKind.i64 (Prod.fst x), AV.sl 2 (Seq.map T.encSe T.noSeat (Prod.fst (Prod.snd x))) Tip.none,
        AV.int IntKind.i64 (Prod.snd (Prod.snd x))],
        AObj.cells
        [AV.bool (Prod.fst d), AV.int IntKind.i64 (Prod.fst (Prod.snd d)), AV.str { data := List.toArray (Prod.snd (Prod.snd d)) }]] ∧
        (AV.agg
        [AV.int IntKind.i64 (Prod.fst x), AV.sl 2 (Seq.map T.encSe T.noSeat (Prod.fst (Prod.snd x))) Tip.none,
        AV.int IntKind.i64 (Prod.snd (Prod.snd x))] =
        AV.agg
        [AV.int IntKind.i64 (Prod.fst x), AV.sl 2 (Seq.map T.encSe T.noSeat (Prod.fst (Prod.snd x))) Tip.none,
        AV.int IntKind.i64 (Prod.snd (Prod.snd x))] ∧
        [AObj.cells
        (T.encFl f),
        AObj.cells
        [AV.int IntKind.i64 (Prod.fst x), AV.sl 2 (Seq.map T.encSe T.noSeat (Prod.fst (Prod.snd x))) Tip.none,
        AV.int IntKind.i64 (Prod.snd (Prod.snd x))],
        AObj.cells
        [AV.bool (Prod.fst d), AV.int IntKind.i64 (Prod.fst (Prod.snd d)), AV.str { data := List.toArray (Prod.snd (Prod.snd d)) }]] =
        [AObj.cells
        (T.encFl f),
        AObj.cells
        [AV.int IntKind.i64 (Prod.fst x), AV.sl 2 (Seq.map T.encSe T.noSeat (Prod.fst (Prod.snd x))) Tip.none,
        AV.int IntKind.i64 (Prod.snd (Prod.snd x))],
        AObj.cells
        [AV.bool (Prod.fst d), AV.int IntKind.i64 (Prod.fst (Prod.snd d)),
        AV.str { data := List.toArray (Prod.snd (Prod.snd d)) }]]) ∧
        ASpec Try.prog 110
        [AV.agg
        [AV.int IntKind.i64 (Prod.fst x), AV.sl 2 (Seq.map T.encSe T.noSeat (Prod.fst (Prod.snd x))) Tip.none,
        AV.int IntKind.i64 (Prod.snd (Prod.snd x))]]
        [AObj.cells
        (T.encFl f),
        AObj.cells
        [AV.int IntKind.i64 (Prod.fst x), AV.sl 2 (Seq.map T.encSe T.noSeat (Prod.fst (Prod.snd x))) Tip.none,
        AV.int IntKind.i64 (Prod.snd (Prod.snd x))],
        AObj.cells
        [AV.bool (Prod.fst d), AV.int IntKind.i64 (Prod.fst (Prod.snd d)), AV.str { data := List.toArray (Prod.snd (Prod.snd d)) }]]
        fun (r : AV) (H' : List AObj) =>
        ∃ (x_6 : List Int),
        r = AV.sl 1 (Seq.map encI (0 : Int) x_6) Tip.none ∧
        H' =
        [AObj.cells
        (T.encFl f),
        AObj.cells
        [AV.int IntKind.i64 (Prod.fst x), AV.sl 2 (Seq.map T.encSe T.noSeat (Prod.fst (Prod.snd x))) Tip.none,
        AV.int IntKind.i64 (Prod.snd (Prod.snd x))],
        AObj.cells
        [AV.bool (Prod.fst d), AV.int IntKind.i64 (Prod.fst (Prod.snd d)),
        AV.str { data := List.toArray (Prod.snd (Prod.snd d)) }]] ∧
        ASpec Try.prog 109
        [AV.sl 1 (Seq.map encI (0 : Int) x_5) Tip.none, AV.sl 1 (Seq.map encI (0 : Int) x_6) Tip.none]
        [AObj.cells
        (T.encFl f),
        AObj.cells
        [AV.int IntKind.i64 (Prod.fst x), AV.sl 2 (Seq.map T.encSe T.noSeat (Prod.fst (Prod.snd x))) Tip.none,
        AV.int IntKind.i64 (Prod.snd (Prod.snd x))],
        AObj.cells
        [AV.bool (Prod.fst d), AV.int IntKind.i64 (Prod.fst (Prod.snd d)),
        AV.str { data := List.toArray (Prod.snd (Prod.snd d)) }]]
        fun (r : AV) (H' : List AObj) =>
        ∃ (x_7 : Bool),
        r = AV.bool x_7 ∧
        H' =
        [AObj.cells
        (T.encFl f),
        AObj.cells
        [AV.int IntKind.i64 (Prod.fst x), AV.sl 2 (Seq.map T.encSe T.noSeat (Prod.fst (Prod.snd x))) Tip.none,
        AV.int IntKind.i64 (Prod.snd (Prod.snd x))],
        AObj.cells
        [AV.bool (Prod.fst d), AV.int IntKind.i64 (Prod.fst (Prod.snd d)),
        AV.str { data := List.toArray (Prod.snd (Prod.snd d)) }]] ∧
        AWP Try.prog 202 n c13_28
        [(1, AV.sl 3 (Seq.map T.encFd T.noFd l) Tip.none), (5, AV.ptr 0 0),
        (6, AV.ptr 1 0), (14, AV.int IntKind.i64 i), (200, AV.bool !x_7)]
        [AObj.cells
        (T.encFl f),
        AObj.cells
        [AV.int IntKind.i64 (Prod.fst x), AV.sl 2 (Seq.map T.encSe T.noSeat (Prod.fst (Prod.snd x))) Tip.none,
        AV.int IntKind.i64 (Prod.snd (Prod.snd x))],
        AObj.cells
        [AV.bool (Prod.fst d), AV.int IntKind.i64 (Prod.fst (Prod.snd d)),
        AV.str { data := List.toArray (Prod.snd (Prod.snd d)) }]]
        (q13_6 n Post)))))) →
    AWP Try.prog 202 n c13_27
      [(1, AV.sl 3 (Seq.map T.encFd T.noFd l) Tip.none), (5, AV.ptr 0 0), (6, AV.ptr 1 0), (14, AV.int IntKind.i64 i),
        (15, AV.ptr 2 0), (24, AV.str { data := List.toArray s }), (25, AV.bool b), (26, AV.str { data := List.toArray t }), (27, AV.bool c)]
      [AObj.cells (T.encFl f), AObj.cells (T.encXf x), AObj.cells (T.encFd d)] (q13_6 n Post) := fun l f x i d s b t c n Post h => Go.Ab.awp_sound g13 n _ _ _ _ (Go.Ab.kc (by kernel_rfl) h)
theorem v13_28 : ∀ (l : List T.Fd) (f : T.Fl) (x : T.Xf) (i : Int) (b : Bool) (n : Nat) (Post : AV → List AObj → Prop),
  condP b
      (Post (AV.bool false)
        [AObj.cells
        (T.encFl f),
        AObj.cells [AV.int IntKind.i64 (Prod.fst x), AV.sl 2 (Seq.map T.encSe T.noSeat (Prod.fst (Prod.snd x))) Tip.none, AV.int IntKind.i64 (Prod.snd (Prod.snd x))]])
      (AWP Try.prog 202 n c13_13
        [(1, AV.sl 3 (Seq.map T.encFd T.noFd l) Tip.none), (5, AV.ptr 0 0), (6, AV.ptr 1 0),
        (14, AV.int IntKind.i64 (IntKind.wrap IntKind.i64 (i + (1 : Int))))]
        [AObj.cells
        (T.encFl f),
        AObj.cells [AV.int IntKind.i64 (Prod.fst x), AV.sl 2 (Seq.map T.encSe T.noSeat (Prod.fst (Prod.snd x))) Tip.none, AV.int IntKind.i64 (Prod.snd (Prod.snd x))]]
        (q13_3 n Post)) →
    AWP Try.prog 202 n c13_28
      [(1, AV.sl 3 (Seq.map T.encFd T.noFd l) Tip.none), (5, AV.ptr 0 0), (6, AV.ptr 1 0), (14, AV.int IntKind.i64 i),
        (200, AV.bool b)]
      [AObj.cells (T.encFl f), AObj.cells (T.encXf x)] (q13_6 n Post) := fun l f x i b n Post h => Go.Ab.awp_sound g13 n _ _ _ _ (Go.Ab.kc (by kernel_rfl) h)

end
end Fz
end

section
/- The codecs of this seat's plain arguments. -/

open Go Go.Ab Go.Proofs
namespace Go.Ab

noncomputable def cInt : Codec Try.prog 3 Int := Codec.int .i64 Try.underlying3
noncomputable def cStr : Codec Try.prog 9 ByteArray := Codec.str Try.underlying9
end Go.Ab
end

section
/- The codecs of manifests. -/

open Go Go.Ab Go.Proofs
namespace Go.Ab

noncomputable def cName : Codec Try.prog 9 (List UInt8) := cStr.iso (fun s => s.data.toList) (fun l => [.str ⟨l.toArray⟩]) (fun _ => True) (fun _ => rfl) (fun _ _ => trivial)
end Go.Ab
end

section
/- The codec of lists of what is done to a flight. -/

open Go Go.Ab Go.Proofs
namespace Go.Ab
noncomputable def cBoolF : Codec Try.prog 4 Bool := Codec.bool Try.underlying4
noncomputable def cFd : Codec Try.prog 143 T.Fd :=
  (Codec.struct (n := 3) Try.underlying143 (FC.cons (k := 1) (n := 2) cBoolF rfl (by kernel_rfl) (FC.cons (k := 1) (n := 1) cInt rfl (by kernel_rfl) (FC.cons (k := 1) (n := 0) cName rfl (by kernel_rfl) FC.nil))) (by kernel_rfl)).iso (fun x => (x.1, x.2.1, x.2.2.1)) T.encFd (fun _ => True) (fun _ => rfl) (fun _ _ => trivial)
noncomputable def cFds : Codec Try.prog 137 (List T.Fd) := Codec.slice (sz := 3) cFd Try.underlying137 (by kernel_rfl) (by omega) (fun _ => rfl)
end Go.Ab
end

section
/- What is asked of the program alone, once for all statements. -/

namespace Go.Proofs.Facts
open Go Go.Proofs
theorem andT {a b : Bool} (h : a = true) (k : b = true) : (a && b) = true := by rw [h, k]; rfl
theorem laid : laidOutB Try.prog = true := by kernel_rfl
theorem mapsRowed : Go.mapsRowed Try.prog = true := by kernel_rfl
theorem stops : (Try.prog.stops == []) = true := by kernel_rfl
theorem stopKnobs : (Try.prog.stopKnobs == []) = true := by kernel_rfl
theorem heard : Try.prog.stopsHeard = true := by kernel_rfl
theorem may : Try.prog.mayEnter = true := by kernel_rfl
theorem lifted : (false == Try.prog.liftsFinal) = true := by kernel_rfl
theorem plain : (true == Try.prog.plainKeys) = true := by kernel_rfl
theorem made : (Try.prog.make == some .cut) = true := by kernel_rfl
theorem own : ownKnob Try.prog.godebug = none := by kernel_rfl
end Go.Proofs.Facts
end
