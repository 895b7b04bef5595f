/- The abstract meaning of the operations, as predicates in the continuation. -/
import Derived.Test.YtifbfcljgagacaaDoorAbBase
namespace Go.Ab

/-- the form of what a function gives back: the values that it hangs on, the result, the heap -/
structure Ret where
  X : Type
  av : List AV → List AObj → X → AV
  hp : List AV → List AObj → X → List AObj

structure Cfg where
  N : Nat
  live : Nat → List Nat
  cut : Nat → Bool
  mu : Nat → Bool
  ret : FuncId → List Ret

def condP (b : Bool) (A B : Prop) : Prop := match b with | true => A | false => B
def needP (p A : Prop) : Prop := p ∧ (p → A)
def optP {α : Type 1} (o : Option α) (K : α → Prop) : Prop := match o with | some a => K a | none => False
def natP (o : Option Nat) (K : Nat → Prop) : Prop := match o with | some a => K a | none => False
/-- a static fact -/
def chk (b : Bool) (A : Prop) : Prop := match b with | true => A | false => False

def ofCell : Value → AV
  | .int k n => .int k n
  | .bool b => .bool b
  | .string s => .str s
  | .pointer none => .nilp
  | .slice none 0 0 => .sl 0 (.raw []) .nil
  | .nilFunc => .nilf
  | .nilIface => .nili
  | .map none => .nmap
  | _ => .bad

def ofConst : Value → AV
  | .agg cs => .agg (cs.toList.map ofCell)
  | v => ofCell v

def ev (s : Slots) : Operand → AV
  | .tmp t => get s t
  | .const v => ofConst v
  | .global _ => .bad
  | .func f => .fn f []

def cellsOf : AV → Option (List AV)
  | .agg cs => some cs
  | .bad | .tup _ => none
  | v => some [v]

def oneAV : AV → Bool
  | .agg _ | .tup _ | .bad => false
  | _ => true

def isAggD : TypeDesc → Bool
  | .struct _ | .array _ _ => true
  | _ => false

def sizeT (P : Program) (t : TypeId) : Option Nat := (P.info? t).map (·.size)
def bytesT (P : Program) (t : TypeId) : Option Nat := (P.info? t).map (·.bytes)
def aggT (P : Program) (t : TypeId) : Option Bool := (P.underlying t).map isAggD
def elemT (P : Program) (t : TypeId) : Option TypeId := match P.underlying t with | some (.slice e) => some e | _ => none
def zeroT (P : Program) (t : TypeId) : Option (List AV) := ((P.info? t).bind (·.zero)).map fun v => v.cells.toList.map ofCell

/-- a field's place: its offset, if it has a size -/
def fieldT (P : Program) (t : TypeId) (f : Nat) : Option (Nat × TypeId) :=
  match P.underlying t with
  | some (.struct fs) => match fs[f]? with
    | some fd => match sizeT P fd.type with
      | some (_ + 1) => some (fd.offset, fd.type)
      | _ => none
    | none => none
  | _ => none

/-- a value of type t out of cells -/
def partOf (P : Program) (t : TypeId) (cs : List AV) (off : Nat) : Option AV :=
  match aggT P t, sizeT P t with
  | some true, some n => bif Nat.ble (off + n) cs.length then some (.agg ((cs.drop off).take n)) else none
  | some false, some _ => cs[off]?
  | _, _ => none

def splice (cs : List AV) (off : Nat) (xs : List AV) : List AV := cs.take off ++ (xs ++ cs.drop (off + xs.length))

def fillA (place : Nat → Option (Nat × Nat)) (cells : List AV) : List (Nat × AV) → Option (List AV)
  | [] => some cells
  | (i, v) :: rest =>
    match place i, cellsOf v with
    | some (off, size), some vs => bif Nat.beq vs.length size && Nat.ble (off + size) cells.length then fillA place (splice cells off vs) rest else none
    | _, _ => none

def chunks (sz : Nat) : Nat → List AV → List (List AV)
  | 0, _ => []
  | n + 1, cs => cs.take sz :: chunks sz n (cs.drop sz)

def aload (P : Program) (t : TypeId) (v : AV) (H : List AObj) (K : AV → Prop) : Prop :=
  match v with
  | .ptr id off => match H[id]? with
    | some (.cells cs) => optP (partOf P t cs off) K
    | _ => False
  | .iptr cs off => optP (partOf P t cs off) K
  | .mptr sz id i off => match H[id]? with
    | some (.arr sz' s) => chk (Nat.beq sz sz') (needP (i < s.len) (chk (Nat.ble (off + 1) sz) (optP (partOf P t (s.getD i) off) K)))
    | _ => False
  | _ => False

def astore (P : Program) (t : TypeId) (v x : AV) (H : List AObj) (K : List AObj → Prop) : Prop :=
  match cellsOf x, sizeT P t with
  | some xs, some n => chk (Nat.beq xs.length n && xs.all oneAV) <| match v with
    | .ptr id off => match H[id]? with
      | some (.cells cs) => chk (Nat.ble (off + n) cs.length) (K (H.set id (.cells (splice cs off xs))))
      | _ => False
    | .mptr sz id i off => match H[id]? with
      | some (.arr sz' s) => chk (Nat.beq sz sz' && Nat.ble (off + n) sz) (needP (i < s.len) (K (H.set id (.arr sz (.raw (s.toList.set i (splice (s.getD i) off xs)))))))
      | _ => False
    | _ => False
  | _, _ => False

def intOp (op : BinOp) (k : IntKind) (a b : Int) (K : AV → Prop) : Prop :=
  match op with
  | .add => K (.int k (k.wrap (a + b)))
  | .sub => K (.int k (k.wrap (a - b)))
  | .mul => K (.int k (k.wrap (a * b)))
  | .quo => needP (b ≠ 0) (K (.int k (k.wrap (a.tdiv b))))
  | .rem => needP (b ≠ 0) (K (.int k (a.tmod b)))
  | .and => K (.int k (k.wrap (BitVec.ofInt k.bits a &&& BitVec.ofInt k.bits b).toNat))
  | .or => K (.int k (k.wrap (BitVec.ofInt k.bits a ||| BitVec.ofInt k.bits b).toNat))
  | .xor => K (.int k (k.wrap (BitVec.ofInt k.bits a ^^^ BitVec.ofInt k.bits b).toNat))
  | .andNot => K (.int k (k.wrap (BitVec.ofInt k.bits a &&& ~~~BitVec.ofInt k.bits b).toNat))
  | .eql => K (.bool (a == b))
  | .neq => K (.bool (a != b))
  | .lss => K (.bool (decide (a < b)))
  | .leq => K (.bool (decide (a ≤ b)))
  | .gtr => K (.bool (decide (a > b)))
  | .geq => K (.bool (decide (a ≥ b)))
  | .shl | .shr => False

def shiftOp (op : BinOp) (k : IntKind) (a b : Int) (K : AV → Prop) : Prop :=
  match op with
  | .shl => needP (0 ≤ b) (K (.int k (k.wrap (a * 2 ^ (min b.toNat k.bits)))))
  | .shr => needP (0 ≤ b) (K (.int k (a.fdiv (2 ^ (min b.toNat k.bits)))))
  | _ => False

def strOp (op : BinOp) (x y : ByteArray) (K : AV → Prop) : Prop :=
  match op with
  | .add => needP (((x.size + y.size : Nat) : Int) ≤ 9223372036854775807) (K (.str (x ++ y)))
  | .eql => K (.bool (x.toList == y.toList))
  | .neq => K (.bool (!(x.toList == y.toList)))
  | .lss => K (.bool (Op.bytesLess x.toList y.toList))
  | .leq => K (.bool (Op.bytesLess x.toList y.toList || x.toList == y.toList))
  | .gtr => K (.bool (!(Op.bytesLess x.toList y.toList || x.toList == y.toList)))
  | .geq => K (.bool (!Op.bytesLess x.toList y.toList))
  | _ => False

/-- is a slice nil? -/
def nilSl (s : Seq) (tip : Tip) (K : Bool → Prop) : Prop :=
  match tip with
  | .nil => K true
  | .full => ∀ b : Bool, (b = true → s.toList = []) → K b
  | _ => ∀ b : Bool, (b = true → s.toList = []) → K b

def ptrish (P : Program) (t : TypeId) : Bool := match P.underlying t with | some (.pointer _) => true | _ => false
def slish (P : Program) (t : TypeId) : Bool := match P.underlying t with | some (.slice _) => true | _ => false
def boolish (P : Program) (t : TypeId) : Bool := match P.underlying t with | some .bool => true | _ => false

def boolP (o : Option Bool) (K : Bool → Prop) : Prop := match o with | some b => K b | none => False

def kindEq : IntKind → IntKind → Bool
  | .i8, .i8 | .i16, .i16 | .i32, .i32 | .i64, .i64 | .u8, .u8 | .u16, .u16 | .u32, .u32 | .u64, .u64 => true
  | _, _ => false

/-- are two cells alike? -/
def cellEq (d : Option TypeDesc) (a b : AV) : Option Bool :=
  match d, a, b with
  | some (.int _), .int k x, .int k' y => bif kindEq k k' then some (x == y) else none
  | some .string, .str x, .str y => some (x.toList == y.toList)
  | some .bool, .bool x, .bool y => some (x == y)
  | _, _, _ => none

/-- are two structs alike, field by field? -/
def aeqF (P : Program) : List Field → List AV → List AV → Option Bool
  | [], _, _ => some true
  | f :: r, xs, ys => bif f.name == "_" then none else match partOf P f.type xs f.offset, partOf P f.type ys f.offset with
    | some a, some b => match cellEq (P.underlying f.type) a b, aeqF P r xs ys with
      | some e, some q => some (e && q)
      | _, _ => none
    | _, _ => none

def plainStruct (P : Program) (t : TypeId) : Bool := !P.stoodInHeld t && !P.eqGuardType P.depth t
def fieldsT (P : Program) (t : TypeId) : List Field := match P.underlying t with | some (.struct fs) => fs.toList | _ => []
def structT' (P : Program) (t : TypeId) : Bool := match P.underlying t with | some (.struct _) => true | _ => false

/-- an array of three integers -/
def arr3 (P : Program) (t : TypeId) : Option TypeId := match P.underlying t with
  | some (.array 3 e) => match P.underlying e, sizeT P e, aggT P e with
    | some (.int _), some 1, some false => some e
    | _, _, _ => none
  | _ => none
def eq3 (P : Program) (e : TypeId) : List AV → List AV → Option Bool
  | [a0, a1, a2], [b0, b1, b2] => match cellEq (P.underlying e) a0 b0, cellEq (P.underlying e) a1 b1, cellEq (P.underlying e) a2 b2 with
    | some x, some y, some z => some (x && (y && z))
    | _, _, _ => none
  | _, _ => none
def aeqAgg (P : Program) (t : TypeId) (xs ys : List AV) (K : Bool → Prop) : Prop :=
  match arr3 P t with
  | some e => chk (!P.eqGuardType P.depth t) (boolP (eq3 P e xs ys) K)
  | none => chk (structT' P t && plainStruct P t) (boolP (aeqF P (fieldsT P t) xs ys) K)

def aeq (P : Program) (t : TypeId) (x y : AV) (K : Bool → Prop) : Prop :=
  match x, y with
  | .bool a, .bool b => chk (boolish P t) (K (a == b))
  | .nilp, .nilp => chk (ptrish P t) (K true)
  | .nilp, .ptr _ _ => chk (ptrish P t) (K false)
  | .nilp, .iptr _ _ => chk (ptrish P t) (K false)
  | .ptr _ _, .nilp => chk (ptrish P t) (K false)
  | .iptr _ _, .nilp => chk (ptrish P t) (K false)
  | .sl _ s tip, .sl _ _ .nil => chk (slish P t) (nilSl s tip K)
  | .agg xs, .agg ys => aeqAgg P t xs ys K
  | _, _ => False

def isShift : BinOp → Bool
  | .shl | .shr => true
  | _ => false

def abin (P : Program) (op : BinOp) (t : TypeId) (x y : AV) (K : AV → Prop) : Prop :=
  match x, y with
  | .int k a, .int k' b => match isShift op with
    | true => shiftOp op k a b K
    | false => chk (kindEq k k') (intOp op k a b K)
  | .str a, .str b => strOp op a b K
  | x, y => match op with
    | .eql => aeq P t x y fun b => K (.bool b)
    | .neq => aeq P t x y fun b => K (.bool (!b))
    | _ => False

def aun (op : UnOp) (x : AV) (K : AV → Prop) : Prop :=
  match op, x with
  | .neg, .int k n => K (.int k (k.wrap (0 - n)))
  | .not, .bool b => K (.bool (!b))
  | _, _ => False

def encB (b : UInt8) : List AV := [.int .u8 b.toNat]

def cellByte : List AV → UInt8
  | [.int _ n] => UInt8.ofNat n.toNat
  | _ => 0

def bytesOf (s : Seq) : ByteArray := ⟨(s.toList.map cellByte).toArray⟩

def allBytes (s : Seq) : Prop := ∀ x ∈ s.toList, ∃ n : Int, x = [AV.int .u8 n]

def bytesSeq (s : ByteArray) : Seq := .map encB 0 s.data.toList

def aconv (P : Program) (src dst : TypeId) (x : AV) (K : AV → Prop) : Prop :=
  match P.underlying src, P.underlying dst, x with
  | some _, some (.int k), .int _ n => K (.int k (k.wrap n))
  | some _, some .string, .str s => K (.str s)
  | some _, some (.slice e), .str s => match P.underlying e with
    | some (.int .u8) => K (.sl 1 (bytesSeq s) .none)
    | _ => False
  | some (.slice e), some .string, .sl sz s _ => match P.underlying e with
    | some (.int .u8) => chk (Nat.beq sz 1 || Nat.beq sz 0) (needP (allBytes s) (K (.str (bytesOf s))))
    | _ => False
  | _, _, _ => False

def tailTip : Tip → Tip
  | .full => .full
  | _ => .none

def asli (P : Program) (t : TypeId) (x : AV) (lo hi mx : Option AV) (K : AV → Prop) : Prop :=
  match P.underlying t, x, lo, hi, mx with
  | some .string, .str s, lo, hi, none => match lo, hi with
    | none, none => K (.str (s.extract 0 s.size))
    | some (.int _ l), none => needP (0 ≤ l ∧ l ≤ s.size) (K (.str (s.extract l.toNat s.size)))
    | none, some (.int _ h) => needP (0 ≤ h ∧ h ≤ s.size) (K (.str (s.extract 0 h.toNat)))
    | some (.int _ l), some (.int _ h) => needP (0 ≤ l ∧ l ≤ h ∧ h ≤ s.size) (K (.str (s.extract l.toNat h.toNat)))
    | _, _ => False
  | some (.slice e), .sl sz s tip, lo, hi, none => match sizeT P e with
    | some n => chk (Nat.beq n sz || Nat.beq sz 0) <| match lo, hi with
      | none, none => K (.sl sz s tip)
      | some (.int _ l), none => needP (0 ≤ l ∧ l ≤ s.len) (K (.sl sz (s.sub l.toNat s.len) (tailTip tip)))
      | none, some (.int _ h) => needP (0 ≤ h ∧ h ≤ s.len) (K (.sl sz (s.sub 0 h.toNat) .none))
      | some (.int _ l), some (.int _ h) => needP (0 ≤ l ∧ l ≤ h ∧ h ≤ s.len) (K (.sl sz (s.sub l.toNat h.toNat) .none))
      | _, _ => False
    | _ => False
  | some (.slice e), .sl sz s _, lo, some (.int _ h), some (.int _ m) => match sizeT P e with
    | some n => chk (Nat.beq n sz || Nat.beq sz 0) <| match lo with
      | none => needP (0 ≤ h ∧ h ≤ s.len ∧ m = h) (K (.sl sz (s.sub 0 h.toNat) .full))
      | some (.int _ l) => needP (0 ≤ l ∧ l ≤ h ∧ h ≤ s.len ∧ m = h) (K (.sl sz (s.sub l.toNat h.toNat) .full))
      | _ => False
    | _ => False
  | some (.slice e), .msl sz id off len, lo, hi, none => match sizeT P e with
    | some n => chk (Nat.beq n sz) <| match lo, hi with
      | none, none => K (.msl sz id off len)
      | some (.int _ l), none => needP (0 ≤ l ∧ l < (len : Int)) (K (.msl sz id (off + l.toNat) (len - l.toNat)))
      | none, some (.int _ h) => needP (0 ≤ h ∧ h ≤ (len : Int)) (K (.msl sz id off h.toNat))
      | some (.int _ l), some (.int _ h) => needP (0 ≤ l ∧ l < (len : Int) ∧ l ≤ h ∧ h ≤ (len : Int)) (K (.msl sz id (off + l.toNat) (h.toNat - l.toNat)))
      | _, _ => False
    | _ => False
  | _, _, _, _, _ => False


def abox (v : AV) (H : List AObj) (K : AV → List AObj → Prop) : Prop :=
  match cellsOf v with
  | some cs => K (.ptr H.length 0) (H ++ [.cells cs])
  | none => False

def placeT (P : Program) (fs : Array Field) (i : Nat) : Option (Nat × Nat) :=
  match fs[i]? with
  | some f => (sizeT P f.type).map fun n => (f.offset, n)
  | none => none

def abuild (P : Program) (t : TypeId) (parts : List (Nat × AV)) (K : AV → Prop) : Prop :=
  match P.underlying t, zeroT P t with
  | some (.struct fs), some z =>
    match fillA (placeT P fs) z parts with
    | some cs => chk (fs.all fun f => (sizeT P f.type).isSome) (K (.agg cs))
    | none => False
  | some (.array _ e), some z =>
    match sizeT P e with
    | some n => match fillA (fun i => some (i * n, n)) z parts with
      | some cs => K (.agg cs)
      | none => False
    | none => False
  | _, _ => False

def abuildSlice (P : Program) (t : TypeId) (len : Nat) (parts : List (Nat × AV)) (K : AV → Prop) : Prop :=
  match P.underlying t with
  | some (.slice e) => match sizeT P e, zeroT P e with
    | some n, some z => chk (Nat.ble 1 n && Nat.beq z.length n && Nat.ble (len * n) (2 ^ 24)) <|
      match fillA (fun i => some (i * n, n)) (List.replicate len z).flatten parts with
      | some cs => K (.sl n (.raw (chunks n len cs)) .full)
      | none => False
    | _, _ => False
  | _ => False

def amakeSlice (P : Program) (mu : Bool) (t : TypeId) (l c : AV) (H : List AObj) (K : AV → List AObj → Prop) : Prop :=
  match P.underlying t, l, c with
  | some (.slice e), .int .i64 l, .int .i64 c => match sizeT P e, bytesT P e, zeroT P e with
    | some n, some by_, some z => chk (Nat.ble 1 n && Nat.beq z.length n) <|
      needP (0 ≤ l ∧ l ≤ c ∧ c ≤ 9223372036854775807 ∧ by_ * c ≤ 281474976710656) <| match mu with
        | true => K (.msl n H.length 0 l.toNat) (H ++ [.arr n (.raw (List.replicate l.toNat z))])
        | false => K (.sl n (.raw (List.replicate l.toNat z)) (.tok H.length)) (H ++ [.tok])
    | _, _, _ => False
  | _, _, _ => False

/-- a type's method of a name, where the receiver is the value itself -/
def methodOf (P : Program) (t : TypeId) (name : String) : Option FuncId :=
  match (P.info? t).bind (fun i => i.methods.find? (·.name == name)) with
  | some m => match m.path.isEmpty, m.func, P.underlying t with
    | true, some (_, false), some (.pointer _) => none
    | true, some (f, false), some _ => some f
    | true, some (f, true), some (.pointer _) => some f
    | _, _, _ => none
  | none => none

def anilCheck (P : Program) (v : AV) (K : AV → Prop) : Prop :=
  match v with
  | .ptr .. | .iptr .. | .mptr .. | .fn .. | .iface .. => K v
  | .meth t name _ => chk (methodOf P t name).isSome (K v)
  | _ => False

def afieldAddr (P : Program) (t : TypeId) (x : AV) (f : Nat) (K : AV → Prop) : Prop :=
  match fieldT P t f with
  | some (o, _) => match x with
    | .ptr id off => K (.ptr id (off + o))
    | .iptr cs off => K (.iptr cs (off + o))
    | .mptr sz id i off => K (.mptr sz id i (off + o))
    | _ => False
  | none => False

def afield (P : Program) (t : TypeId) (x : AV) (f : Nat) (K : AV → Prop) : Prop :=
  match P.underlying t, x with
  | some (.struct fs), .agg cs => match fs[f]? with
    | some fd => optP (partOf P fd.type cs fd.offset) K
    | none => False
  | _, _ => False

def aindexAddr (P : Program) (t : TypeId) (x i : AV) (K : AV → Prop) : Prop :=
  match P.underlying t, x, i with
  | some (.slice e), .sl sz s _, .int _ i => match sizeT P e with
    | some n => chk (Nat.beq n sz || Nat.beq sz 0) (needP (0 ≤ i ∧ i < (s.len : Int)) (K (.iptr (s.getD i.toNat) 0)))
    | none => False
  | some (.slice e), .msl sz id off len, .int _ i => match sizeT P e with
    | some n => chk (Nat.beq n sz) (needP (0 ≤ i ∧ i < (len : Int)) (K (.mptr sz id (off + i.toNat) 0)))
    | none => False
  | some (.array n e), .ptr id off, .int _ i => match sizeT P e with
    | some sz => needP (0 ≤ i ∧ i < (n : Int)) (K (.ptr id (off + i.toNat * sz)))
    | none => False
  | some (.array n e), .iptr cs off, .int _ i => match sizeT P e with
    | some sz => needP (0 ≤ i ∧ i < (n : Int)) (K (.iptr cs (off + i.toNat * sz)))
    | none => False
  | _, _, _ => False

def aindex (P : Program) (t : TypeId) (x i : AV) (K : AV → Prop) : Prop :=
  match P.underlying t, x, i with
  | some .string, .str s, .int _ i => needP (0 ≤ i ∧ i < (s.size : Int)) (K (.int .u8 (s.data.toList.getD i.toNat 0).toNat))
  | some (.array n e), .agg cs, .int _ i => match sizeT P e with
    | some sz => needP (0 ≤ i ∧ i < (n : Int)) (optP (partOf P e cs (i.toNat * sz)) K)
    | none => False
  | _, _, _ => False

def aextract (x : AV) (i : Nat) (K : AV → Prop) : Prop :=
  match x with
  | .tup vs => optP vs[i]? K
  | _ => False

/-- a function of the program that has a body and no name that the machine meets by itself -/
def plainFn (P : Program) (f : FuncId) : Bool :=
  match P.funcs[f]? with
  | some fn => fn.body.isSome && !(fn.name == "runtime.NumGoroutine")
  | none => false

def VRels (M : Mem) (w : World) (loc : Locs) (as : List AV) (vs : Array Value) : Prop :=
  ∃ hs : vs.size = as.length, ∀ i (h : i < as.length), VRel M w loc as[i] (vs[i]'(by omega))

/-- what a function does: whatever memory and arguments stand to the abstract ones -/
def ASpec (P : Program) (f : FuncId) (args : List AV) (H : List AObj) (Post : AV → List AObj → Prop) : Prop :=
  ∀ M loc w (vs : Array Value), Tabs P M w → Rel M loc H w → VRels M w loc args vs → Calls P f vs w fun e w' =>
    ∃ v r H' M' loc', e = .returned v ∧ Post r H' ∧ Rel M' loc' H' w' ∧ VRel M' w' loc' r v ∧ Step M loc H w M' loc' H' w'

theorem ASpec.mono {P f args H Post Post'} (h : ASpec P f args H Post) (hp : ∀ r H', Post r H' → Post' r H') : ASpec P f args H Post' :=
  fun M loc w vs ht hr hv => (h M loc w vs ht hr hv).mono fun _ _ ⟨v, r, H', M', loc', he, hP, rest⟩ => ⟨v, r, H', M', loc', he, hp _ _ hP, rest⟩

def alen (P : Program) (ts : List TypeId) (xs : List AV) (H : List AObj) (K : AV → Prop) : Prop :=
  match ts, xs with
  | t :: _, [x] => match P.underlying t, x with
    | some .string, .str s => K (.int .i64 s.size)
    | some (.slice _), .sl _ s _ => K (.int .i64 s.len)
    | some (.slice _), .msl _ _ _ n => K (.int .i64 n)
    | some (.array n _), _ => K (.int .i64 n)
    | some (.map _ _), .map id => match H[id]? with
      | some (.mp m) => K (.int .i64 m.len)
      | _ => False
    | some (.map _ _), .nmap => K (.int .i64 0)
    | _, _ => False
  | _, _ => False

def amm (mx : Bool) : IntKind → Int → List AV → (AV → Prop) → Prop
  | k, a, [], K => K (.int k a)
  | k, a, .int _ b :: rest, K => amm mx k (match mx with | true => if b > a then b else a | false => if b < a then b else a) rest K
  | _, _, _, _ => False

def aminmax (mx : Bool) (xs : List AV) (K : AV → Prop) : Prop :=
  match xs with
  | .int k a :: rest => amm mx k a rest K
  | _ => False

def emptyRaw : Seq → Bool
  | .raw [] => true
  | _ => false

/-- what is appended: slices and strings -/
def appended (sz : Nat) (x : AV) : Option Seq :=
  match x with
  | .sl sz' s _ => bif Nat.beq sz sz' || emptyRaw s then some s else none
  | .str s => bif Nat.beq sz 1 then some (bytesSeq s) else none
  | _ => none

def seqP (o : Option Seq) (K : Seq → Prop) : Prop := match o with | some a => K a | none => False

/-- what is appended: a row of an object's elements, too -/
def appendedP (sz : Nat) (x : AV) (H : List AObj) (K : Seq → Prop) : Prop :=
  match x with
  | .msl sz' id off len => match H[id]? with
    | some (.arr sz2 s) => chk (Nat.beq sz sz' && Nat.beq sz' sz2) (needP (off + len ≤ s.len) (K (s.sub off (off + len))))
    | _ => False
  | x => seqP (appended sz x) K


/-- each element's cells are values of one cell -/
def onesP : Seq → Prop → Prop
  | .raw l, K => chk (l.all (·.all oneAV)) K
  | .map enc _ _, K => needP (∀ x, (enc x).all oneAV = true) K
  | .app a b, K => onesP a (onesP b K)

def srcKind : Option TypeDesc → Bool
  | some (.slice _) | some .string => true
  | _ => false

def freshTip : Tip → Bool
  | .nil | .full => true
  | _ => false

def aappend (P : Program) (mu : Bool) (ts : List TypeId) (xs : List AV) (H : List AObj) (K : AV → List AObj → Prop) : Prop :=
  match ts, xs with
  | [t, t'], [.sl sz s tip, x] => match P.underlying t, srcKind (P.underlying t') with
    | some (.slice e), true => match sizeT P e, bytesT P e, zeroT P e with
      | some n, some by_, some z => chk (Nat.ble 1 n && (Nat.beq n sz || emptyRaw s) && Nat.beq z.length n && Nat.ble 1 by_) <|
        appendedP n x H fun s' => onesP s' <|
          needP ((s.len + s'.len) * by_ ≤ 140737488351232) <|
          match mu with
          | true => chk (emptyRaw s && freshTip tip) (needP (1 ≤ s'.len) (K (.msl n H.length 0 s'.len) (H ++ [.arr n s'])))
          | false => match tip with
          | .none => False
          | .tok id => match H[id]? with
            | some .tok => chk (Nat.beq n sz) (K (.sl n (s.app s') (.tok H.length)) (H.set id .gone ++ [.tok]))
            | _ => False
          | _ => K (.sl n (s.app s') (.tok H.length)) (H ++ [.tok])
      | _, _, _ => False
    | _, _ => False
  | _, _ => False

/-- append to a slice that may be written and is all of its object -/
def aappendM (P : Program) (ts : List TypeId) (xs : List AV) (H : List AObj) (K : AV → List AObj → Prop) : Prop :=
  match ts, xs with
  | [t, t'], [.msl sz id off n, x] => match P.underlying t, srcKind (P.underlying t') with
    | some (.slice e), true => match sizeT P e, bytesT P e, zeroT P e with
      | some k, some by_, some z => chk (Nat.ble 1 k && Nat.beq k sz && Nat.beq z.length k && Nat.ble 1 by_ && Nat.beq off 0) <|
        match H[id]? with
        | some (.arr sz' s) => chk (Nat.beq sz sz') <| appendedP k x H fun s' => onesP s' <|
            needP (n = s.len ∧ (n + s'.len) * by_ ≤ 140737488351232) (K (.msl k H.length 0 (n + s'.len)) (H.set id .gone ++ [.arr k (s.app s')]))
        | _ => False
      | _, _, _ => False
    | _, _ => False
  | _, _ => False

/-- s over d's elements from off on -/
def copied (d : Seq) (off : Nat) (s : Seq) : Seq := .raw (d.toList.take off ++ (s.toList ++ d.toList.drop (off + s.toList.length)))

def acopy (P : Program) (ts : List TypeId) (xs : List AV) (H : List AObj) (K : AV → List AObj → Prop) : Prop :=
  match ts, xs with
  | [t, t'], [.msl sz id off len, x] => match P.underlying t, srcKind (P.underlying t'), H[id]? with
    | some (.slice e), true, some (.arr sz' d) => match sizeT P e with
      | some n => chk (Nat.beq n sz && Nat.beq sz sz' && Nat.ble 1 n) <| appendedP n x H fun s => onesP s <|
          needP (off + len ≤ d.len ∧ s.len ≤ len) (K (.int .i64 s.len) (H.set id (.arr sz (copied d off s))))
      | none => False
    | _, _, _ => False
  | _, _ => False

def abuiltin (P : Program) (mu : Bool) (b : Builtin) (ts : List TypeId) (xs : List AV) (H : List AObj) (K : AV → List AObj → Prop) : Prop :=
  match b with
  | .len => alen P ts xs H fun v => K v H
  | .min => aminmax false xs fun v => K v H
  | .max => aminmax true xs fun v => K v H
  | .append => match xs with
    | .msl _ _ _ _ :: _ => aappendM P ts xs H K
    | _ => aappend P mu ts xs H K
  | .copy => acopy P ts xs H K
  | _ => False

/-- a call: whatever the function's own specification says, in the form that is told of it -/
def formed (R : List Ret) (args : List AV) (H : List AObj) (K : AV → List AObj → Prop) : AV → List AObj → Prop := match R with
  | [] => fun _ _ => False
  | R :: l => match l with
    | [] => fun r H' => ∃ x : R.X, r = R.av args H x ∧ H' = R.hp args H x ∧ K (R.av args H x) (R.hp args H x)
    | S :: l => fun r H' => (∃ x : R.X, r = R.av args H x ∧ H' = R.hp args H x ∧ K (R.av args H x) (R.hp args H x)) ∨ formed (S :: l) args H K r H'

theorem formed_elim {args : List AV} {H : List AObj} {K : AV → List AObj → Prop} {r : AV} {H' : List AObj} : ∀ {R : List Ret}, formed R args H K r H' → K r H'
  | [], h => h.elim
  | [R], h => by
    obtain ⟨x, rfl, rfl, h⟩ := h
    exact h
  | R :: S :: l, h => by
    rcases h with ⟨x, rfl, rfl, h⟩ | h
    · exact h
    · exact formed_elim (R := S :: l) h

def acall (P : Program) (mu : Bool) (R : FuncId → List Ret) (s : Slots) (c : Call) (H : List AObj) (K : AV → List AObj → Prop) : Prop :=
  match c.callee with
  | .builtin b => abuiltin P mu b c.argTypes.toList (c.args.toList.map (ev s)) H K
  | .value f => match ev s f with
    | .fn g cap => chk (plainFn P g) (ASpec P g (c.args.toList.map (ev s) ++ cap) H (formed (R g) (c.args.toList.map (ev s) ++ cap) H K))
    | _ => False
  | .invoke x name => match ev s x with
    | .iface t v => natP (methodOf P t name) fun g => chk (plainFn P g) (ASpec P g (v :: c.args.toList.map (ev s)) H (formed (R g) (v :: c.args.toList.map (ev s)) H K))
    | _ => False

/-- a type's zero -/
def zeroAV (P : Program) (t : TypeId) : Option AV := ((P.info? t).bind (·.zero)).map ofConst
def ifaceT (P : Program) (t : TypeId) : Bool := match P.underlying t with | some (.interface _) | none => true | _ => false

/-- what lies in an interface, if it is of a type -/
def atypeAssert (P : Program) (x : AV) (asserted : TypeId) (ok : Bool) (K : AV → Prop) : Prop :=
  chk (!ifaceT P asserted) <| match x, ok with
    | .iface t v, true => match Nat.beq t asserted with
      | true => K (.tup [v, .bool true])
      | false => optP (zeroAV P asserted) fun z => K (.tup [z, .bool false])
    | .nili, true => optP (zeroAV P asserted) fun z => K (.tup [z, .bool false])
    | .iface t v, false => chk (Nat.beq t asserted) (K v)
    | _, _ => False

/-- a string's runes, one behind the other -/
def arange (P : Program) (t : TypeId) (x : AV) (H : List AObj) (K : AV → List AObj → Prop) : Prop :=
  match P.underlying t, x with
  | some .string, .str s => K (.ptr H.length 0) (H ++ [.siter s 0])
  | _, _ => False

def anext (str : Bool) (x : AV) (H : List AObj) (K : AV → List AObj → Prop) : Prop :=
  match str, x with
  | true, .ptr id off => match H[id]? with
    | some (.siter s pos) => chk (Nat.beq off 0) (condP (decide (pos < s.size))
        (K (.tup [.bool true, .int .i64 pos, .int .i32 (Utf8.decode s pos).1]) (H.set id (.siter s (pos + (Utf8.decode s pos).2)))) (K (.tup [.bool false]) H))
    | _ => False
  | _, _ => False

/-- maps -/
def optionP {α : Type _} (o : Option α) (A : α → Prop) (B : Prop) : Prop := match o with | some a => A a | none => B

/-- what a map has of a key, each case, or else -/
def lookMM : MM → ByteArray → (AV → Prop) → Prop → Prop
  | .nil, _, _, Z => Z
  | .typed E l, k, K, Z => optionP (findM l k) (fun a => E.spl a K) Z
  | .put m k v, k', K, Z => condP (k'.toList == k.toList) (K v) (lookMM m k' K Z)

def mapRes (ok : Bool) (v : AV) (b : Bool) : AV := match ok with | true => .tup [v, .bool b] | false => v

def strKey (P : Program) (t : TypeId) : Option TypeId := match P.underlying t with
  | some (.map kt et) => match P.underlying kt with | some .string => some et | _ => none
  | _ => none

def alookup (P : Program) (t : TypeId) (x k : AV) (ok : Bool) (H : List AObj) (K : AV → Prop) : Prop :=
  natP (strKey P t) fun et => optP (zeroAV P et) fun z => match k with
    | .str k => match x with
      | .nmap => K (mapRes ok z false)
      | .map id => match H[id]? with
        | some (.mp m) => lookMM m k (fun v => K (mapRes ok v true)) (K (mapRes ok z false))
        | _ => False
      | _ => False
    | _ => False

def amapUpdate (P : Program) (t : TypeId) (x k v : AV) (H : List AObj) (K : List AObj → Prop) : Prop :=
  natP (strKey P t) fun _ => match k with
    | .str k => match x with
      | .map id => match H[id]? with
        | some (.mp m) => K (H.set id (.mp (.put m k v)))
        | _ => False
      | _ => False
    | _ => False

def aop (P : Program) (R : FuncId → List Ret) (mu : Bool) (s : Slots) (o : Op) (H : List AObj) (K : AV → List AObj → Prop) : Prop :=
  match o with
  | .move x | .assign x => K (ev s x) H
  | .pick c a b => match ev s c with
    | .bool t => condP t (K (ev s a) H) (K (ev s b) H)
    | _ => False
  | .alloc t => match zeroT P t with
    | some cs => K (.ptr H.length 0) (H ++ [.cells cs])
    | none => False
  | .box _ x => abox (ev s x) H K
  | .build t parts => abuild P t (parts.toList.map fun (i, x) => (i, ev s x)) fun v => K v H
  | .buildSlice t n parts => abuildSlice P t n (parts.toList.map fun (i, x) => (i, ev s x)) fun v => K v H
  | .load t a => aload P t (ev s a) H fun v => K v H
  | .store t a x => astore P t (ev s a) (ev s x) H fun H' => K .bad H'
  | .nilCheck x => anilCheck P (ev s x) fun v => K v H
  | .binOp op t x y _ => abin P op t (ev s x) (ev s y) fun v => K v H
  | .unOp op _ x => aun op (ev s x) fun v => K v H
  | .convert src dst x => aconv P src dst (ev s x) fun v => K v H
  | .makeInterface t x => chk (match P.underlying t with | some (.interface _) | none => false | _ => true) (K (.iface t (ev s x)) H)
  | .makeFunc (.func f) first captured => chk first.isEmpty (K (.fn f (captured.toList.map (ev s))) H)
  | .makeFunc (.method name) first captured => chk captured.isEmpty (match first.toList.map (ev s) with
    | [.iface t v] => K (.meth t name v) H
    | _ => False)
  | .makeMap _ none => K (.map H.length) (H ++ [.mp .nil])
  | .lookup t x k ok => alookup P t (ev s x) (ev s k) ok H fun v => K v H
  | .mapUpdate t x k v => amapUpdate P t (ev s x) (ev s k) (ev s v) H fun H' => K .bad H'
  | .makeSlice t l c => amakeSlice P mu t (ev s l) (ev s c) H K
  | .slice t x lo hi mx => asli P t (ev s x) (lo.map (ev s)) (hi.map (ev s)) (mx.map (ev s)) fun v => K v H
  | .fieldAddr t x f => afieldAddr P t (ev s x) f fun v => K v H
  | .field t x f => afield P t (ev s x) f fun v => K v H
  | .indexAddr t x i => aindexAddr P t (ev s x) (ev s i) fun v => K v H
  | .index t x i => aindex P t (ev s x) (ev s i) fun v => K v H
  | .extract x i => aextract (ev s x) i fun v => K v H
  | .typeAssert x _ asserted ok => atypeAssert P (ev s x) asserted ok fun v => K v H
  | .range t x => arange P t (ev s x) H K
  | .next x str => anext str (ev s x) H K
  | .call c => acall P mu R s c H K
  | _ => False

def aput (N : Nat) (s : Slots) (d : Option Tmp) (v : AV) (K : Slots → Prop) : Prop :=
  match d with
  | none => K s
  | some d => chk (Nat.blt d N) (K ((d, v) :: s))

/-- one operation, with its guard -/
def aoper (P : Program) (cfg : Cfg) (ops : Array Oper) (s : Slots) (o : Oper) (H : List AObj) (K : Slots → List AObj → Prop) : Prop :=
  let run := fun s => aop P cfg.ret (match o.dst with | some d => cfg.mu d | none => false) s o.op H fun v H' => aput cfg.N s o.dst v fun s' => K s' H'
  let skip := fun s => aput cfg.N s o.dst (.tup []) fun s' => K s' H
  match o.guard with
  | none => run s
  | some (j, want) => match (ops[j]?).bind (·.dst) with
    | some d => match get s d with
      | .bool b => chk (Nat.blt d cfg.N) (condP b (match want with | true => run ((d, .bool true) :: s) | false => skip ((d, .bool true) :: s))
          (match want with | true => skip ((d, .bool false) :: s) | false => run ((d, .bool false) :: s)))
      | .tup [] => skip s
      | _ => False
    | none => False

def aops (P : Program) (cfg : Cfg) (ops : Array Oper) : List Nat → Slots → List AObj → (Slots → List AObj → Prop) → Prop
  | [], s, H, K => K s H
  | i :: rest, s, H, K => match ops[i]? with
    | some o => aoper P cfg ops s o H fun s' H' => aops P cfg ops rest s' H' K
    | none => False

end Go.Ab
