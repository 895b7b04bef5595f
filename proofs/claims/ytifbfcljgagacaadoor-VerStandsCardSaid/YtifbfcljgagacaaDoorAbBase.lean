/- Abstract values, the abstract heap, and how they stand to the machine's. -/
import Derived.Calls
set_option linter.unusedVariables false
set_option linter.unusedSimpArgs false
namespace Go.Ab

inductive Tip where
  | nil | none | full | tok (id : Nat)

mutual
inductive AV : Type 1 where
  | bad
  | int (k : IntKind) (n : Int)
  | bool (b : Bool)
  | str (s : ByteArray)
  | nilp
  | ptr (id off : Nat)
  | iptr (cs : List AV) (off : Nat)
  | sl (sz : Nat) (s : Seq) (tip : Tip)
  | msl (sz id off len : Nat)
  | mptr (sz id i off : Nat)
  | agg (cs : List AV)
  | tup (vs : List AV)
  | fn (f : FuncId) (cap : List AV)
  | nilf
  | iface (t : TypeId) (v : AV)
  | nili
  | nmap
  | map (id : Nat)
  | meth (t : TypeId) (name : String) (v : AV)
inductive Seq : Type 1 where
  | raw (l : List (List AV))
  | map {α : Type} (enc : α → List AV) (d : α) (xs : List α)
  | app (a b : Seq)
end

instance : Inhabited AV := ⟨.bad⟩

def Seq.toList : Seq → List (List AV)
  | .raw l => l
  | .map enc _ xs => xs.map enc
  | .app a b => a.toList ++ b.toList

def Seq.len : Seq → Nat
  | .raw l => l.length
  | .map _ _ xs => xs.length
  | .app a b => a.len + b.len

def Seq.getD : Seq → Nat → List AV
  | .raw l, i => l.getD i []
  | .map enc d xs, i => enc (xs.getD i d)
  | .app a b, i => if i < a.len then a.getD i else b.getD (i - a.len)

def Seq.sub : Seq → Nat → Nat → Seq
  | .raw l, lo, hi => .raw ((l.take hi).drop lo)
  | .map enc d xs, lo, hi => .map enc d ((xs.take hi).drop lo)
  | .app a b, lo, hi => .raw (((a.toList ++ b.toList).take hi).drop lo)

theorem Seq.len_eq : ∀ s : Seq, s.len = s.toList.length
  | .raw l => rfl
  | .map enc d xs => by simp [Seq.len, Seq.toList]
  | .app a b => by simp [Seq.len, Seq.toList, Seq.len_eq a, Seq.len_eq b]

theorem Seq.getD_eq : ∀ (s : Seq) (i : Nat) (h : i < s.toList.length), s.getD i = s.toList[i]
  | .raw l, i, h => by
    have h' : i < l.length := h
    simp [Seq.getD, Seq.toList, h']
  | .map enc d xs, i, h => by
    have h' : i < xs.length := by simpa [Seq.toList] using h
    simp [Seq.getD, Seq.toList, h']
  | .app a b, i, h => by
    simp only [Seq.getD, Seq.toList]
    have h' : i < a.toList.length + b.toList.length := by simpa [Seq.toList] using h
    by_cases hi : i < a.len
    · have hi' : i < a.toList.length := by rwa [← Seq.len_eq]
      rw [if_pos hi, Seq.getD_eq a i hi', List.getElem_append_left hi']
    · have hi' : ¬ i < a.toList.length := by rwa [← Seq.len_eq]
      rw [if_neg hi, Seq.getD_eq b (i - a.len) (by rw [Seq.len_eq]; omega), List.getElem_append_right (by omega)]
      simp [Seq.len_eq]

theorem Seq.sub_toList : ∀ (s : Seq) (lo hi : Nat), (s.sub lo hi).toList = (s.toList.take hi).drop lo
  | .raw l, lo, hi => rfl
  | .map enc d xs, lo, hi => by simp [Seq.sub, Seq.toList, List.map_drop, List.map_take]
  | .app a b, lo, hi => rfl

/-- a map's values as abstract values; spl tells a value's cases one by one -/
structure Enc (α : Type) : Type 1 where
  enc : α → AV
  spl : α → (AV → Prop) → Prop
  ok : ∀ a K, spl a K → K (enc a)

/-- values of one form -/
def Enc.one {α : Type} (enc : α → AV) : Enc α := ⟨enc, fun a K => K (enc a), fun _ _ h => h⟩

def findM {α : Type _} : List (ByteArray × α) → ByteArray → Option α
  | [], _ => none
  | p :: l, k => if k = p.1 then some p.2 else findM l k
/-- a map with another value of a key -/
def setM {α : Type _} : List (ByteArray × α) → ByteArray → α → List (ByteArray × α)
  | [], k, v => [(k, v)]
  | p :: l, k, v => if k = p.1 then (k, v) :: l else p :: setM l k v

/-- a map's entries -/
inductive MM : Type 1 where
  | nil
  | typed {α : Type} (E : Enc α) (l : List (ByteArray × α))
  | put (m : MM) (k : ByteArray) (v : AV)

def MM.toList : MM → List (ByteArray × AV)
  | .nil => []
  | .typed E l => l.map fun p => (p.1, E.enc p.2)
  | .put m k v => setM m.toList k v
def MM.len : MM → Nat
  | .nil => 0
  | .typed _ l => l.length
  | .put m k v => (setM m.toList k v).length
theorem MM.len_eq : ∀ m : MM, m.len = m.toList.length
  | .nil => rfl
  | .typed _ l => by simp [MM.len, MM.toList]
  | .put m k v => rfl

theorem findM_map {α : Type _} {β : Type _} (f : α → β) (k : ByteArray) : ∀ l : List (ByteArray × α), findM (l.map fun p => (p.1, f p.2)) k = (findM l k).map f
  | [] => rfl
  | p :: l => by
    simp only [List.map_cons, findM]
    split
    · rfl
    · exact findM_map f k l
theorem setM_map {α : Type _} {β : Type _} (f : α → β) (k : ByteArray) (v : α) : ∀ l : List (ByteArray × α), setM (l.map fun p => (p.1, f p.2)) k (f v) = (setM l k v).map fun p => (p.1, f p.2)
  | [] => rfl
  | p :: l => by
    simp only [List.map_cons, setM]
    split
    · rfl
    · rw [setM_map f k v l]; rfl
theorem findM_set {α : Type _} (k k' : ByteArray) (v : α) : ∀ l : List (ByteArray × α), findM (setM l k v) k' = if k' = k then some v else findM l k'
  | [] => rfl
  | p :: l => by
    simp only [setM]
    by_cases h : k = p.1
    · rw [if_pos h]
      simp only [findM]
      by_cases h2 : k' = k
      · rw [if_pos h2, if_pos h2]
      · rw [if_neg h2, if_neg h2]
        rw [← h, if_neg h2]
    · rw [if_neg h]
      simp only [findM]
      rw [findM_set k k' v l]
      by_cases h2 : k' = p.1
      · rw [if_pos h2, if_pos h2, if_neg (fun h3 => h (by rw [← h3, h2]))]
      · rw [if_neg h2, if_neg h2]

/-- what a block of memory is, in the abstract heap -/
inductive AObj : Type 1 where
  | gone
  | cells (cs : List AV)
  | tok
  | arr (sz : Nat) (s : Seq)
  | siter (s : ByteArray) (pos : Nat)
  | mp (m : MM)

inductive Loc where
  | blk (b : Nat)
  | tok (b e : Nat)
  | xtok

def Loc.block? : Loc → Option Nat
  | .blk b | .tok b _ => some b
  | .xtok => none

/-- the memory's ghost: below base nothing changes; of a block of data the first ext cells don't change -/
structure Mem where
  base : Nat
  ext : Nat → Nat

abbrev Locs := Nat → Option Loc

def ImmC (M : Mem) (w : World) (b k : Nat) (v : Value) : Prop :=
  w.cell? ⟨b, k, none⟩ = some v ∧ (b < M.base ∨ k < M.ext b)

inductive VRel (M : Mem) (w : World) (loc : Locs) : AV → Value → Prop where
  | bad (v) : VRel M w loc .bad v
  | int (k n) : VRel M w loc (.int k n) (.int k n)
  | bool (b) : VRel M w loc (.bool b) (.bool b)
  | str (s) : VRel M w loc (.str s) (.string s)
  | nilp : VRel M w loc .nilp (.pointer none)
  | ptr (id off b : Nat) (h : loc id = some (.blk b)) : VRel M w loc (.ptr id off) (.pointer (some ⟨b, off, none⟩))
  | iptr (cs : List AV) (off b o : Nat) (vals : Nat → Value) (h1 : ∀ j, j < cs.length → ImmC M w b (o + j) (vals j))
      (h2 : ∀ j (hj : j < cs.length), VRel M w loc cs[j] (vals j)) : VRel M w loc (.iptr cs off) (.pointer (some ⟨b, o + off, none⟩))
  | slnil (sz : Nat) (s : Seq) (tip : Tip) (hs : s.toList = []) (ht : ∀ id, tip = .tok id → loc id = some .xtok) : VRel M w loc (.sl sz s tip) (.slice none 0 0)
  | slz (sz : Nat) (s : Seq) (tip : Tip) (a : Addr) (hs : s.toList = []) (hnil : tip ≠ .nil) (ht : ∀ id, tip = .tok id → loc id = some .xtok) : VRel M w loc (.sl sz s tip) (.slice (some a) 0 0)
  | sl (sz : Nat) (s : Seq) (tip : Tip) (b o cap : Nat) (vals : Nat → Nat → Value)
      (hz : ∀ (i : Nat) (h : i < s.toList.length), s.toList[i].length = sz)
      (h1 : ∀ i j, i < s.toList.length → j < sz → ImmC M w b (o + i * sz + j) (vals i j))
      (h2 : ∀ i j (h : i < s.toList.length) (hj : j < s.toList[i].length), VRel M w loc s.toList[i][j] (vals i j))
      (hcap : s.toList.length ≤ cap)
      (hnil : tip ≠ .nil) (hfull : tip = .full → cap = s.toList.length)
      (htok : ∀ id, tip = .tok id → (loc id = some .xtok ∧ cap = s.toList.length) ∨
        (loc id = some (.tok b (o + s.toList.length * sz)) ∧ ∃ cs T fr, w.heap[b]? = some (.cells cs T fr) ∧ o + cap * sz ≤ cs.size)) :
      VRel M w loc (.sl sz s tip) (.slice (some ⟨b, o, none⟩) s.toList.length cap)
  | msl (sz id off len b cap : Nat) (h : loc id = some (.blk b)) (hl : len ≤ cap) (hc : ∃ cs T fr, w.heap[b]? = some (.cells cs T fr) ∧ (off + cap) * sz ≤ cs.size) :
      VRel M w loc (.msl sz id off len) (.slice (some ⟨b, off * sz, none⟩) len cap)
  | mptr (sz id i off b : Nat) (h : loc id = some (.blk b)) : VRel M w loc (.mptr sz id i off) (.pointer (some ⟨b, i * sz + off, none⟩))
  | agg (cs : List AV) (vs : Array Value) (hs : vs.size = cs.length) (h : ∀ i (h : i < cs.length), VRel M w loc cs[i] (vs[i]'(by omega))) : VRel M w loc (.agg cs) (.agg vs)
  | tup (cs : List AV) (vs : Array Value) (hs : vs.size = cs.length) (h : ∀ i (h : i < cs.length), VRel M w loc cs[i] (vs[i]'(by omega))) : VRel M w loc (.tup cs) (.tuple vs)
  | fn (f : FuncId) (cs : List AV) (vs : Array Value) (hs : vs.size = cs.length) (h : ∀ i (h : i < cs.length), VRel M w loc cs[i] (vs[i]'(by omega))) :
      VRel M w loc (.fn f cs) (.func (.func f) #[] vs)
  | nilf : VRel M w loc .nilf .nilFunc
  | iface (t : TypeId) (a : AV) (v : Value) (h : VRel M w loc a v) : VRel M w loc (.iface t a) (.iface t v)
  | nili : VRel M w loc .nili .nilIface
  | nmap : VRel M w loc .nmap (.map none)
  | map (id b : Nat) (h : loc id = some (.blk b)) : VRel M w loc (.map id) (.map (some b))
  | meth (t : TypeId) (name : String) (a : AV) (v : Value) (h : VRel M w loc a v) : VRel M w loc (.meth t name a) (.func (.method name) #[.iface t v] #[])


/-! ### the heap's relation -/

def soft (vs : Array Value) (fr : Nat × Nat) : Prop := ∀ k, k < vs.size → ¬ (fr.1 ≤ k ∧ k < fr.2)

def ORel (M : Mem) (w : World) (loc : Locs) (l : Option Loc) : AObj → Prop
  | .gone => True
  | .cells cs => ∃ b vs T fr, l = some (.blk b) ∧ M.base ≤ b ∧ M.ext b = 0 ∧ w.heap[b]? = some (.cells vs T fr) ∧ soft vs fr ∧
      ∃ hs : vs.size = cs.length, ∀ i (h : i < cs.length), VRel M w loc cs[i] (vs[i]'(by omega))
  | .tok => l = some .xtok ∨ ∃ b e vs T fr, l = some (.tok b e) ∧ M.base ≤ b ∧ M.ext b = e ∧ w.heap[b]? = some (.cells vs T fr) ∧ soft vs fr
  | .arr sz s => ∃ b vs T fr, l = some (.blk b) ∧ M.base ≤ b ∧ M.ext b = 0 ∧ w.heap[b]? = some (.cells vs T fr) ∧ soft vs fr ∧
      s.toList.length * sz ≤ vs.size ∧ (∀ i (h : i < s.toList.length), s.toList[i].length = sz) ∧
      ∀ i j (h : i < s.toList.length) (hj : j < s.toList[i].length), ∃ v, vs[i * sz + j]? = some v ∧ VRel M w loc s.toList[i][j] v
  | .siter s pos => ∃ b, l = some (.blk b) ∧ M.base ≤ b ∧ M.ext b = 0 ∧ w.heap[b]? = some (.stringIter s pos)
  | .mp m => ∃ b ents clock, l = some (.blk b) ∧ M.base ≤ b ∧ M.ext b = 0 ∧ w.heap[b]? = some (.map ents clock) ∧
      ∃ hs : ents.size = m.toList.length, ∀ i (h : i < m.toList.length), (ents[i]'(by omega)).key = .string m.toList[i].1 ∧ VRel M w loc m.toList[i].2 (ents[i]'(by omega)).val

def Owned (loc : Locs) (H : List AObj) (b : Nat) : Prop :=
  ∃ i o l, H[i]? = some o ∧ (o = .gone → False) ∧ loc i = some l ∧ l.block? = some b

structure Rel (M : Mem) (loc : Locs) (H : List AObj) (w : World) : Prop where
  base : M.base ≤ w.heap.size
  ext : ∀ b, 0 < M.ext b → M.base ≤ b ∧ ∃ cs T fr, w.heap[b]? = some (.cells cs T fr) ∧ M.ext b ≤ cs.size
  dom : ∀ i, H.length ≤ i → loc i = none
  objs : ∀ i o, H[i]? = some o → ORel M w loc (loc i) o
  inj : ∀ i j oi oj li lj b, H[i]? = some oi → H[j]? = some oj → (oi = .gone → False) → (oj = .gone → False) → loc i = some li → loc j = some lj →
    li.block? = some b → lj.block? = some b → i = j

structure StepN (n : Nat) (M : Mem) (loc : Locs) (H : List AObj) (w : World) (M' : Mem) (loc' : Locs) (H' : List AObj) (w' : World) : Prop where
  base : M'.base = M.base
  size : w.heap.size ≤ w'.heap.size
  os : w'.os = w.os
  tape : w'.tape = w.tape
  output : w'.output = w.output
  keep : ∀ b, b < w.heap.size → ¬ Owned loc H b → w'.heap[b]? = w.heap[b]? ∧ M'.ext b = M.ext b
  imm : ∀ b k v, ImmC M w b k v → ImmC M' w' b k v
  shape : ∀ (b : Nat) (cs : Array Value) (T : TypeId) (fr : Nat × Nat), w.heap[b]? = some (Obj.cells cs T fr) → ∃ (cs' : Array Value) (fr' : Nat × Nat), w'.heap[b]? = some (Obj.cells cs' T fr') ∧ cs'.size = cs.size
  own : ∀ b, b < w.heap.size → Owned loc' H' b → Owned loc H b
  locs : ∀ i, i < n → loc' i = loc i
  len : n ≤ H'.length

abbrev Step (M : Mem) (loc : Locs) (H : List AObj) (w : World) (M' : Mem) (loc' : Locs) (H' : List AObj) (w' : World) : Prop := StepN H.length M loc H w M' loc' H' w'

theorem Step.refl (M : Mem) (loc : Locs) (H : List AObj) (w : World) : Step M loc H w M loc H w :=
  ⟨rfl, Nat.le_refl _, rfl, rfl, rfl, fun _ _ _ => ⟨rfl, rfl⟩, fun _ _ _ h => h, fun _ cs _ fr h => ⟨cs, fr, h, rfl⟩, fun _ _ h => h, fun _ _ => rfl, Nat.le_refl _⟩

theorem StepN.trans {n m M loc H w M1 loc1 H1 w1 M2 loc2 H2 w2} (h : StepN n M loc H w M1 loc1 H1 w1) (k : StepN m M1 loc1 H1 w1 M2 loc2 H2 w2) (hnm : n ≤ m) : StepN n M loc H w M2 loc2 H2 w2 where
  base := k.base.trans h.base
  size := Nat.le_trans h.size k.size
  os := k.os.trans h.os
  tape := k.tape.trans h.tape
  output := k.output.trans h.output
  keep b hb ho := by
    have h1 := h.keep b hb ho
    have h2 := k.keep b (Nat.lt_of_lt_of_le hb h.size) (fun hc => ho (h.own b hb hc))
    exact ⟨h2.1.trans h1.1, h2.2.trans h1.2⟩
  imm b k' v hi := k.imm b k' v (h.imm b k' v hi)
  shape b cs T fr hb := by
    obtain ⟨cs1, fr1, h1, e1⟩ := h.shape b cs T fr hb
    obtain ⟨cs2, fr2, h2, e2⟩ := k.shape b cs1 T fr1 h1
    exact ⟨cs2, fr2, h2, e2.trans e1⟩
  own b hb ho := h.own b hb (k.own b (Nat.lt_of_lt_of_le hb h.size) ho)
  locs i hi := (k.locs i (Nat.lt_of_lt_of_le hi hnm)).trans (h.locs i hi)
  len := Nat.le_trans hnm k.len

theorem StepN.mono {n m M loc H w M1 loc1 H1 w1} (h : StepN m M loc H w M1 loc1 H1 w1) (hnm : n ≤ m) : StepN n M loc H w M1 loc1 H1 w1 :=
  ⟨h.base, h.size, h.os, h.tape, h.output, h.keep, h.imm, h.shape, h.own, fun i hi => h.locs i (Nat.lt_of_lt_of_le hi hnm), Nat.le_trans hnm h.len⟩

theorem Step.trans {M loc H w M1 loc1 H1 w1 M2 loc2 H2 w2} (h : Step M loc H w M1 loc1 H1 w1) (k : Step M1 loc1 H1 w1 M2 loc2 H2 w2) : Step M loc H w M2 loc2 H2 w2 :=
  StepN.trans h k h.len

/-- what a step keeps of values: cells that don't change, places, and how long blocks are -/
structure Keeps (M : Mem) (w : World) (loc : Locs) (M' : Mem) (w' : World) (loc' : Locs) : Prop where
  imm : ∀ b k v, ImmC M w b k v → ImmC M' w' b k v
  shape : ∀ (b : Nat) (cs : Array Value) (T : TypeId) (fr : Nat × Nat), w.heap[b]? = some (Obj.cells cs T fr) → ∃ (cs' : Array Value) (fr' : Nat × Nat), w'.heap[b]? = some (Obj.cells cs' T fr') ∧ cs'.size = cs.size
  loc : ∀ i l, loc i = some l → loc' i = some l

theorem Rel.lt {M loc H w} (h : Rel M loc H w) {i l} (hl : loc i = some l) : i < H.length := by
  rcases Nat.lt_or_ge i H.length with hi | hi
  · exact hi
  · rw [h.dom i hi] at hl; cases hl

theorem Step.keeps {M loc H w M' loc' H' w'} (h : Step M loc H w M' loc' H' w') (hr : Rel M loc H w) : Keeps M w loc M' w' loc' :=
  ⟨h.imm, h.shape, fun i l hl => (h.locs i (hr.lt hl)).trans hl⟩

theorem VRel.keeps {M w loc M' w' loc'} (hk : Keeps M w loc M' w' loc') {a v} (h : VRel M w loc a v) : VRel M' w' loc' a v := by
  induction h with
  | bad v => exact .bad v
  | int k n => exact .int k n
  | bool b => exact .bool b
  | str s => exact .str s
  | nilp => exact .nilp
  | ptr id off b h => exact .ptr id off b (hk.loc _ _ h)
  | iptr cs off b o vals h1 h2 ih => exact .iptr cs off b o vals (fun j hj => hk.imm _ _ _ (h1 j hj)) ih
  | slnil sz s tip hs ht => exact .slnil sz s tip hs (fun id h => hk.loc _ _ (ht id h))
  | slz sz s tip a hs hn ht => exact .slz sz s tip a hs hn (fun id h => hk.loc _ _ (ht id h))
  | sl sz s tip b o cap vals hz h1 h2 hcap hnil hfull htok ih =>
    refine .sl sz s tip b o cap vals hz (fun i j hi hj => hk.imm _ _ _ (h1 i j hi hj)) ih hcap hnil hfull (fun id h => ?_)
    rcases htok id h with ⟨hl, hc⟩ | ⟨hl, cs, T, fr, hb, hs⟩
    · exact .inl ⟨hk.loc _ _ hl, hc⟩
    · obtain ⟨cs', fr', hb', hs'⟩ := hk.shape b cs T fr hb
      exact .inr ⟨hk.loc _ _ hl, cs', T, fr', hb', by omega⟩
  | msl sz id off len b cap h hl hc =>
    obtain ⟨cs, T, fr, hb, hs⟩ := hc
    obtain ⟨cs', fr', hb', hs'⟩ := hk.shape b cs T fr hb
    exact .msl sz id off len b cap (hk.loc _ _ h) hl ⟨cs', T, fr', hb', by omega⟩
  | mptr sz id i off b h => exact .mptr sz id i off b (hk.loc _ _ h)
  | agg cs vs hs h ih => exact .agg cs vs hs ih
  | tup cs vs hs h ih => exact .tup cs vs hs ih
  | fn f cs vs hs h ih => exact .fn f cs vs hs ih
  | nilf => exact .nilf
  | iface t a v h ih => exact .iface t a v ih
  | nili => exact .nili
  | nmap => exact .nmap
  | map id b h => exact .map id b (hk.loc _ _ h)
  | meth t n a v h ih => exact .meth t n a v ih

theorem Keeps.refl (M w loc) : Keeps M w loc M w loc := ⟨fun _ _ _ h => h, fun _ cs _ fr h => ⟨cs, fr, h, rfl⟩, fun _ _ h => h⟩

/-! ### tables that lie in the memory that was there -/

def pow10L : List Int := [1, 10, 100, 1000, 10000, 100000, 1000000, 10000000, 100000000, 1000000000, 10000000000, 100000000000, 1000000000000, 10000000000000, 100000000000000, 1000000000000000, 10000000000000000, 100000000000000000, 1000000000000000000, 10000000000000000000]

/-- where a program has the library's table of powers, it holds them -/
def Tabs (P : Program) (M : Mem) (w : World) : Prop := ∀ g, P.globalNamed "internal/strconv.uint64pow10" = some g → g < M.base ∧ ∃ T fr, w.heap[g]? = some (.cells (pow10L.map fun z => Value.int .u64 z).toArray T fr)

/-! ### abstract states of a function's frame -/

abbrev Slots := List (Nat × AV)

def get : Slots → Nat → AV
  | [], _ => .bad
  | (j, v) :: r, i => bif Nat.beq j i then v else get r i

def SRel (M : Mem) (w : World) (loc : Locs) (s : Slots) (tmps : Array Value) : Prop :=
  ∀ d, VRel M w loc (get s d) (tmps.getD d undef)

theorem SRel.keeps {M w loc M' w' loc'} (hk : Keeps M w loc M' w' loc') {s tmps} (h : SRel M w loc s tmps) : SRel M' w' loc' s tmps :=
  fun d => (h d).keeps hk

theorem SRel.put {M w loc s tmps} (h : SRel M w loc s tmps) {d a v} (hd : d < tmps.size) (hv : VRel M w loc a v) : SRel M w loc ((d, a) :: s) (tmps.setIfInBounds d v) := by
  intro i
  simp only [get]
  by_cases e : d = i
  · subst e
    have : (tmps.setIfInBounds d v).getD d undef = v := by simp [Array.getD, hd]
    rw [this]
    have hb : Nat.beq d d = true := by simp
    rw [hb]; exact hv
  · have hb : Nat.beq d i = false := by
      cases hq : Nat.beq d i with
      | false => rfl
      | true => exact absurd (Nat.eq_of_beq_eq_true hq) e
    rw [hb]
    have : (tmps.setIfInBounds d v).getD i undef = tmps.getD i undef := by
      simp only [Array.getD_eq_getD_getElem?, Array.getElem?_setIfInBounds]
      rw [if_neg e]
    rw [this]; exact h i

theorem SRel.sub {M w loc s s' tmps} (h : SRel M w loc s tmps) (hs : ∀ d, get s' d = get s d ∨ get s' d = .bad) : SRel M w loc s' tmps := by
  intro d
  rcases hs d with e | e
  · rw [e]; exact h d
  · rw [e]; exact .bad _

end Go.Ab
