/- A0: several of this proof's own texts, one behind the other: what each proves stands at its head. -/
import Derived.Calls
import Derived.RangeFuncLeaves
import Derived.RangeFuncRecord
import Derived.OrdersIn
import Derived.Laws.World
import Derived.Laws.Sem
import Derived.Laws.Entries
import Derived.Laws.Cells
import Derived.Laws.Wrap64
import Derived.Laws.StructEq
import Derived.Laws.BytesArg
import Derived.Lib.ConvBytes
import Derived.Deep.AppendSrc
set_option linter.unusedVariables false
set_option linter.unusedSimpArgs false
set_option linter.unusedSectionVars false
set_option maxRecDepth 100000
set_option maxHeartbeats 4000000
noncomputable section
namespace Go.Ab
inductive Tip where
 | nil | none | full | tok (id : Nat)
mutual
inductive AV : Type 1 where
 | bad
 | int (k : IntKind) (n : Int)
 | bool (b : Bool)
 | str (s : ByteArray)
 | nilp
 | ptr (id off : Nat)
 | iptr (cs : List AV) (off : Nat)
 | sl (sz : Nat) (s : Seq) (tip : Tip)
 | msl (sz id off len : Nat)
 | mptr (sz id i off : Nat)
 | agg (cs : List AV)
 | tup (vs : List AV)
 | fn (f : FuncId) (cap : List AV)
 | bfn (f : FuncId) (first : List AV)
 | nilf
 | iface (t : TypeId) (v : AV)
 | nili
 | nmap
 | map (id : Nat)
 | meth (t : TypeId) (name : String) (v : AV)
 | yld (id : Nat)
 | csl (sz id off len : Nat)
inductive Seq : Type 1 where
 | raw (l : List (List AV))
 | map {α : Type} (enc : α → List AV) (d : α) (xs : List α)
 | app (a b : Seq)
end
instance : Inhabited AV := ⟨.bad⟩
def Seq.toList : Seq → List (List AV)
 | .raw l => l
 | .map enc _ xs => xs.map enc
 | .app a b => a.toList ++ b.toList
def Seq.len : Seq → Nat
 | .raw l => l.length
 | .map _ _ xs => xs.length
 | .app a b => a.len + b.len
def Seq.getD : Seq → Nat → List AV
 | .raw l, i => l.getD i []
 | .map enc d xs, i => enc (xs.getD i d)
 | .app a b, i => if i < a.len then a.getD i else b.getD (i - a.len)
def Seq.sub : Seq → Nat → Nat → Seq
 | .raw l, lo, hi => .raw ((l.take hi).drop lo)
 | .map enc d xs, lo, hi => .map enc d ((xs.take hi).drop lo)
 | .app a b, lo, hi => .raw (((a.toList ++ b.toList).take hi).drop lo)
theorem Seq.len_eq : ∀ s : Seq, s.len = s.toList.length
 | .raw l => rfl
 | .map enc d xs => by simp [Seq.len, Seq.toList]
 | .app a b => by simp [Seq.len, Seq.toList, Seq.len_eq a, Seq.len_eq b]
theorem Seq.getD_eq : ∀ (s : Seq) (i : Nat) (h : i < s.toList.length), s.getD i = s.toList[i]
 | .raw l, i, h => by
  have h' : i < l.length := h
  simp [Seq.getD, Seq.toList, h']
 | .map enc d xs, i, h => by
  have h' : i < xs.length := by simpa [Seq.toList] using h
  simp [Seq.getD, Seq.toList, h']
 | .app a b, i, h => by
  simp only [Seq.getD, Seq.toList]
  have h' : i < a.toList.length + b.toList.length := by simpa [Seq.toList] using h
  by_cases hi : i < a.len
  ·have hi' : i < a.toList.length := by rwa [← Seq.len_eq]
   rw [if_pos hi, Seq.getD_eq a i hi', List.getElem_append_left hi']
  ·have hi' : ¬ i < a.toList.length := by rwa [← Seq.len_eq]
   rw [if_neg hi, Seq.getD_eq b (i - a.len) (by rw [Seq.len_eq]; omega), List.getElem_append_right (by omega)]
   simp [Seq.len_eq]
theorem Seq.sub_toList : ∀ (s : Seq) (lo hi : Nat), (s.sub lo hi).toList = (s.toList.take hi).drop lo
 | .raw l, lo, hi => rfl
 | .map enc d xs, lo, hi => by simp [Seq.sub, Seq.toList, List.map_drop, List.map_take]
 | .app a b, lo, hi => rfl
structure Enc (α : Type) : Type 1 where
 enc : α → AV
 spl : α → (AV → Prop) → Prop
 ok : ∀ a K, spl a K → K (enc a)
def Enc.one {α : Type} (enc : α → AV) : Enc α := ⟨enc, fun a K => K (enc a), fun _ _ h => h⟩
def findM {α : Type _} : List (ByteArray × α) → ByteArray → Option α
 | [], _ => none
 | p :: l, k => if k = p.1 then some p.2 else findM l k
def setM {α : Type _} : List (ByteArray × α) → ByteArray → α → List (ByteArray × α)
 | [], k, v => [(k, v)]
 | p :: l, k, v => if k = p.1 then (k, v) :: l else p :: setM l k v
def delM {α : Type _} : List (ByteArray × α) → ByteArray → List (ByteArray × α)
 | [], _ => []
 | p :: l, k => if k = p.1 then l else p :: delM l k
theorem delM_map {α : Type _} {β : Type _} (f : α → β) (k : ByteArray) : ∀ l : List (ByteArray × α), delM (l.map fun p => (p.1, f p.2)) k = (delM l k).map fun p => (p.1, f p.2)
 | [] => rfl
 | p :: l => by
  simp only [List.map_cons, delM]
  split
  ·rfl
  ·rw [delM_map f k l]; rfl
inductive MM : Type 1 where
 | nil
 | typed {α : Type} (E : Enc α) (l : List (ByteArray × α))
 | put (m : MM) (k : ByteArray) (v : AV)
def MM.toList : MM → List (ByteArray × AV)
 | .nil => []
 | .typed E l => l.map fun p => (p.1, E.enc p.2)
 | .put m k v => setM m.toList k v
def MM.len : MM → Nat
 | .nil => 0
 | .typed _ l => l.length
 | .put m k v => (setM m.toList k v).length
theorem MM.len_eq : ∀ m : MM, m.len = m.toList.length
 | .nil => rfl
 | .typed _ l => by simp [MM.len, MM.toList]
 | .put m k v => rfl
theorem findM_map {α : Type _} {β : Type _} (f : α → β) (k : ByteArray) : ∀ l : List (ByteArray × α), findM (l.map fun p => (p.1, f p.2)) k = (findM l k).map f
 | [] => rfl
 | p :: l => by
  simp only [List.map_cons, findM]
  split
  ·rfl
  ·exact findM_map f k l
theorem setM_map {α : Type _} {β : Type _} (f : α → β) (k : ByteArray) (v : α) : ∀ l : List (ByteArray × α), setM (l.map fun p => (p.1, f p.2)) k (f v) = (setM l k v).map fun p => (p.1, f p.2)
 | [] => rfl
 | p :: l => by
  simp only [List.map_cons, setM]
  split
  ·rfl
  ·rw [setM_map f k v l]; rfl
theorem findM_set {α : Type _} (k k' : ByteArray) (v : α) : ∀ l : List (ByteArray × α), findM (setM l k v) k' = if k' = k then some v else findM l k'
 | [] => rfl
 | p :: l => by
  simp only [setM]
  by_cases h : k = p.1
  ·rw [if_pos h]
   simp only [findM]
   by_cases h2 : k' = k
   ·rw [if_pos h2, if_pos h2]
   ·rw [if_neg h2, if_neg h2]
    rw [← h, if_neg h2]
  ·rw [if_neg h]
   simp only [findM]
   rw [findM_set k k' v l]
   by_cases h2 : k' = p.1
   ·rw [if_pos h2, if_pos h2, if_neg (fun h3 => h (by rw [← h3, h2]))]
   ·rw [if_neg h2, if_neg h2]
inductive LpSt where
 | ready | busy | done (c : Code)
def LpSt.of : LpSt → LoopState → Option Code → Prop
 | .ready, s, p => s = .ready ∧ p = none
 | .busy, s, p => s = .busy ∧ p = none
 | .done c, s, p => s = .done ∧ p = some c
abbrev Slots := List (Nat × AV)
def get : Slots → Nat → AV
 | [], _ => .bad
 | (j, v) :: r, i => bif Nat.beq j i then v else get r i
inductive AObj : Type 1 where
 | gone
 | cells (cs : List AV)
 | tok
 | arr (sz : Nat) (s : Seq)
 | siter (s : ByteArray) (pos : Nat)
 | mp (m : MM)
 | csz (id sz c : Nat)
 | mpv (m : MM) (z : List Nat × Nat)
 | mit (id : Nat) (z : List Nat × Nat) (ps : List Nat)
 | lp (N : Nat) (s : Slots) (ps : List Nat) (asg body : Code) (st : LpSt)
inductive Loc where
 | blk (b : Nat)
 | tok (b e : Nat)
 | xtok
def Loc.block? : Loc → Option Nat
 | .blk b | .tok b _ => some b
 | .xtok => none
structure Mem where
 base : Nat
 ext : Nat → Nat
abbrev Locs := Nat → Option Loc
def ImmC (M : Mem) (w : World) (b k : Nat) (v : Value) : Prop :=
 w.cell? ⟨b, k, none⟩ = some v ∧ (b < M.base ∨ k < M.ext b)
inductive VRel (M : Mem) (w : World) (loc : Locs) : AV → Value → Prop where
 | bad (v) : VRel M w loc .bad v
 | int (k n) : VRel M w loc (.int k n) (.int k n)
 | bool (b) : VRel M w loc (.bool b) (.bool b)
 | str (s) : VRel M w loc (.str s) (.string s)
 | nilp : VRel M w loc .nilp (.pointer none)
 | ptr (id off b : Nat) (h : loc id = some (.blk b)) : VRel M w loc (.ptr id off) (.pointer (some ⟨b, off, none⟩))
 | iptr (cs : List AV) (off b o : Nat) (vals : Nat → Value) (h1 : ∀ j, j < cs.length → ImmC M w b (o + j) (vals j))
   (h2 : ∀ j (hj : j < cs.length), VRel M w loc cs[j] (vals j)) : VRel M w loc (.iptr cs off) (.pointer (some ⟨b, o + off, none⟩))
 | slnil (sz : Nat) (s : Seq) (tip : Tip) (hs : s.toList = []) (ht : ∀ id, tip = .tok id → loc id = some .xtok) : VRel M w loc (.sl sz s tip) (.slice none 0 0)
 | slz (sz : Nat) (s : Seq) (tip : Tip) (a : Addr) (hs : s.toList = []) (hnil : tip ≠ .nil) (ht : ∀ id, tip = .tok id → loc id = some .xtok) : VRel M w loc (.sl sz s tip) (.slice (some a) 0 0)
 | sl (sz : Nat) (s : Seq) (tip : Tip) (b o cap : Nat) (vals : Nat → Nat → Value)
   (hz : ∀ (i : Nat) (h : i < s.toList.length), s.toList[i].length = sz)
   (h1 : ∀ i j, i < s.toList.length → j < sz → ImmC M w b (o + i * sz + j) (vals i j))
   (h2 : ∀ i j (h : i < s.toList.length) (hj : j < s.toList[i].length), VRel M w loc s.toList[i][j] (vals i j))
   (hcap : s.toList.length ≤ cap)
   (hnil : tip ≠ .nil) (hfull : tip = .full → cap = s.toList.length)
   (htok : ∀ id, tip = .tok id → (loc id = some .xtok ∧ cap = s.toList.length) ∨
    (loc id = some (.tok b (o + s.toList.length * sz)) ∧ ∃ cs T fr, w.heap[b]? = some (.cells cs T fr) ∧ o + cap * sz ≤ cs.size)) :
   VRel M w loc (.sl sz s tip) (.slice (some ⟨b, o, none⟩) s.toList.length cap)
 | msl (sz id off len b cap : Nat) (h : loc id = some (.blk b)) (hl : len ≤ cap) (hc : ∃ cs T fr, w.heap[b]? = some (.cells cs T fr) ∧ (off + cap) * sz = cs.size) :
   VRel M w loc (.msl sz id off len) (.slice (some ⟨b, off * sz, none⟩) len cap)
 | mptr (sz id i off b : Nat) (h : loc id = some (.blk b)) : VRel M w loc (.mptr sz id i off) (.pointer (some ⟨b, i * sz + off, none⟩))
 | agg (cs : List AV) (vs : Array Value) (hs : vs.size = cs.length) (h : ∀ i (h : i < cs.length), VRel M w loc cs[i] (vs[i]'(by omega))) : VRel M w loc (.agg cs) (.agg vs)
 | tup (cs : List AV) (vs : Array Value) (hs : vs.size = cs.length) (h : ∀ i (h : i < cs.length), VRel M w loc cs[i] (vs[i]'(by omega))) : VRel M w loc (.tup cs) (.tuple vs)
 | fn (f : FuncId) (cs : List AV) (vs : Array Value) (hs : vs.size = cs.length) (h : ∀ i (h : i < cs.length), VRel M w loc cs[i] (vs[i]'(by omega))) :
   VRel M w loc (.fn f cs) (.func (.func f) #[] vs)
 | bfn (f : FuncId) (cs : List AV) (vs : Array Value) (hs : vs.size = cs.length) (h : ∀ i (h : i < cs.length), VRel M w loc cs[i] (vs[i]'(by omega))) :
   VRel M w loc (.bfn f cs) (.func (.func f) vs #[])
 | nilf : VRel M w loc .nilf .nilFunc
 | iface (t : TypeId) (a : AV) (v : Value) (h : VRel M w loc a v) : VRel M w loc (.iface t a) (.iface t v)
 | nili : VRel M w loc .nili .nilIface
 | nmap : VRel M w loc .nmap (.map none)
 | map (id b : Nat) (h : loc id = some (.blk b)) : VRel M w loc (.map id) (.map (some b))
 | meth (t : TypeId) (name : String) (a : AV) (v : Value) (h : VRel M w loc a v) : VRel M w loc (.meth t name a) (.func (.method name) #[.iface t v] #[])
 | yld (id b : Nat) (h : loc id = some (.blk b)) : VRel M w loc (.yld id) (.func (.yield b) #[] #[])
 | csl (sz id off len b cap : Nat) (h : loc id = some (.blk b)) (hl : len ≤ cap) : VRel M w loc (.csl sz id off len) (.slice (some ⟨b, off, none⟩) len cap)
def soft (vs : Array Value) (fr : Nat × Nat) : Prop := ∀ k, k < vs.size → ¬ (fr.1 ≤ k ∧ k < fr.2)
def softE (sz : Nat) (vs : Array Value) (fr : Nat × Nat) : Prop := soft vs fr ∧ (sz ≠ 1 → ¬ (fr.1 ≤ vs.size ∧ vs.size < fr.2))
def Born (ents : Array MapEntry) (clock : Nat) : Prop := (ents.toList.map (·.born)).Nodup ∧ ∀ e ∈ ents.toList, e.born < clock
def ORel (M : Mem) (w : World) (loc : Locs) (l : Option Loc) : AObj → Prop
 | .gone => True
 | .cells cs => ∃ b vs T fr, l = some (.blk b) ∧ M.base ≤ b ∧ M.ext b = 0 ∧ w.heap[b]? = some (.cells vs T fr) ∧ soft vs fr ∧
   ∃ hs : vs.size = cs.length, ∀ i (h : i < cs.length), VRel M w loc cs[i] (vs[i]'(by omega))
 | .tok => l = some .xtok ∨ ∃ b e vs T fr, l = some (.tok b e) ∧ M.base ≤ b ∧ M.ext b = e ∧ w.heap[b]? = some (.cells vs T fr) ∧ soft vs fr
 | .arr sz s => ∃ b vs T fr, l = some (.blk b) ∧ M.base ≤ b ∧ M.ext b = 0 ∧ w.heap[b]? = some (.cells vs T fr) ∧ softE sz vs fr ∧
   s.toList.length * sz ≤ vs.size ∧ (∀ i (h : i < s.toList.length), s.toList[i].length = sz) ∧
   ∀ i j (h : i < s.toList.length) (hj : j < s.toList[i].length), ∃ v, vs[i * sz + j]? = some v ∧ VRel M w loc s.toList[i][j] v
 | .siter s pos => ∃ b, l = some (.blk b) ∧ M.base ≤ b ∧ M.ext b = 0 ∧ w.heap[b]? = some (.stringIter s pos)
 | .mp m => ∃ b ents clock, l = some (.blk b) ∧ M.base ≤ b ∧ M.ext b = 0 ∧ w.heap[b]? = some (.map ents clock) ∧ Born ents clock ∧
   ∃ hs : ents.size = m.toList.length, ∀ i (h : i < m.toList.length), (ents[i]'(by omega)).key = .string m.toList[i].1 ∧ VRel M w loc m.toList[i].2 (ents[i]'(by omega)).val
 | .mpv m z => ∃ b ents clock, l = some (.blk b) ∧ M.base ≤ b ∧ M.ext b = 0 ∧ w.heap[b]? = some (.map ents clock) ∧ (Born ents clock ∧ ents.toList.map (·.born) = z.1 ∧ clock = z.2) ∧
   ∃ hs : ents.size = m.toList.length, ∀ i (h : i < m.toList.length), (ents[i]'(by omega)).key = .string m.toList[i].1 ∧ VRel M w loc m.toList[i].2 (ents[i]'(by omega)).val
 | .mit id z ps => ∃ b mb seen, l = some (.blk b) ∧ M.base ≤ b ∧ M.ext b = 0 ∧ w.heap[b]? = some (.mapIter (some mb) z.2 seen z.2) ∧ loc id = some (.blk mb) ∧
   seen.toList.map some = ps.reverse.map (fun i => z.1[i]?)
 | .csz id sz c => l = some .xtok ∧ ∃ b vs T fr, loc id = some (.blk b) ∧ w.heap[b]? = some (.cells vs T fr) ∧ vs.size = c * sz
 | .lp N s ps asg body st => ∃ b rec, l = some (.blk b) ∧ M.base ≤ b ∧ M.ext b = 0 ∧ w.heap[b]? = some (.loop rec) ∧ rec.params.toList = ps ∧ rec.assign = asg ∧ rec.body = body ∧ rec.tmps.size = N ∧
   (∀ d, VRel M w loc (get s d) (rec.tmps.getD d undef)) ∧ st.of rec.state rec.pending
def Owned (loc : Locs) (H : List AObj) (b : Nat) : Prop :=
 ∃ i o l, H[i]? = some o ∧ (o = .gone → False) ∧ loc i = some l ∧ l.block? = some b
structure Rel (M : Mem) (loc : Locs) (H : List AObj) (w : World) : Prop where
 base : M.base ≤ w.heap.size
 ext : ∀ b, 0 < M.ext b → M.base ≤ b ∧ ∃ cs T fr, w.heap[b]? = some (.cells cs T fr) ∧ M.ext b ≤ cs.size
 dom : ∀ i, H.length ≤ i → loc i = none
 objs : ∀ i o, H[i]? = some o → ORel M w loc (loc i) o
 inj : ∀ i j oi oj li lj b, H[i]? = some oi → H[j]? = some oj → (oi = .gone → False) → (oj = .gone → False) → loc i = some li → loc j = some lj →
  li.block? = some b → lj.block? = some b → i = j
structure StepN (n : Nat) (M : Mem) (loc : Locs) (H : List AObj) (w : World) (M' : Mem) (loc' : Locs) (H' : List AObj) (w' : World) : Prop where
 base : M'.base = M.base
 size : w.heap.size ≤ w'.heap.size
 os : w'.os = w.os
 tape : w'.tape = w.tape
 output : w'.output = w.output
 keep : ∀ b, b < w.heap.size → ¬ Owned loc H b → w'.heap[b]? = w.heap[b]? ∧ M'.ext b = M.ext b
 imm : ∀ b k v, ImmC M w b k v → ImmC M' w' b k v
 shape : ∀ (b : Nat) (cs : Array Value) (T : TypeId) (fr : Nat × Nat), w.heap[b]? = some (Obj.cells cs T fr) → ∃ (cs' : Array Value) (fr' : Nat × Nat), w'.heap[b]? = some (Obj.cells cs' T fr') ∧ cs'.size = cs.size
 own : ∀ b, b < w.heap.size → Owned loc' H' b → Owned loc H b
 locs : ∀ i, i < n → loc' i = loc i
 len : n ≤ H'.length
abbrev Step (M : Mem) (loc : Locs) (H : List AObj) (w : World) (M' : Mem) (loc' : Locs) (H' : List AObj) (w' : World) : Prop := StepN H.length M loc H w M' loc' H' w'
theorem Step.refl (M : Mem) (loc : Locs) (H : List AObj) (w : World) : Step M loc H w M loc H w :=
 ⟨rfl, Nat.le_refl _, rfl, rfl, rfl, fun _ _ _ => ⟨rfl, rfl⟩, fun _ _ _ h => h, fun _ cs _ fr h => ⟨cs, fr, h, rfl⟩, fun _ _ h => h, fun _ _ => rfl, Nat.le_refl _⟩
theorem StepN.trans {n m M loc H w M1 loc1 H1 w1 M2 loc2 H2 w2} (h : StepN n M loc H w M1 loc1 H1 w1) (k : StepN m M1 loc1 H1 w1 M2 loc2 H2 w2) (hnm : n ≤ m) : StepN n M loc H w M2 loc2 H2 w2 where
 base := k.base.trans h.base
 size := Nat.le_trans h.size k.size
 os := k.os.trans h.os
 tape := k.tape.trans h.tape
 output := k.output.trans h.output
 keep b hb ho := by
  have h1 := h.keep b hb ho
  have h2 := k.keep b (Nat.lt_of_lt_of_le hb h.size) (fun hc => ho (h.own b hb hc))
  exact ⟨h2.1.trans h1.1, h2.2.trans h1.2⟩
 imm b k' v hi := k.imm b k' v (h.imm b k' v hi)
 shape b cs T fr hb := by
  obtain ⟨cs1, fr1, h1, e1⟩ := h.shape b cs T fr hb
  obtain ⟨cs2, fr2, h2, e2⟩ := k.shape b cs1 T fr1 h1
  exact ⟨cs2, fr2, h2, e2.trans e1⟩
 own b hb ho := h.own b hb (k.own b (Nat.lt_of_lt_of_le hb h.size) ho)
 locs i hi := (k.locs i (Nat.lt_of_lt_of_le hi hnm)).trans (h.locs i hi)
 len := Nat.le_trans hnm k.len
theorem StepN.mono {n m M loc H w M1 loc1 H1 w1} (h : StepN m M loc H w M1 loc1 H1 w1) (hnm : n ≤ m) : StepN n M loc H w M1 loc1 H1 w1 :=
 ⟨h.base, h.size, h.os, h.tape, h.output, h.keep, h.imm, h.shape, h.own, fun i hi => h.locs i (Nat.lt_of_lt_of_le hi hnm), Nat.le_trans hnm h.len⟩
theorem Step.trans {M loc H w M1 loc1 H1 w1 M2 loc2 H2 w2} (h : Step M loc H w M1 loc1 H1 w1) (k : Step M1 loc1 H1 w1 M2 loc2 H2 w2) : Step M loc H w M2 loc2 H2 w2 :=
 StepN.trans h k h.len
structure Keeps (M : Mem) (w : World) (loc : Locs) (M' : Mem) (w' : World) (loc' : Locs) : Prop where
 imm : ∀ b k v, ImmC M w b k v → ImmC M' w' b k v
 shape : ∀ (b : Nat) (cs : Array Value) (T : TypeId) (fr : Nat × Nat), w.heap[b]? = some (Obj.cells cs T fr) → ∃ (cs' : Array Value) (fr' : Nat × Nat), w'.heap[b]? = some (Obj.cells cs' T fr') ∧ cs'.size = cs.size
 loc : ∀ i l, loc i = some l → loc' i = some l
theorem Rel.lt {M loc H w} (h : Rel M loc H w) {i l} (hl : loc i = some l) : i < H.length := by
 rcases Nat.lt_or_ge i H.length with hi | hi
 ·exact hi
 ·rw [h.dom i hi] at hl; cases hl
theorem Step.keeps {M loc H w M' loc' H' w'} (h : Step M loc H w M' loc' H' w') (hr : Rel M loc H w) : Keeps M w loc M' w' loc' :=
 ⟨h.imm, h.shape, fun i l hl => (h.locs i (hr.lt hl)).trans hl⟩
theorem VRel.keeps {M w loc M' w' loc'} (hk : Keeps M w loc M' w' loc') {a v} (h : VRel M w loc a v) : VRel M' w' loc' a v := by
 induction h with
 | bad v => exact .bad v
 | int k n => exact .int k n
 | bool b => exact .bool b
 | str s => exact .str s
 | nilp => exact .nilp
 | ptr id off b h => exact .ptr id off b (hk.loc _ _ h)
 | iptr cs off b o vals h1 h2 ih => exact .iptr cs off b o vals (fun j hj => hk.imm _ _ _ (h1 j hj)) ih
 | slnil sz s tip hs ht => exact .slnil sz s tip hs (fun id h => hk.loc _ _ (ht id h))
 | slz sz s tip a hs hn ht => exact .slz sz s tip a hs hn (fun id h => hk.loc _ _ (ht id h))
 | sl sz s tip b o cap vals hz h1 h2 hcap hnil hfull htok ih =>
  refine .sl sz s tip b o cap vals hz (fun i j hi hj => hk.imm _ _ _ (h1 i j hi hj)) ih hcap hnil hfull (fun id h => ?_)
  rcases htok id h with ⟨hl, hc⟩ | ⟨hl, cs, T, fr, hb, hs⟩
  ·exact .inl ⟨hk.loc _ _ hl, hc⟩
  ·obtain ⟨cs', fr', hb', hs'⟩ := hk.shape b cs T fr hb
   exact .inr ⟨hk.loc _ _ hl, cs', T, fr', hb', by omega⟩
 | msl sz id off len b cap h hl hc =>
  obtain ⟨cs, T, fr, hb, hs⟩ := hc
  obtain ⟨cs', fr', hb', hs'⟩ := hk.shape b cs T fr hb
  exact .msl sz id off len b cap (hk.loc _ _ h) hl ⟨cs', T, fr', hb', by omega⟩
 | mptr sz id i off b h => exact .mptr sz id i off b (hk.loc _ _ h)
 | agg cs vs hs h ih => exact .agg cs vs hs ih
 | tup cs vs hs h ih => exact .tup cs vs hs ih
 | fn f cs vs hs h ih => exact .fn f cs vs hs ih
 | bfn f cs vs hs h ih => exact .bfn f cs vs hs ih
 | nilf => exact .nilf
 | iface t a v h ih => exact .iface t a v ih
 | nili => exact .nili
 | nmap => exact .nmap
 | map id b h => exact .map id b (hk.loc _ _ h)
 | meth t n a v h ih => exact .meth t n a v ih
 | yld id b h => exact .yld id b (hk.loc _ _ h)
 | csl sz id off len b cap h hl => exact .csl _ _ _ _ b cap (hk.loc _ _ h) hl
def pow10L : List Int := [1, 10, 100, 1000, 10000, 100000, 1000000, 10000000, 100000000, 1000000000, 10000000000, 100000000000, 1000000000000, 10000000000000, 100000000000000, 1000000000000000, 10000000000000000, 100000000000000000, 1000000000000000000, 10000000000000000000]
structure Tabs (P : Program) (M : Mem) (w : World) : Prop where
 pow : ∀ g, P.globalNamed "internal/strconv.uint64pow10" = some g → g < M.base ∧ ∃ T fr, w.heap[g]? = some (.cells (pow10L.map fun z => Value.int .u64 z).toArray T fr)
 max : ∀ g, P.globalNamed "internal/bytealg.MaxLen" = some g → g < M.base ∧ ∃ m T fr, w.heap[g]? = some (.cells #[.int .i64 m] T fr)
def SRel (M : Mem) (w : World) (loc : Locs) (s : Slots) (tmps : Array Value) : Prop :=
 ∀ d, VRel M w loc (get s d) (tmps.getD d undef)
theorem SRel.keeps {M w loc M' w' loc'} (hk : Keeps M w loc M' w' loc') {s tmps} (h : SRel M w loc s tmps) : SRel M' w' loc' s tmps :=
 fun d => (h d).keeps hk
theorem SRel.put {M w loc s tmps} (h : SRel M w loc s tmps) {d a v} (hd : d < tmps.size) (hv : VRel M w loc a v) : SRel M w loc ((d, a) :: s) (tmps.setIfInBounds d v) := by
 intro i
 simp only [get]
 by_cases e : d = i
 ·subst e
  have : (tmps.setIfInBounds d v).getD d undef = v := by simp [Array.getD, hd]
  rw [this]
  have hb : Nat.beq d d = true := by simp
  rw [hb]; exact hv
 ·have hb : Nat.beq d i = false := by
   cases hq : Nat.beq d i with
   | false => rfl
   | true => exact absurd (Nat.eq_of_beq_eq_true hq) e
  rw [hb]
  have : (tmps.setIfInBounds d v).getD i undef = tmps.getD i undef := by
   simp only [Array.getD_eq_getD_getElem?, Array.getElem?_setIfInBounds]
   rw [if_neg e]
  rw [this]; exact h i
theorem SRel.sub {M w loc s s' tmps} (h : SRel M w loc s tmps) (hs : ∀ d, get s' d = get s d ∨ get s' d = .bad) : SRel M w loc s' tmps := by
 intro d
 rcases hs d with e | e
 ·rw [e]; exact h d
 ·rw [e]; exact .bad _
end Go.Ab
end

noncomputable section
namespace Go.Ab
structure Ret where
 X : Type
 av : List AV → List AObj → X → AV
 hp : List AV → List AObj → X → List AObj
structure Cfg where
 N : Nat
 live : Nat → List Nat
 cut : Nat → Bool
 mu : Nat → Bool
 ret : FuncId → List Ret
 rnd : Bool := false
 px : Nat → Bool := fun _ => false
def condP (b : Bool) (A B : Prop) : Prop := match b with | true => A | false => B
def needP (p A : Prop) : Prop := p ∧ (p → A)
def optP {α : Type 1} (o : Option α) (K : α → Prop) : Prop := match o with | some a => K a | none => False
def natP (o : Option Nat) (K : Nat → Prop) : Prop := match o with | some a => K a | none => False
def chk (b : Bool) (A : Prop) : Prop := match b with | true => A | false => False
def ofCell : Value → AV
 | .int k n => .int k n
 | .bool b => .bool b
 | .string s => .str s
 | .pointer none => .nilp
 | .slice none 0 0 => .sl 0 (.raw []) .nil
 | .nilFunc => .nilf
 | .nilIface => .nili
 | .map none => .nmap
 | _ => .bad
def ofConst : Value → AV
 | .agg cs => .agg (cs.toList.map ofCell)
 | v => ofCell v
def ev (s : Slots) : Operand → AV
 | .tmp t => get s t
 | .const v => ofConst v
 | .global _ => .bad
 | .func f => .fn f []
def cellsOf : AV → Option (List AV)
 | .agg cs => some cs
 | .bad | .tup _ => none
 | v => some [v]
def oneAV : AV → Bool
 | .agg _ | .tup _ | .bad => false
 | _ => true
def isAggD : TypeDesc → Bool
 | .struct _ | .array _ _ => true
 | _ => false
def sizeT (P : Program) (t : TypeId) : Option Nat := (P.info? t).map (·.size)
def bytesT (P : Program) (t : TypeId) : Option Nat := (P.info? t).map (·.bytes)
def aggT (P : Program) (t : TypeId) : Option Bool := (P.underlying t).map isAggD
def elemT (P : Program) (t : TypeId) : Option TypeId := match P.underlying t with | some (.slice e) => some e | _ => none
def zeroT (P : Program) (t : TypeId) : Option (List AV) := ((P.info? t).bind (·.zero)).map fun v => v.cells.toList.map ofCell
def fieldT (P : Program) (t : TypeId) (f : Nat) : Option (Nat × TypeId) :=
 match P.underlying t with
 | some (.struct fs) => match fs[f]? with
  | some fd => match sizeT P fd.type with
   | some (_ + 1) => some (fd.offset, fd.type)
   | _ => none
  | none => none
 | _ => none
def partOf (P : Program) (t : TypeId) (cs : List AV) (off : Nat) : Option AV :=
 match aggT P t, sizeT P t with
 | some true, some n => bif Nat.ble (off + n) cs.length then some (.agg ((cs.drop off).take n)) else none
 | some false, some _ => cs[off]?
 | _, _ => none
def splice (cs : List AV) (off : Nat) (xs : List AV) : List AV := cs.take off ++ (xs ++ cs.drop (off + xs.length))
def fillA (place : Nat → Option (Nat × Nat)) (cells : List AV) : List (Nat × AV) → Option (List AV)
 | [] => some cells
 | (i, v) :: rest =>
  match place i, cellsOf v with
  | some (off, size), some vs => bif Nat.beq vs.length size && Nat.ble (off + size) cells.length then fillA place (splice cells off vs) rest else none
  | _, _ => none
def chunks (sz : Nat) : Nat → List AV → List (List AV)
 | 0, _ => []
 | n + 1, cs => cs.take sz :: chunks sz n (cs.drop sz)
def aload (P : Program) (t : TypeId) (v : AV) (H : List AObj) (K : AV → Prop) : Prop :=
 match v with
 | .ptr id off => match H[id]? with
  | some (.cells cs) => optP (partOf P t cs off) K
  | _ => False
 | .iptr cs off => optP (partOf P t cs off) K
 | .mptr sz id i off => match H[id]? with
  | some (.arr sz' s) => chk (Nat.beq sz sz') (needP (i < s.len) (chk (Nat.ble (off + 1) sz) (optP (partOf P t (s.getD i) off) K)))
  | _ => False
 | _ => False
def astore (P : Program) (t : TypeId) (v x : AV) (H : List AObj) (K : List AObj → Prop) : Prop :=
 match cellsOf x, sizeT P t with
 | some xs, some n => chk (Nat.beq xs.length n && xs.all oneAV) <| match v with
  | .ptr id off => match H[id]? with
   | some (.cells cs) => chk (Nat.ble (off + n) cs.length) (K (H.set id (.cells (splice cs off xs))))
   | _ => False
  | .mptr sz id i off => match H[id]? with
   | some (.arr sz' s) => chk (Nat.beq sz sz' && Nat.ble (off + n) sz) (needP (i < s.len) (K (H.set id (.arr sz (.raw (s.toList.set i (splice (s.getD i) off xs)))))))
   | _ => False
  | _ => False
 | _, _ => False
def intOp (op : BinOp) (k : IntKind) (a b : Int) (K : AV → Prop) : Prop :=
 match op with
 | .add => K (.int k (k.wrap (a + b)))
 | .sub => K (.int k (k.wrap (a - b)))
 | .mul => K (.int k (k.wrap (a * b)))
 | .quo => needP (b ≠ 0) (K (.int k (k.wrap (a.tdiv b))))
 | .rem => needP (b ≠ 0) (K (.int k (a.tmod b)))
 | .and => K (.int k (k.wrap (BitVec.ofInt k.bits a &&& BitVec.ofInt k.bits b).toNat))
 | .or => K (.int k (k.wrap (BitVec.ofInt k.bits a ||| BitVec.ofInt k.bits b).toNat))
 | .xor => K (.int k (k.wrap (BitVec.ofInt k.bits a ^^^ BitVec.ofInt k.bits b).toNat))
 | .andNot => K (.int k (k.wrap (BitVec.ofInt k.bits a &&& ~~~BitVec.ofInt k.bits b).toNat))
 | .eql => K (.bool (a == b))
 | .neq => K (.bool (a != b))
 | .lss => K (.bool (decide (a < b)))
 | .leq => K (.bool (decide (a ≤ b)))
 | .gtr => K (.bool (decide (a > b)))
 | .geq => K (.bool (decide (a ≥ b)))
 | .shl | .shr => False
def shiftOp (op : BinOp) (k : IntKind) (a b : Int) (K : AV → Prop) : Prop :=
 match op with
 | .shl => needP (0 ≤ b) (K (.int k (k.wrap (a * 2 ^ (min b.toNat k.bits)))))
 | .shr => needP (0 ≤ b) (K (.int k (a.fdiv (2 ^ (min b.toNat k.bits)))))
 | _ => False
def strOp (op : BinOp) (x y : ByteArray) (K : AV → Prop) : Prop :=
 match op with
 | .add => needP (((x.size + y.size : Nat) : Int) ≤ 9223372036854775807) (K (.str (x ++ y)))
 | .eql => K (.bool (x.toList == y.toList))
 | .neq => K (.bool (!(x.toList == y.toList)))
 | .lss => K (.bool (Op.bytesLess x.toList y.toList))
 | .leq => K (.bool (Op.bytesLess x.toList y.toList || x.toList == y.toList))
 | .gtr => K (.bool (!(Op.bytesLess x.toList y.toList || x.toList == y.toList)))
 | .geq => K (.bool (!Op.bytesLess x.toList y.toList))
 | _ => False
def nilSl (s : Seq) (tip : Tip) (K : Bool → Prop) : Prop :=
 match tip with
 | .nil => K true
 | .full => ∀ b : Bool, (b = true → s.toList = []) → K b
 | _ => ∀ b : Bool, (b = true → s.toList = []) → K b
def ptrish (P : Program) (t : TypeId) : Bool := match P.underlying t with | some (.pointer _) => true | _ => false
def slish (P : Program) (t : TypeId) : Bool := match P.underlying t with | some (.slice _) => true | _ => false
def mapish (P : Program) (t : TypeId) : Bool := match P.underlying t with | some (.map _ _) => true | _ => false
def boolish (P : Program) (t : TypeId) : Bool := match P.underlying t with | some .bool => true | _ => false
def boolP (o : Option Bool) (K : Bool → Prop) : Prop := match o with | some b => K b | none => False
def kindEq : IntKind → IntKind → Bool
 | .i8, .i8 | .i16, .i16 | .i32, .i32 | .i64, .i64 | .u8, .u8 | .u16, .u16 | .u32, .u32 | .u64, .u64 => true
 | _, _ => false
def cellEq (d : Option TypeDesc) (a b : AV) : Option Bool :=
 match d, a, b with
 | some (.int _), .int k x, .int k' y => bif kindEq k k' then some (x == y) else none
 | some .string, .str x, .str y => some (x.toList == y.toList)
 | some .bool, .bool x, .bool y => some (x == y)
 | _, _, _ => none
def aeqF (P : Program) : List Field → List AV → List AV → Option Bool
 | [], _, _ => some true
 | f :: r, xs, ys => bif f.name == "_" then none else match partOf P f.type xs f.offset, partOf P f.type ys f.offset with
  | some a, some b => match cellEq (P.underlying f.type) a b, aeqF P r xs ys with
   | some e, some q => some (e && q)
   | _, _ => none
  | _, _ => none
def plainStruct (P : Program) (t : TypeId) : Bool := !P.stoodInHeld t && !P.eqGuardType P.depth t
def fieldsT (P : Program) (t : TypeId) : List Field := match P.underlying t with | some (.struct fs) => fs.toList | _ => []
def structT' (P : Program) (t : TypeId) : Bool := match P.underlying t with | some (.struct _) => true | _ => false
def arr3 (P : Program) (t : TypeId) : Option TypeId := match P.underlying t with
 | some (.array 3 e) => match P.underlying e, sizeT P e, aggT P e with
  | some (.int _), some 1, some false => some e
  | _, _, _ => none
 | _ => none
def eq3 (P : Program) (e : TypeId) : List AV → List AV → Option Bool
 | [a0, a1, a2], [b0, b1, b2] => match cellEq (P.underlying e) a0 b0, cellEq (P.underlying e) a1 b1, cellEq (P.underlying e) a2 b2 with
  | some x, some y, some z => some (x && (y && z))
  | _, _, _ => none
 | _, _ => none
def aeqAgg (P : Program) (t : TypeId) (xs ys : List AV) (K : Bool → Prop) : Prop :=
 match arr3 P t with
 | some e => chk (!P.eqGuardType P.depth t) (boolP (eq3 P e xs ys) K)
 | none => chk (structT' P t && plainStruct P t) (boolP (aeqF P (fieldsT P t) xs ys) K)
def aeq (P : Program) (t : TypeId) (x y : AV) (K : Bool → Prop) : Prop :=
 match x, y with
 | .bool a, .bool b => chk (boolish P t) (K (a == b))
 | .nilp, .nilp => chk (ptrish P t) (K true)
 | .nilp, .ptr _ _ => chk (ptrish P t) (K false)
 | .nilp, .iptr _ _ => chk (ptrish P t) (K false)
 | .ptr _ _, .nilp => chk (ptrish P t) (K false)
 | .iptr _ _, .nilp => chk (ptrish P t) (K false)
 | .sl _ s tip, .sl _ _ .nil => chk (slish P t) (nilSl s tip K)
 | .agg xs, .agg ys => aeqAgg P t xs ys K
 | .nmap, .nmap => chk (mapish P t) (K true)
 | .map _, .nmap => chk (mapish P t) (K false)
 | _, _ => False
def isShift : BinOp → Bool
 | .shl | .shr => true
 | _ => false
def abin (P : Program) (op : BinOp) (t : TypeId) (x y : AV) (K : AV → Prop) : Prop :=
 match x, y with
 | .int k a, .int k' b => match isShift op with
  | true => shiftOp op k a b K
  | false => chk (kindEq k k') (intOp op k a b K)
 | .str a, .str b => strOp op a b K
 | x, y => match op with
  | .eql => aeq P t x y fun b => K (.bool b)
  | .neq => aeq P t x y fun b => K (.bool (!b))
  | _ => False
def aun (op : UnOp) (x : AV) (K : AV → Prop) : Prop :=
 match op, x with
 | .neg, .int k n => K (.int k (k.wrap (0 - n)))
 | .not, .bool b => K (.bool (!b))
 | _, _ => False
def encB (b : UInt8) : List AV := [.int .u8 b.toNat]
def cellByte : List AV → UInt8
 | [.int _ n] => UInt8.ofNat n.toNat
 | _ => 0
def bytesOf (s : Seq) : ByteArray := ⟨(s.toList.map cellByte).toArray⟩
def allBytes (s : Seq) : Prop := ∀ x ∈ s.toList, ∃ n : Int, x = [AV.int .u8 n]
def bytesSeq (s : ByteArray) : Seq := .map encB 0 s.data.toList
def aconv (P : Program) (src dst : TypeId) (x : AV) (K : AV → Prop) : Prop :=
 match P.underlying src, P.underlying dst, x with
 | some _, some (.int k), .int _ n => K (.int k (k.wrap n))
 | some _, some .string, .str s => K (.str s)
 | some _, some (.slice e), .str s => match P.underlying e with
  | some (.int .u8) => K (.sl 1 (bytesSeq s) .none)
  | _ => False
 | some (.slice e), some .string, .sl sz s _ => match P.underlying e with
  | some (.int .u8) => chk (Nat.beq sz 1 || Nat.beq sz 0) (needP (allBytes s) (K (.str (bytesOf s))))
  | _ => False
 | _, _, _ => False
def tailTip : Tip → Tip
 | .full => .full
 | _ => .none
def rowLen (H : List AObj) (id : Nat) : Nat := match H[id]? with
 | some (.arr _ d) => d.len
 | _ => 0
def sameSz (H : List AObj) (id sz : Nat) : Bool := match H[id]? with
 | some (.arr sz' _) => Nat.beq sz sz' && Nat.ble 1 sz
 | _ => false
def asli (P : Program) (mu : Bool) (H : List AObj) (t : TypeId) (x : AV) (lo hi mx : Option AV) (K : AV → Prop) : Prop :=
 match P.underlying t, x, lo, hi, mx with
 | some .string, .str s, lo, hi, none => match lo, hi with
  | none, none => K (.str (s.extract 0 s.size))
  | some (.int _ l), none => needP (0 ≤ l ∧ l ≤ s.size) (K (.str (s.extract l.toNat s.size)))
  | none, some (.int _ h) => needP (0 ≤ h ∧ h ≤ s.size) (K (.str (s.extract 0 h.toNat)))
  | some (.int _ l), some (.int _ h) => needP (0 ≤ l ∧ l ≤ h ∧ h ≤ s.size) (K (.str (s.extract l.toNat h.toNat)))
  | _, _ => False
 | some (.slice e), .sl sz s tip, lo, hi, none => match sizeT P e with
  | some n => chk (Nat.beq n sz || Nat.beq sz 0) <| match lo, hi with
   | none, none => K (.sl sz s tip)
   | some (.int _ l), none => needP (0 ≤ l ∧ l ≤ s.len) (K (.sl sz (s.sub l.toNat s.len) (tailTip tip)))
   | none, some (.int _ h) => needP (0 ≤ h ∧ h ≤ s.len) (K (.sl sz (s.sub 0 h.toNat) .none))
   | some (.int _ l), some (.int _ h) => needP (0 ≤ l ∧ l ≤ h ∧ h ≤ s.len) (K (.sl sz (s.sub l.toNat h.toNat) .none))
   | _, _ => False
  | _ => False
 | some (.slice e), .sl sz s _, lo, some (.int _ h), some (.int _ m) => match sizeT P e with
  | some n => chk (Nat.beq n sz || Nat.beq sz 0) <| match lo with
   | none => needP (0 ≤ h ∧ h ≤ s.len ∧ m = h) (K (.sl sz (s.sub 0 h.toNat) .full))
   | some (.int _ l) => needP (0 ≤ l ∧ l ≤ h ∧ h ≤ s.len ∧ m = h) (K (.sl sz (s.sub l.toNat h.toNat) .full))
   | _ => False
  | _ => False
 | some (.slice e), .msl sz id off len, lo, hi, none => match sizeT P e with
  | some n => chk (Nat.beq n sz) <| match lo, hi with
   | none, none => K (.msl sz id off len)
   | some (.int _ l), none => match mu with
    | false => needP (0 ≤ l ∧ l < (len : Int)) (K (.msl sz id (off + l.toNat) (len - l.toNat)))
    | true => needP (0 ≤ l ∧ l ≤ (len : Int)) (condP (decide (l < (len : Int))) (K (.msl sz id (off + l.toNat) (len - l.toNat))) (K (.sl sz (.raw []) .none)))
   | none, some (.int _ h) => match mu with
    | false => needP (0 ≤ h ∧ h ≤ (len : Int)) (K (.msl sz id off h.toNat))
    | true => chk (sameSz H id sz) <| needP (0 ≤ h ∧ (off : Int) + h ≤ (rowLen H id : Int)) (K (.msl sz id off h.toNat))
   | some (.int _ l), some (.int _ h) => match mu with
    | false => needP (0 ≤ l ∧ l < (len : Int) ∧ l ≤ h ∧ h ≤ (len : Int)) (K (.msl sz id (off + l.toNat) (h.toNat - l.toNat)))
    | true => chk (sameSz H id sz) <| needP (0 ≤ l ∧ l < h ∧ (off : Int) + h ≤ (rowLen H id : Int)) (K (.msl sz id (off + l.toNat) (h.toNat - l.toNat)))
   | _, _ => False
  | _ => False
 | some (.slice e), .msl sz _ _ len, some (.int _ l), some (.int _ h), some (.int _ m) => match sizeT P e with
  | some n => chk (Nat.beq n sz) <| needP (0 ≤ l ∧ l ≤ h ∧ h ≤ m ∧ m ≤ (len : Int)) (K .bad)
  | _ => False
 | some (.array n e), .ptr id off, lo, hi, none => match sizeT P e, lo, hi with
  | some sz, none, some (.int _ h) => needP (0 ≤ h ∧ h ≤ (n : Int)) (K (.csl sz id off h.toNat))
  | some sz, none, none => K (.csl sz id off n)
  | _, _, _ => False
 | _, _, _, _, _ => False
def abox (v : AV) (H : List AObj) (K : AV → List AObj → Prop) : Prop :=
 match cellsOf v with
 | some cs => K (.ptr H.length 0) (H ++ [.cells cs])
 | none => False
def placeT (P : Program) (fs : Array Field) (i : Nat) : Option (Nat × Nat) :=
 match fs[i]? with
 | some f => (sizeT P f.type).map fun n => (f.offset, n)
 | none => none
def abuild (P : Program) (t : TypeId) (parts : List (Nat × AV)) (K : AV → Prop) : Prop :=
 match P.underlying t, zeroT P t with
 | some (.struct fs), some z =>
  match fillA (placeT P fs) z parts with
  | some cs => chk (fs.all fun f => (sizeT P f.type).isSome) (K (.agg cs))
  | none => False
 | some (.array _ e), some z =>
  match sizeT P e with
  | some n => match fillA (fun i => some (i * n, n)) z parts with
   | some cs => K (.agg cs)
   | none => False
  | none => False
 | _, _ => False
def abuildSlice (P : Program) (t : TypeId) (len : Nat) (parts : List (Nat × AV)) (K : AV → Prop) : Prop :=
 match P.underlying t with
 | some (.slice e) => match sizeT P e, zeroT P e with
  | some n, some z => chk (Nat.ble 1 n && Nat.beq z.length n && Nat.ble (len * n) (2 ^ 24)) <|
   match fillA (fun i => some (i * n, n)) (List.replicate len z).flatten parts with
   | some cs => K (.sl n (.raw (chunks n len cs)) .full)
   | none => False
  | _, _ => False
 | _ => False
def abuildM (P : Program) (t : TypeId) (len : Nat) (parts : List (Nat × AV)) (H : List AObj) (K : AV → List AObj → Prop) : Prop :=
 match P.underlying t with
 | some (.slice e) => match sizeT P e, zeroT P e with
  | some n, some z => chk (Nat.ble 1 n && Nat.beq z.length n && Nat.ble (len * n) (2 ^ 24)) <|
   match fillA (fun i => some (i * n, n)) (List.replicate len z).flatten parts with
   | some cs => K (.msl n H.length 0 len) (H ++ [.arr n (.raw (chunks n len cs))])
   | none => False
  | _, _ => False
 | _ => False
def aconvM (P : Program) (src dst : TypeId) (x : AV) (H : List AObj) (K : AV → List AObj → Prop) : Prop :=
 match P.underlying src, P.underlying dst, x with
 | some _, some (.slice e), .str s => match P.underlying e with
  | some (.int .u8) => K (.msl 1 H.length 0 s.size) (H ++ [.arr 1 (bytesSeq s)])
  | _ => False
 | some (.slice _), some (.slice e), .msl 1 id 0 len => chk (Nat.beq src dst) <| match P.underlying e, H[id]? with
  | some (.int .u8), some (.arr 1 q) => chk (Nat.beq len q.len) (K (.sl 1 q .none) (H.set id .gone))
  | _, _ => False
 | _, _, _ => False
def amakeSlice (P : Program) (mu : Bool) (t : TypeId) (l c : AV) (H : List AObj) (K : AV → List AObj → Prop) : Prop :=
 match P.underlying t, l, c with
 | some (.slice e), .int .i64 l, .int .i64 c => match sizeT P e, bytesT P e, zeroT P e with
  | some n, some by_, some z => chk (Nat.ble 1 n && Nat.beq z.length n) <|
   needP (0 ≤ l ∧ l ≤ c ∧ c ≤ 9223372036854775807 ∧ by_ * c ≤ 281474976710656) <| match mu with
    | true => K (.msl n H.length 0 l.toNat) (H ++ [.arr n (.raw (List.replicate l.toNat z))])
    | false => K (.sl n (.raw (List.replicate l.toNat z)) (.tok H.length)) (H ++ [.tok])
  | _, _, _ => False
 | _, _, _ => False
def methodOf (P : Program) (t : TypeId) (name : String) : Option FuncId :=
 match (P.info? t).bind (fun i => i.methods.find? (·.name == name)) with
 | some m => match m.path.isEmpty, m.func, P.underlying t with
  | true, some (_, false), some (.pointer _) => none
  | true, some (f, false), some _ => some f
  | true, some (f, true), some (.pointer _) => some f
  | _, _, _ => none
 | none => none
def anilCheck (P : Program) (v : AV) (K : AV → Prop) : Prop :=
 match v with
 | .ptr .. | .iptr .. | .mptr .. | .fn .. | .bfn .. | .iface .. | .yld .. => K v
 | .meth t name _ => chk (methodOf P t name).isSome (K v)
 | _ => False
def afieldAddr (P : Program) (t : TypeId) (x : AV) (f : Nat) (K : AV → Prop) : Prop :=
 match fieldT P t f with
 | some (o, _) => match x with
  | .ptr id off => K (.ptr id (off + o))
  | .iptr cs off => K (.iptr cs (off + o))
  | .mptr sz id i off => K (.mptr sz id i (off + o))
  | _ => False
 | none => False
def afield (P : Program) (t : TypeId) (x : AV) (f : Nat) (K : AV → Prop) : Prop :=
 match P.underlying t, x with
 | some (.struct fs), .agg cs => match fs[f]? with
  | some fd => optP (partOf P fd.type cs fd.offset) K
  | none => False
 | _, _ => False
def aindexAddr (P : Program) (t : TypeId) (x i : AV) (K : AV → Prop) : Prop :=
 match P.underlying t, x, i with
 | some (.slice e), .sl sz s _, .int _ i => match sizeT P e with
  | some n => chk (Nat.beq n sz || Nat.beq sz 0) (needP (0 ≤ i ∧ i < (s.len : Int)) (K (.iptr (s.getD i.toNat) 0)))
  | none => False
 | some (.slice e), .msl sz id off len, .int _ i => match sizeT P e with
  | some n => chk (Nat.beq n sz) (needP (0 ≤ i ∧ i < (len : Int)) (K (.mptr sz id (off + i.toNat) 0)))
  | none => False
 | some (.array n e), .ptr id off, .int _ i => match sizeT P e with
  | some sz => needP (0 ≤ i ∧ i < (n : Int)) (K (.ptr id (off + i.toNat * sz)))
  | none => False
 | some (.array n e), .iptr cs off, .int _ i => match sizeT P e with
  | some sz => needP (0 ≤ i ∧ i < (n : Int)) (K (.iptr cs (off + i.toNat * sz)))
  | none => False
 | some (.slice e), .csl sz id off len, .int _ i => match sizeT P e with
  | some n => chk (Nat.beq n sz) (needP (0 ≤ i ∧ i < (len : Int)) (K (.ptr id (off + i.toNat * sz))))
  | none => False
 | _, _, _ => False
def aindex (P : Program) (t : TypeId) (x i : AV) (K : AV → Prop) : Prop :=
 match P.underlying t, x, i with
 | some .string, .str s, .int _ i => needP (0 ≤ i ∧ i < (s.size : Int)) (K (.int .u8 (s.data.toList.getD i.toNat 0).toNat))
 | some (.array n e), .agg cs, .int _ i => match sizeT P e with
  | some sz => needP (0 ≤ i ∧ i < (n : Int)) (optP (partOf P e cs (i.toNat * sz)) K)
  | none => False
 | _, _, _ => False
def aextract (x : AV) (i : Nat) (K : AV → Prop) : Prop :=
 match x with
 | .tup vs => optP vs[i]? K
 | _ => False
def plainFn (P : Program) (f : FuncId) : Bool :=
 match P.funcs[f]? with
 | some fn => fn.body.isSome && !(fn.name == "runtime.NumGoroutine")
 | none => false
def VRels (M : Mem) (w : World) (loc : Locs) (as : List AV) (vs : Array Value) : Prop :=
 ∃ hs : vs.size = as.length, ∀ i (h : i < as.length), VRel M w loc as[i] (vs[i]'(by omega))
def ASpec (P : Program) (f : FuncId) (args : List AV) (H : List AObj) (Post : AV → List AObj → Prop) : Prop :=
 ∀ M loc w (vs : Array Value), Tabs P M w → Rel M loc H w → VRels M w loc args vs → Calls P f vs w fun e w' =>
  ∃ v r H' M' loc', e = .returned v ∧ Post r H' ∧ Rel M' loc' H' w' ∧ VRel M' w' loc' r v ∧ Step M loc H w M' loc' H' w'
theorem ASpec.mono {P f args H Post Post'} (h : ASpec P f args H Post) (hp : ∀ r H', Post r H' → Post' r H') : ASpec P f args H Post' :=
 fun M loc w vs ht hr hv => (h M loc w vs ht hr hv).mono fun _ _ ⟨v, r, H', M', loc', he, hP, rest⟩ => ⟨v, r, H', M', loc', he, hp _ _ hP, rest⟩
def ASpecX (P : Program) (f : FuncId) (args : List AV) (H : List AObj) (Post PX : AV → List AObj → Prop) : Prop :=
 ∀ M loc w (vs : Array Value), Tabs P M w → Rel M loc H w → VRels M w loc args vs → Calls P f vs w fun e w' =>
  (∃ v r H' M' loc', e = .returned v ∧ Post r H' ∧ Rel M' loc' H' w' ∧ VRel M' w' loc' r v ∧ Step M loc H w M' loc' H' w') ∨
  ∃ v r H' M' loc', e = .panicked [{ v, recovered := false }] ∧ PX r H' ∧ Rel M' loc' H' w' ∧ VRel M' w' loc' r v ∧ Step M loc H w M' loc' H' w'
theorem ASpecX.mono {P f args H Post Post' PX PX'} (h : ASpecX P f args H Post PX) (hp : ∀ r H', Post r H' → Post' r H') (hx : ∀ r H', PX r H' → PX' r H') : ASpecX P f args H Post' PX' :=
 fun M loc w vs ht hr hv => (h M loc w vs ht hr hv).mono fun _ _ hh => by
  rcases hh with ⟨v, r, H', M', loc', he, hP, rest⟩ | ⟨v, r, H', M', loc', he, hP, rest⟩
  ·exact .inl ⟨v, r, H', M', loc', he, hp _ _ hP, rest⟩
  ·exact .inr ⟨v, r, H', M', loc', he, hx _ _ hP, rest⟩
theorem ASpecX.of {P f args H Post PX} (h : ASpec P f args H Post) : ASpecX P f args H Post PX :=
 fun M loc w vs ht hr hv => (h M loc w vs ht hr hv).mono fun _ _ hh => .inl hh
def endE : Bool → Value → Ending
 | true, v => .returned v
 | false, v => .panicked [{ v, recovered := false }]
def ASpecE (P : Program) (f : FuncId) (args : List AV) (H : List AObj) (Post : Bool → AV → List AObj → Prop) : Prop :=
 ∀ M loc w (vs : Array Value), Tabs P M w → Rel M loc H w → VRels M w loc args vs → Calls P f vs w fun e w' =>
  ∃ b v r H' M' loc', e = endE b v ∧ Post b r H' ∧ Rel M' loc' H' w' ∧ VRel M' w' loc' r v ∧ Step M loc H w M' loc' H' w'
def bothE (Post PX : AV → List AObj → Prop) : Bool → AV → List AObj → Prop
 | true => Post
 | false => PX
theorem ASpecE.x {P f args H Post PX} (h : ASpecE P f args H (bothE Post PX)) : ASpecX P f args H Post PX :=
 fun M loc w vs ht hr hv => (h M loc w vs ht hr hv).mono fun _ _ ⟨b, v, r, H', M', loc', he, hP, rest⟩ => by
  cases b with
  | true => exact .inl ⟨v, r, H', M', loc', he, hP, rest⟩
  | false => exact .inr ⟨v, r, H', M', loc', he, hP, rest⟩
theorem ASpecX.e {P f args H Post PX} (h : ASpecX P f args H Post PX) : ASpecE P f args H (bothE Post PX) :=
 fun M loc w vs ht hr hv => (h M loc w vs ht hr hv).mono fun _ _ hh => by
  rcases hh with ⟨v, r, H', M', loc', he, hP, rest⟩ | ⟨v, r, H', M', loc', he, hP, rest⟩
  ·exact ⟨true, v, r, H', M', loc', he, hP, rest⟩
  ·exact ⟨false, v, r, H', M', loc', he, hP, rest⟩
theorem ASpec.e {P f args H Post} (h : ASpec P f args H Post) : ASpecE P f args H (bothE Post fun _ _ => False) := (ASpecX.of h).e
theorem ASpecE.r {P f args H Post} (h : ASpecE P f args H (bothE Post fun _ _ => False)) : ASpec P f args H Post :=
 fun M loc w vs ht hr hv => (h M loc w vs ht hr hv).mono fun _ _ ⟨b, v, r, H', M', loc', he, hP, rest⟩ => by
  cases b with
  | true => exact ⟨v, r, H', M', loc', he, hP, rest⟩
  | false => exact hP.elim
theorem ASpecE.mono {P f args H Post Post'} (h : ASpecE P f args H Post) (hp : ∀ b r H', Post b r H' → Post' b r H') : ASpecE P f args H Post' :=
 fun M loc w vs ht hr hv => (h M loc w vs ht hr hv).mono fun _ _ ⟨b, v, r, H', M', loc', he, hP, rest⟩ => ⟨b, v, r, H', M', loc', he, hp _ _ _ hP, rest⟩
def FW (ro : Option Nat) : Fence := { fn := fun _ => True, depth := none, alive := false, round := ro }
def AYield (P : Program) (id : Nat) (args : List AV) (H : List AObj) (Post : AV → List AObj → Prop) : Prop :=
 ∀ M loc w (vs : Array Value) b, Tabs P M w → Rel M loc H w → VRels M w loc args vs → loc id = some (.blk b) →
  ∃ f tmps assign body, (Instr.yield b vs).run P w = .ok (.round b f tmps assign body) w ∧ RoundIn (FW none) 0 P b f tmps assign body w fun e w' =>
   ∃ v r H' M' loc', e = .returned v ∧ Post r H' ∧ Rel M' loc' H' w' ∧ VRel M' w' loc' r v ∧ Step M loc H w M' loc' H' w'
def yieldKey : FuncId := 1000000
def alen (P : Program) (ts : List TypeId) (xs : List AV) (H : List AObj) (K : AV → Prop) : Prop :=
 match ts, xs with
 | t :: _, [x] => match P.underlying t, x with
  | some .string, .str s => K (.int .i64 s.size)
  | some (.slice _), .sl _ s _ => K (.int .i64 s.len)
  | some (.slice _), .msl _ _ _ n => K (.int .i64 n)
  | some (.slice _), .csl _ _ _ n => K (.int .i64 n)
  | some (.array n _), _ => K (.int .i64 n)
  | some (.map _ _), .map id => match H[id]? with
   | some (.mp m) => K (.int .i64 m.len)
   | _ => False
  | some (.map _ _), .nmap => K (.int .i64 0)
  | _, _ => False
 | _, _ => False
def amm (mx : Bool) : IntKind → Int → List AV → (AV → Prop) → Prop
 | k, a, [], K => K (.int k a)
 | k, a, .int _ b :: rest, K => amm mx k (match mx with | true => if b > a then b else a | false => if b < a then b else a) rest K
 | _, _, _, _ => False
def aminmax (mx : Bool) (xs : List AV) (K : AV → Prop) : Prop :=
 match xs with
 | .int k a :: rest => amm mx k a rest K
 | [.str a, .str b] => match mx with
  | false => condP (Op.bytesLess a.toList b.toList || a.toList == b.toList) (K (.str a)) (K (.str b))
  | true => False
 | _ => False
def emptyRaw : Seq → Bool
 | .raw [] => true
 | _ => false
def appended (sz : Nat) (x : AV) : Option Seq :=
 match x with
 | .sl sz' s _ => bif Nat.beq sz sz' || emptyRaw s then some s else none
 | .str s => bif Nat.beq sz 1 then some (bytesSeq s) else none
 | _ => none
def seqP (o : Option Seq) (K : Seq → Prop) : Prop := match o with | some a => K a | none => False
def appendedP (sz : Nat) (x : AV) (H : List AObj) (K : Seq → Prop) : Prop :=
 match x with
 | .msl sz' id off len => match H[id]? with
  | some (.arr sz2 s) => chk (Nat.beq sz sz' && Nat.beq sz' sz2) (needP (off + len ≤ s.len) (K (s.sub off (off + len))))
  | _ => False
 | x => seqP (appended sz x) K
def onesP : Seq → Prop → Prop
 | .raw l, K => chk (l.all (·.all oneAV)) K
 | .map enc _ _, K => needP (∀ x, (enc x).all oneAV = true) K
 | .app a b, K => onesP a (onesP b K)
def srcKind : Option TypeDesc → Bool
 | some (.slice _) | some .string => true
 | _ => false
def freshTip : Tip → Bool
 | .nil | .full => true
 | _ => false
def aappend (P : Program) (mu : Bool) (ts : List TypeId) (xs : List AV) (H : List AObj) (K : AV → List AObj → Prop) : Prop :=
 match ts, xs with
 | [t, t'], [.sl sz s tip, x] => match P.underlying t, srcKind (P.underlying t') with
  | some (.slice e), true => match sizeT P e, bytesT P e, zeroT P e with
   | some n, some by_, some z => chk (Nat.ble 1 n && (Nat.beq n sz || emptyRaw s) && Nat.beq z.length n && Nat.ble 1 by_) <|
    appendedP n x H fun s' => onesP s' <|
     needP ((s.len + s'.len) * by_ ≤ 140737488351232) <|
     match mu with
     | true => chk (emptyRaw s && freshTip tip) (needP (1 ≤ s'.len) (K (.msl n H.length 0 s'.len) (H ++ [.arr n s'])))
     | false => match tip with
     | .none => False
     | .tok id => match H[id]? with
      | some .tok => chk (Nat.beq n sz) (K (.sl n (s.app s') (.tok H.length)) (H.set id .gone ++ [.tok]))
      | _ => False
     | _ => K (.sl n (s.app s') (.tok H.length)) (H ++ [.tok])
   | _, _, _ => False
  | _, _ => False
 | _, _ => False
def aappendM (P : Program) (ts : List TypeId) (xs : List AV) (H : List AObj) (K : AV → List AObj → Prop) : Prop :=
 match ts, xs with
 | [t, t'], [.msl sz id off n, x] => match P.underlying t, srcKind (P.underlying t') with
  | some (.slice e), true => match sizeT P e, bytesT P e, zeroT P e with
   | some k, some by_, some z => chk (Nat.ble 1 k && Nat.beq k sz && Nat.beq z.length k && Nat.ble 1 by_ && Nat.beq off 0) <|
    match H[id]? with
    | some (.arr sz' s) => chk (Nat.beq sz sz') <| appendedP k x H fun s' => onesP s' <|
      needP (n = s.len ∧ (n + s'.len) * by_ ≤ 140737488351232) (K (.msl k H.length 0 (n + s'.len)) (H.set id .gone ++ [.arr k (s.app s')]))
    | _ => False
   | _, _, _ => False
  | _, _ => False
 | _, _ => False
def copied (d : Seq) (off : Nat) (s : Seq) : Seq := .raw (d.toList.take off ++ (s.toList ++ d.toList.drop (off + s.toList.length)))
def aappendI (P : Program) (ts : List TypeId) (xs : List AV) (H : List AObj) (K : AV → List AObj → Prop) : Prop :=
 match ts, xs with
 | [t, t'], [.msl sz id off n, x] => match P.underlying t, srcKind (P.underlying t'), H[id]? with
  | some (.slice e), true, some (.arr sz' s) => match sizeT P e with
   | some k => chk (Nat.beq k sz && Nat.beq sz sz' && Nat.ble 1 k) <| appendedP k x H fun s' => onesP s' <|
     needP (off + n + s'.len ≤ s.len) (K (.msl sz id off (n + s'.len)) (H.set id (.arr sz (copied s (off + n) s'))))
   | none => False
  | _, _, _ => False
 | _, _ => False
def strKeyD (P : Program) (t : TypeId) : Option TypeId := match P.underlying t with
 | some (.map kt et) => match P.underlying kt with | some .string => some et | _ => none
 | _ => none
def aclear (P : Program) (ts : List TypeId) (xs : List AV) (H : List AObj) (K : AV → List AObj → Prop) : Prop :=
 match ts, xs with
 | [t], [.msl sz id off len] => match P.underlying t, H[id]? with
  | some (.slice e), some (.arr sz' d) => match sizeT P e, zeroT P e with
   | some n, some z => chk (Nat.beq n sz && Nat.beq sz sz' && Nat.ble 1 n && Nat.beq z.length n && z.all oneAV) <|
     needP (off + len ≤ d.len) (K (.tup []) (H.set id (.arr sz (copied d off (.raw (List.replicate len z))))))
   | _, _ => False
  | _, _ => False
 | [t], [.map id] => match P.underlying t, H[id]? with
  | some _, some (.mp _) => K (.tup []) (H.set id (.mp .nil))
  | _, _ => False
 | _, _ => False
def adelete (P : Program) (ts : List TypeId) (xs : List AV) (H : List AObj) (K : AV → List AObj → Prop) : Prop :=
 match ts, xs with
 | t :: _, [.map id, .str k] => natP (strKeyD P t) fun _ => match H[id]? with
  | some (.mp .nil) => K (.tup []) H
  | some (.mp (.typed E l)) => K (.tup []) (H.set id (.mp (.typed E (delM l k))))
  | _ => False
 | _, _ => False
def acopy (P : Program) (ts : List TypeId) (xs : List AV) (H : List AObj) (K : AV → List AObj → Prop) : Prop :=
 match ts, xs with
 | [t, t'], [.msl sz id off len, x] => match P.underlying t, srcKind (P.underlying t'), H[id]? with
  | some (.slice e), true, some (.arr sz' d) => match sizeT P e with
   | some n => chk (Nat.beq n sz && Nat.beq sz sz' && Nat.ble 1 n) <| appendedP n x H fun s => onesP s <|
     needP (off + len ≤ d.len ∧ s.len ≤ len) (K (.int .i64 s.len) (H.set id (.arr sz (copied d off s))))
   | none => False
  | _, _, _ => False
 | _, _ => False
def acopyF (P : Program) (ts : List TypeId) (sz id off len sz' id' off' l : Nat) (H : List AObj) (K : AV → List AObj → Prop) : Prop :=
 match ts with
 | [t, t'] => match P.underlying t, srcKind (P.underlying t'), H[id]?, H[id']? with
  | some (.slice e), true, some (.arr sz1 d), some (.arr sz2 (.app a _)) => match sizeT P e with
   | some n => chk (Nat.beq n sz && Nat.beq sz sz1 && Nat.ble 1 n && Nat.beq sz sz' && Nat.beq sz' sz2) <| needP (off' + l ≤ a.len) <| onesP (a.sub off' (off' + l)) <|
     needP (off + len ≤ d.len ∧ (a.sub off' (off' + l)).len ≤ len) (K (.int .i64 (a.sub off' (off' + l)).len) (H.set id (.arr sz (copied d off (a.sub off' (off' + l))))))
   | none => False
  | _, _, _, _ => False
 | _ => False
def acopyM (P : Program) (ts : List TypeId) (xs : List AV) (H : List AObj) (K : AV → List AObj → Prop) : Prop :=
 match xs with
 | [.msl sz id off len, .msl sz' id' off' len'] => match H[id']? with
  | some (.arr _ (.app _ _)) => acopyF P ts sz id off len sz' id' off' (min len' len) H K
  | _ => acopy P ts [.msl sz id off len, .msl sz' id' off' (min len' len)] H K
 | xs => acopy P ts xs H K
def capOf (sz id : Nat) : List AObj → Option Nat
 | [] => none
 | .csz id' sz' c :: l => bif Nat.beq id' id && Nat.beq sz' sz then some c else capOf sz id l
 | _ :: l => capOf sz id l
def bads (sz n : Nat) : Seq := .raw (List.replicate n (List.replicate sz .bad))
def acap (P : Program) (ts : List TypeId) (xs : List AV) (H : List AObj) (K : AV → List AObj → Prop) : Prop :=
 match ts, xs with
 | [t], [.msl sz id off len] => match P.underlying t, H[id]? with
  | some (.slice _), some (.arr sz' s) => chk (Nat.beq sz sz' && Nat.ble 1 sz) <|
    ∀ c : Nat, len ≤ c ∧ s.len ≤ off + c → K (.int .i64 c) (H.set id (.arr sz (s.app (bads sz (off + c - s.len)))) ++ [.csz id sz (off + c)])
  | _, _ => False
 | _, _ => False
def aappendZ (P : Program) (ts : List TypeId) (xs : List AV) (H : List AObj) (K : AV → List AObj → Prop) : Prop :=
 match ts, xs with
 | [t, t'], [.msl sz id off n, .int _ m] => match P.underlying t, P.underlying t', H[id]?, capOf sz id H with
  | some (.slice e), some (.int _), some (.arr sz' s), some c => match sizeT P e, bytesT P e, zeroT P e with
   | some k, some by_, some z => chk (Nat.ble 1 k && Nat.beq k sz && Nat.beq sz sz' && Nat.beq z.length k && Nat.ble 1 by_) <|
     needP (0 < m ∧ off + n ≤ s.len ∧ c < off + n + m.toNat ∧ (n + m.toNat) * by_ ≤ 140737488351232)
      (K (.msl k H.length 0 (n + m.toNat)) (H ++ [.arr k ((s.sub off (off + n)).app (.raw (List.replicate m.toNat z)))]))
   | _, _, _ => False
  | _, _, _, _ => False
 | _, _ => False
def overlapsFn (P : Program) (g : FuncId) (sz : Nat) : Prop :=
 ∃ fn t e rs, P.funcs[g]? = some fn ∧ (fn.name == "runtime.NumGoroutine") = false ∧ fn.body.isNone = true ∧ Extern.findNext fn = none ∧ Extern.find fn = some (Extern.SlicesOverlaps.overlaps #[t, t] rs) ∧
  P.underlying t = some (.slice e) ∧ sizeT P e = some sz
def cloneFn (P : Program) (g : FuncId) : Prop :=
 ∃ fn, P.funcs[g]? = some fn ∧ (fn.name == "runtime.NumGoroutine") = false ∧ fn.body.isNone = true ∧ Extern.findNext fn = none ∧ Extern.find fn = some Extern.MapsClone.clone
def aextern (P : Program) (g : FuncId) (xs : List AV) (H : List AObj) (K : AV → List AObj → Prop) : Prop :=
 match xs with
 | [.sl szv s _, .msl sz id _ _] => chk (sameSz H id sz && !Nat.beq sz 1 && (Nat.beq szv sz || emptyRaw s)) (needP (overlapsFn P g sz) (K (.bool false) H))
 | [.iface t (.map id)] => match H[id]? with
  | some (.mp m) => needP (cloneFn P g) (K (.iface t (.map H.length)) (H ++ [.mp m]))
  | _ => False
 | _ => False
def abuiltin (P : Program) (mu : Bool) (b : Builtin) (ts : List TypeId) (xs : List AV) (H : List AObj) (K : AV → List AObj → Prop) : Prop :=
 match b with
 | .len => alen P ts xs H fun v => K v H
 | .min => aminmax false xs fun v => K v H
 | .max => aminmax true xs fun v => K v H
 | .append => match xs with
  | .msl _ id _ _ :: y => match y with
   | .msl _ id' _ _ :: _ => match Nat.beq id id' with
    | true => aappendI P ts xs H K
    | false => aappendM P ts xs H K
   | .sl _ (.raw []) _ :: _ => aappendI P ts xs H K
   | .int _ _ :: _ => aappendZ P ts xs H K
   | _ => aappendM P ts xs H K
  | _ => aappend P mu ts xs H K
 | .copy => match mu with
  | false => acopy P ts xs H K
  | true => acopyM P ts xs H K
 | .cap => acap P ts xs H K
 | .clear => aclear P ts xs H K
 | .delete => adelete P ts xs H K
 | _ => False
def formed (R : List Ret) (args : List AV) (H : List AObj) (K : AV → List AObj → Prop) : AV → List AObj → Prop := match R with
 | [] => fun _ _ => False
 | R :: l => match l with
  | [] => fun r H' => ∃ x : R.X, r = R.av args H x ∧ H' = R.hp args H x ∧ K (R.av args H x) (R.hp args H x)
  | S :: l => fun r H' => (∃ x : R.X, r = R.av args H x ∧ H' = R.hp args H x ∧ K (R.av args H x) (R.hp args H x)) ∨ formed (S :: l) args H K r H'
theorem formed_elim {args : List AV} {H : List AObj} {K : AV → List AObj → Prop} {r : AV} {H' : List AObj} : ∀ {R : List Ret}, formed R args H K r H' → K r H'
 | [], h => h.elim
 | [R], h => by
  obtain ⟨x, rfl, rfl, h⟩ := h
  exact h
 | R :: S :: l, h => by
  rcases h with ⟨x, rfl, rfl, h⟩ | h
  ·exact h
  ·exact formed_elim (R := S :: l) h
def acall (P : Program) (mu : Bool) (R : FuncId → List Ret) (s : Slots) (c : Call) (H : List AObj) (K : AV → List AObj → Prop) : Prop :=
 match c.callee with
 | .builtin b => abuiltin P mu b c.argTypes.toList (c.args.toList.map (ev s)) H K
 | .value f => match ev s f with
  | .fn g cap => match plainFn P g with
   | true => ASpec P g (c.args.toList.map (ev s) ++ cap) H (formed (R g) (c.args.toList.map (ev s) ++ cap) H K)
   | false => chk cap.isEmpty (aextern P g (c.args.toList.map (ev s)) H K)
  | .bfn g fs => chk (plainFn P g) (ASpec P g (fs ++ c.args.toList.map (ev s)) H (formed (R g) (fs ++ c.args.toList.map (ev s)) H K))
  | .yld id => AYield P id (c.args.toList.map (ev s)) H (formed (R yieldKey) (c.args.toList.map (ev s)) H K)
  | _ => False
 | .invoke x name => match ev s x with
  | .iface t v => natP (methodOf P t name) fun g => chk (plainFn P g) (ASpec P g (v :: c.args.toList.map (ev s)) H (formed (R g) (v :: c.args.toList.map (ev s)) H K))
  | _ => False
def zeroAV (P : Program) (t : TypeId) : Option AV := ((P.info? t).bind (·.zero)).map ofConst
def ifaceT (P : Program) (t : TypeId) : Bool := match P.underlying t with | some (.interface _) | none => true | _ => false
def atypeAssert (P : Program) (x : AV) (asserted : TypeId) (ok : Bool) (K : AV → Prop) : Prop :=
 chk (!ifaceT P asserted) <| match x, ok with
  | .iface t v, true => match Nat.beq t asserted with
   | true => K (.tup [v, .bool true])
   | false => optP (zeroAV P asserted) fun z => K (.tup [z, .bool false])
  | .nili, true => optP (zeroAV P asserted) fun z => K (.tup [z, .bool false])
  | .iface t v, false => chk (Nat.beq t asserted) (K v)
  | _, _ => False
def arange (P : Program) (t : TypeId) (x : AV) (H : List AObj) (K : AV → List AObj → Prop) : Prop :=
 match P.underlying t, x with
 | some .string, .str s => K (.ptr H.length 0) (H ++ [.siter s 0])
 | some (.map _ _), .map id => match H[id]? with
  | some (.mp m) => ∀ z : List Nat × Nat, z.1.Nodup ∧ z.1.length = m.len → K (.ptr H.length 0) (H.set id (.mpv m z) ++ [.mit id z []])
  | _ => False
 | _, _ => False
def entP : MM → Nat → (ByteArray → AV → Prop) → Prop
 | .nil, _, _ => True
 | .typed E l, i, K => ∀ k v, l[i]? = some (k, v) → E.spl v (K k)
 | .put _ _ _, _, _ => False
def anext (str : Bool) (x : AV) (H : List AObj) (K : AV → List AObj → Prop) : Prop :=
 match str, x with
 | true, .ptr id off => match H[id]? with
  | some (.siter s pos) => chk (Nat.beq off 0) (condP (decide (pos < s.size))
    (K (.tup [.bool true, .int .i64 pos, .int .i32 (Utf8.decode s pos).1]) (H.set id (.siter s (pos + (Utf8.decode s pos).2)))) (K (.tup [.bool false]) H))
  | _ => False
 | false, .ptr id off => match H[id]? with
  | some (.mit mid z ps) => match H[mid]? with
   | some (.mpv m z') => chk (Nat.beq off 0) (needP (z' = z) (((∀ i, i < m.len → i ∈ ps) → K (.tup [.bool false]) H) ∧
     ∀ i, i < m.len → (i ∈ ps → False) → entP m i fun k v => K (.tup [.bool true, .str k, v]) (H.set id (.mit mid z (i :: ps)))))
   | _ => False
  | _ => False
 | _, _ => False
def optionP {α : Type _} (o : Option α) (A : α → Prop) (B : Prop) : Prop := match o with | some a => A a | none => B
def lookMM : MM → ByteArray → (AV → Prop) → Prop → Prop
 | .nil, _, _, Z => Z
 | .typed E l, k, K, Z => optionP (findM l k) (fun a => E.spl a K) Z
 | .put m k v, k', K, Z => condP (k'.toList == k.toList) (K v) (lookMM m k' K Z)
def mapRes (ok : Bool) (v : AV) (b : Bool) : AV := match ok with | true => .tup [v, .bool b] | false => v
def strKey (P : Program) (t : TypeId) : Option TypeId := match P.underlying t with
 | some (.map kt et) => match P.underlying kt with | some .string => some et | _ => none
 | _ => none
def alookup (P : Program) (t : TypeId) (x k : AV) (ok : Bool) (H : List AObj) (K : AV → Prop) : Prop :=
 natP (strKey P t) fun et => optP (zeroAV P et) fun z => match k with
  | .str k => match x with
   | .nmap => K (mapRes ok z false)
   | .map id => match H[id]? with
    | some (.mp m) => lookMM m k (fun v => K (mapRes ok v true)) (K (mapRes ok z false))
    | _ => False
   | _ => False
  | _ => False
def amapUpdate (P : Program) (t : TypeId) (x k v : AV) (H : List AObj) (K : List AObj → Prop) : Prop :=
 natP (strKey P t) fun _ => match k with
  | .str k => match x with
   | .map id => match H[id]? with
    | some (.mp m) => K (H.set id (.mp (.put m k v)))
    | _ => False
   | _ => False
  | _ => False
def aentry (x : AV) (H : List AObj) (K : AV → List AObj → Prop) : Prop :=
 match x with
 | .ptr id off => match H[id]? with
  | some (.mit mid z (i :: _)) => match H[mid]? with
   | some (.mpv m z') => chk (Nat.beq off 0) (needP (z' = z ∧ i < m.len) (entP m i fun k v => K (.tup [.str k, v]) H))
   | _ => False
  | _ => False
 | _ => False
def aop (P : Program) (R : FuncId → List Ret) (mu : Bool) (s : Slots) (o : Op) (H : List AObj) (K : AV → List AObj → Prop) : Prop :=
 match o with
 | .move x | .assign x => K (ev s x) H
 | .pick c a b => match ev s c with
  | .bool t => condP t (K (ev s a) H) (K (ev s b) H)
  | _ => False
 | .alloc t => match zeroT P t with
  | some cs => K (.ptr H.length 0) (H ++ [.cells cs])
  | none => False
 | .box _ x => abox (ev s x) H K
 | .build t parts => abuild P t (parts.toList.map fun (i, x) => (i, ev s x)) fun v => K v H
 | .buildSlice t n parts => match mu with
  | false => abuildSlice P t n (parts.toList.map fun (i, x) => (i, ev s x)) fun v => K v H
  | true => abuildM P t n (parts.toList.map fun (i, x) => (i, ev s x)) H K
 | .load t a => aload P t (ev s a) H fun v => K v H
 | .store t a x => astore P t (ev s a) (ev s x) H fun H' => K .bad H'
 | .nilCheck x => anilCheck P (ev s x) fun v => K v H
 | .binOp op t x y _ => abin P op t (ev s x) (ev s y) fun v => K v H
 | .unOp op _ x => aun op (ev s x) fun v => K v H
 | .convert src dst x => match mu with
  | false => aconv P src dst (ev s x) fun v => K v H
  | true => aconvM P src dst (ev s x) H K
 | .makeInterface t x => chk (match P.underlying t with | some (.interface _) | none => false | _ => true) (K (.iface t (ev s x)) H)
 | .makeFunc (.func f) first captured => match first.isEmpty with
  | true => K (.fn f (captured.toList.map (ev s))) H
  | false => chk captured.isEmpty (K (.bfn f (first.toList.map (ev s))) H)
 | .makeFunc (.method name) first captured => chk captured.isEmpty (match first.toList.map (ev s) with
  | [.iface t v] => K (.meth t name v) H
  | _ => False)
 | .makeMap _ none => K (.map H.length) (H ++ [.mp .nil])
 | .lookup t x k ok => alookup P t (ev s x) (ev s k) ok H fun v => K v H
 | .mapUpdate t x k v => amapUpdate P t (ev s x) (ev s k) (ev s v) H fun H' => K .bad H'
 | .makeSlice t l c => amakeSlice P mu t (ev s l) (ev s c) H K
 | .slice t x lo hi mx => asli P mu H t (ev s x) (lo.map (ev s)) (hi.map (ev s)) (mx.map (ev s)) fun v => K v H
 | .fieldAddr t x f => afieldAddr P t (ev s x) f fun v => K v H
 | .field t x f => afield P t (ev s x) f fun v => K v H
 | .indexAddr t x i => aindexAddr P t (ev s x) (ev s i) fun v => K v H
 | .index t x i => aindex P t (ev s x) (ev s i) fun v => K v H
 | .extract x i => aextract (ev s x) i fun v => K v H
 | .typeAssert x _ asserted ok => atypeAssert P (ev s x) asserted ok fun v => K v H
 | .range t x => arange P t (ev s x) H K
 | .next x str => anext str (ev s x) H K
 | .entry x => aentry (ev s x) H K
 | .call c => acall P mu R s c H K
 | _ => False
def aput (N : Nat) (s : Slots) (d : Option Tmp) (v : AV) (K : Slots → Prop) : Prop :=
 match d with
 | none => K s
 | some d => chk (Nat.blt d N) (K ((d, v) :: s))
def alast (P : Program) (cfg : Cfg) (s : Slots) (o : Oper) (H : List AObj) (Q : Slots → List AObj → Prop) (X : AV → List AObj → Prop) : Prop :=
 chk o.guard.isNone <| match o.op with
 | .panic x => match ev s x with
  | .iface t v => X (.iface t v) H
  | _ => False
 | .call c => match c.callee with
  | .value f => match ev s f with
   | .fn g cap => chk (plainFn P g) (ASpecX P g (c.args.toList.map (ev s) ++ cap) H
     (formed (cfg.ret g) (c.args.toList.map (ev s) ++ cap) H fun v H' => aput cfg.N s o.dst v fun s' => Q s' H') X)
   | _ => False
  | _ => False
 | _ => False
def aoper (P : Program) (cfg : Cfg) (ops : Array Oper) (s : Slots) (o : Oper) (H : List AObj) (K : Slots → List AObj → Prop) : Prop :=
 let run := fun s => aop P cfg.ret (match o.dst with | some d => cfg.mu d | none => false) s o.op H fun v H' => aput cfg.N s o.dst v fun s' => K s' H'
 let skip := fun s => aput cfg.N s o.dst (.tup []) fun s' => K s' H
 match o.guard with
 | none => run s
 | some (j, want) => match (ops[j]?).bind (·.dst) with
  | some d => match get s d with
   | .bool b => chk (Nat.blt d cfg.N) (condP b (match want with | true => run ((d, .bool true) :: s) | false => skip ((d, .bool true) :: s))
     (match want with | true => skip ((d, .bool false) :: s) | false => run ((d, .bool false) :: s)))
   | .tup [] => skip s
   | _ => False
  | none => False
def aops (P : Program) (cfg : Cfg) (ops : Array Oper) : List Nat → Slots → List AObj → (Slots → List AObj → Prop) → Prop
 | [], s, H, K => K s H
 | i :: rest, s, H, K => match ops[i]? with
  | some o => aoper P cfg ops s o H fun s' H' => aops P cfg ops rest s' H' K
  | none => False
end Go.Ab
end

noncomputable section
namespace Go.Ab
def Mem.grow (M : Mem) (b n : Nat) : Mem := ⟨M.base, fun c => if c = b then n else M.ext c⟩
def locSet (loc : Locs) (i : Nat) (l : Loc) : Locs := fun j => if j = i then some l else loc j
theorem cell_lt {w : World} {b k v} (h : w.cell? ⟨b, k, none⟩ = some v) : b < w.heap.size := by
 unfold World.cell? at h
 rcases Nat.lt_or_ge b w.heap.size with hb | hb
 ·exact hb
 ·simp [Array.getElem?_eq_none hb] at h
theorem heap_alloc_lt {w : World} {ob : Obj} {b : Nat} (h : b < w.heap.size) : (w.alloc ob).heap[b]? = w.heap[b]? := by
 show (w.heap.push ob)[b]? = _
 rw [Array.getElem?_push, if_neg (Nat.ne_of_lt h)]
theorem heap_alloc_new (w : World) (ob : Obj) : (w.alloc ob).heap[w.heap.size]? = some ob := by
 show (w.heap.push ob)[w.heap.size]? = _
 simp
theorem cell_of_heap {w w' : World} {b : Nat} (h : w'.heap[b]? = w.heap[b]?) (k : Nat) : w'.cell? ⟨b, k, none⟩ = w.cell? ⟨b, k, none⟩ := by
 simp only [World.cell?, h]
theorem cells_lt {w : World} {b : Nat} {o : Obj} (h : w.heap[b]? = some o) : b < w.heap.size := (Array.getElem?_eq_some_iff.1 h).1
theorem keeps_alloc {M loc H w} (h : Rel M loc H w) (ob : Obj) (n : Nat) (l : Option Loc) :
  Keeps M w loc (M.grow w.heap.size n) (w.alloc ob) (match l with | some l => locSet loc H.length l | none => loc) where
 imm b k v hi := by
  have hb := cell_lt hi.1
  refine ⟨by rw [cell_of_heap (heap_alloc_lt hb)]; exact hi.1, ?_⟩
  rcases hi.2 with e | e
  ·exact .inl e
  ·exact .inr (by simp only [Mem.grow]; rw [if_neg (Nat.ne_of_lt hb)]; exact e)
 shape b cs T fr hc := ⟨cs, fr, by rw [heap_alloc_lt (cells_lt hc)]; exact hc, rfl⟩
 loc i l' hl := by
  cases l with
  | none => exact hl
  | some l => simp only [locSet]; rw [if_neg (Nat.ne_of_lt (h.lt hl))]; exact hl
theorem ORel.keeps_far {M w loc M' w' loc' l o} (hk : Keeps M w loc M' w' loc') (hb : M'.base = M.base)
  (hfar : ∀ b, (l.bind Loc.block?) = some b → w'.heap[b]? = w.heap[b]? ∧ M'.ext b = M.ext b) (h : ORel M w loc l o) : ORel M' w' loc' l o := by
 cases o with
 | gone => trivial
 | cells cs =>
  obtain ⟨b, vs, T, fr, rfl, h1, h2, h3, h4, h5, h6⟩ := h
  obtain ⟨e1, e2⟩ := hfar b rfl
  exact ⟨b, vs, T, fr, rfl, by rw [hb]; exact h1, by rw [e2]; exact h2, by rw [e1]; exact h3, h4, h5, fun i hi => (h6 i hi).keeps hk⟩
 | tok =>
  rcases h with h | ⟨b, e, vs, T, fr, rfl, h1, h2, h3, h4⟩
  ·exact .inl h
  ·obtain ⟨e1, e2⟩ := hfar b rfl
   exact .inr ⟨b, e, vs, T, fr, rfl, by rw [hb]; exact h1, by rw [e2]; exact h2, by rw [e1]; exact h3, h4⟩
 | arr sz s =>
  obtain ⟨b, vs, T, fr, rfl, h1, h2, h3, h4, h5, h6, h7⟩ := h
  obtain ⟨e1, e2⟩ := hfar b rfl
  exact ⟨b, vs, T, fr, rfl, by rw [hb]; exact h1, by rw [e2]; exact h2, by rw [e1]; exact h3, h4, h5, h6, fun i j hi hj => let ⟨v, hv, hr⟩ := h7 i j hi hj; ⟨v, hv, hr.keeps hk⟩⟩
 | siter s pos =>
  obtain ⟨b, rfl, h1, h2, h3⟩ := h
  obtain ⟨e1, e2⟩ := hfar b rfl
  exact ⟨b, rfl, by rw [hb]; exact h1, by rw [e2]; exact h2, by rw [e1]; exact h3⟩
 | mp es =>
  obtain ⟨b, ents, clock, rfl, h1, h2, h3, hq, h4, h5⟩ := h
  obtain ⟨e1, e2⟩ := hfar b rfl
  exact ⟨b, ents, clock, rfl, by rw [hb]; exact h1, by rw [e2]; exact h2, by rw [e1]; exact h3, hq, h4, fun i hi => ⟨(h5 i hi).1, (h5 i hi).2.keeps hk⟩⟩
 | mpv es z =>
  obtain ⟨b, ents, clock, rfl, h1, h2, h3, hq, h4, h5⟩ := h
  obtain ⟨e1, e2⟩ := hfar b rfl
  exact ⟨b, ents, clock, rfl, by rw [hb]; exact h1, by rw [e2]; exact h2, by rw [e1]; exact h3, hq, h4, fun i hi => ⟨(h5 i hi).1, (h5 i hi).2.keeps hk⟩⟩
 | mit id z ps =>
  obtain ⟨b, mb, seen, rfl, h1, h2, h3, h4, h5⟩ := h
  obtain ⟨e1, e2⟩ := hfar b rfl
  exact ⟨b, mb, seen, rfl, by rw [hb]; exact h1, by rw [e2]; exact h2, by rw [e1]; exact h3, hk.loc _ _ h4, h5⟩
 | csz id sz c =>
  obtain ⟨rfl, b, vs, T, fr, h1, h2, h3⟩ := h
  obtain ⟨cs', fr', e1, e2⟩ := hk.shape b vs T fr h2
  exact ⟨rfl, b, cs', T, fr', hk.loc _ _ h1, e1, by omega⟩
 | lp N s ps asg body st =>
  obtain ⟨b, rec, rfl, h1, h2, h3, h4, h5, h6, h7, h8, h9⟩ := h
  obtain ⟨e1, e2⟩ := hfar b rfl
  exact ⟨b, rec, rfl, by rw [hb]; exact h1, by rw [e2]; exact h2, by rw [e1]; exact h3, h4, h5, h6, h7, fun d => (h8 d).keeps hk, h9⟩
theorem ORel.block_lt {M w loc l o b} (h : ORel M w loc l o) (ho : o = .gone → False) (hb : l.bind Loc.block? = some b) : b < w.heap.size ∧ M.base ≤ b := by
 cases o with
 | gone => exact (ho rfl).elim
 | cells cs => obtain ⟨b', vs, T, fr, rfl, h1, h2, h3, _⟩ := h; cases hb; exact ⟨cells_lt h3, h1⟩
 | tok =>
  rcases h with rfl | ⟨b', e, vs, T, fr, rfl, h1, h2, h3, _⟩
  ·cases hb
  ·cases hb; exact ⟨cells_lt h3, h1⟩
 | arr sz s => obtain ⟨b', vs, T, fr, rfl, h1, h2, h3, _⟩ := h; cases hb; exact ⟨cells_lt h3, h1⟩
 | siter s pos => obtain ⟨b', rfl, h1, h2, h3⟩ := h; cases hb; exact ⟨cells_lt h3, h1⟩
 | mp es => obtain ⟨b', ents, clock, rfl, h1, h2, h3, _⟩ := h; cases hb; exact ⟨cells_lt h3, h1⟩
 | mpv es z => obtain ⟨b', ents, clock, rfl, h1, h2, h3, _⟩ := h; cases hb; exact ⟨cells_lt h3, h1⟩
 | mit id z ps => obtain ⟨b', mb, seen, rfl, h1, h2, h3, _⟩ := h; cases hb; exact ⟨cells_lt h3, h1⟩
 | csz id sz c => obtain ⟨rfl, _⟩ := h; cases hb
 | lp N s ps asg body st => obtain ⟨b', rec, rfl, h1, h2, h3, _⟩ := h; cases hb; exact ⟨cells_lt h3, h1⟩
theorem Tabs.step {P : Program} {M loc H w n M' loc' H' w'} (h : Tabs P M w) (hr : Rel M loc H w) (hs : StepN n M loc H w M' loc' H' w') : Tabs P M' w' := by
 have same : ∀ g, g < M.base → w'.heap[g]? = w.heap[g]? := by
  intro g h1
  rw [(hs.keep g (Nat.lt_of_lt_of_le h1 hr.base) ?_).1]
  rintro ⟨i, o, l, hi, hgone, hl, hb⟩
  have := ((hr.objs i o hi).block_lt hgone (b := g) (by rw [hl]; exact hb)).2
  omega
 refine ⟨fun g hg => ?_, fun g hg => ?_⟩
 ·obtain ⟨h1, T, fr, h2⟩ := h.pow g hg
  exact ⟨by rw [hs.base]; exact h1, T, fr, by rw [same g h1]; exact h2⟩
 ·obtain ⟨h1, m, T, fr, h2⟩ := h.max g hg
  exact ⟨by rw [hs.base]; exact h1, m, T, fr, by rw [same g h1]; exact h2⟩
theorem Rel.data {M loc H w} (h : Rel M loc H w) (ob : Obj) (n : Nat) (hn : 0 < n → ∃ cs T fr, ob = .cells cs T fr ∧ n ≤ cs.size) :
  Rel (M.grow w.heap.size n) loc H (w.alloc ob) ∧ Step M loc H w (M.grow w.heap.size n) loc H (w.alloc ob) := by
 have hk := keeps_alloc h ob n none
 refine ⟨⟨?_, ?_, h.dom, ?_, h.inj⟩, ⟨rfl, by simp, rfl, rfl, rfl, ?_, hk.imm, hk.shape, fun _ _ h => h, fun _ _ => rfl, Nat.le_refl _⟩⟩
 ·have := h.base; simp [Mem.grow]; omega
 ·intro b hb
  simp only [Mem.grow] at hb ⊢
  by_cases e : b = w.heap.size
  ·subst e
   rw [if_pos rfl] at hb ⊢
   obtain ⟨cs, T, fr, rfl, hc⟩ := hn hb
   exact ⟨h.base, cs, T, fr, heap_alloc_new _ _, hc⟩
  ·rw [if_neg e] at hb ⊢
   obtain ⟨h1, cs, T, fr, h2, h3⟩ := h.ext b hb
   exact ⟨h1, cs, T, fr, by rw [heap_alloc_lt (cells_lt h2)]; exact h2, h3⟩
 ·intro i o ho
  by_cases hg : o = .gone
  ·subst hg; trivial
  ·refine (h.objs i o ho).keeps_far hk rfl (fun b hb => ?_)
   have hlt := (h.objs i o ho).block_lt hg hb
   exact ⟨heap_alloc_lt hlt.1, by simp only [Mem.grow]; rw [if_neg (Nat.ne_of_lt hlt.1)]⟩
 ·intro b hb _
  exact ⟨heap_alloc_lt hb, by simp only [Mem.grow]; rw [if_neg (Nat.ne_of_lt hb)]⟩
theorem Rel.new {M loc H w} (h : Rel M loc H w) (ob : Obj) (n : Nat) (hn : 0 < n → ∃ cs T fr, ob = .cells cs T fr ∧ n ≤ cs.size) (l : Loc) (o : AObj)
  (hl : l.block? = none ∨ l.block? = some w.heap.size) (ho : ORel (M.grow w.heap.size n) (w.alloc ob) (locSet loc H.length l) (some l) o) :
  Rel (M.grow w.heap.size n) (locSet loc H.length l) (H ++ [o]) (w.alloc ob) ∧ Step M loc H w (M.grow w.heap.size n) (locSet loc H.length l) (H ++ [o]) (w.alloc ob) := by
 have hk := keeps_alloc h ob n (some l)
 have hold : ∀ i, i < H.length → locSet loc H.length l i = loc i := fun i hi => by simp only [locSet]; rw [if_neg (Nat.ne_of_lt hi)]
 have hnew : locSet loc H.length l H.length = some l := by simp [locSet]
 have hget : ∀ i o', (H ++ [o])[i]? = some o' → (i < H.length ∧ H[i]? = some o') ∨ (i = H.length ∧ o' = o) := by
  intro i o' hi
  rcases Nat.lt_trichotomy i H.length with hlt | heq | hgt
  ·rw [List.getElem?_append_left hlt] at hi; exact .inl ⟨hlt, hi⟩
  ·subst heq; simp at hi; exact .inr ⟨rfl, hi.symm⟩
  ·rw [List.getElem?_eq_none (by simp; omega)] at hi; cases hi
 have hblk : ∀ i o' l' b, H[i]? = some o' → (o' = .gone → False) → loc i = some l' → l'.block? = some b → b < w.heap.size := by
  intro i o' l' b hi hg hl' hb
  exact ((h.objs i o' hi).block_lt hg (by rw [hl']; exact hb)).1
 refine ⟨⟨?_, ?_, ?_, ?_, ?_⟩, ⟨rfl, by simp, rfl, rfl, rfl, ?_, hk.imm, hk.shape, ?_, hold, by simp⟩⟩
 ·have := h.base; simp [Mem.grow]; omega
 ·intro b hb
  simp only [Mem.grow] at hb ⊢
  by_cases e : b = w.heap.size
  ·subst e
   rw [if_pos rfl] at hb ⊢
   obtain ⟨cs, T, fr, rfl, hc⟩ := hn hb
   exact ⟨h.base, cs, T, fr, heap_alloc_new _ _, hc⟩
  ·rw [if_neg e] at hb ⊢
   obtain ⟨h1, cs, T, fr, h2, h3⟩ := h.ext b hb
   exact ⟨h1, cs, T, fr, by rw [heap_alloc_lt (cells_lt h2)]; exact h2, h3⟩
 ·intro i hi
  simp only [List.length_append, List.length_singleton] at hi
  simp only [locSet]; rw [if_neg (by omega)]; exact h.dom i (by omega)
 ·intro i o' hi
  rcases hget i o' hi with ⟨hlt, hi'⟩ | ⟨rfl, rfl⟩
  ·rw [hold i hlt]
   by_cases hg : o' = .gone
   ·subst hg; trivial
   ·refine (h.objs i o' hi').keeps_far hk rfl (fun b hb => ?_)
    have hlt' := (h.objs i o' hi').block_lt hg hb
    exact ⟨heap_alloc_lt hlt'.1, by simp only [Mem.grow]; rw [if_neg (Nat.ne_of_lt hlt'.1)]⟩
  ·rw [hnew]; exact ho
 ·intro i j oi oj li lj b hi hj gi gj hli hlj bi bj
  rcases hget i oi hi with ⟨hlt, hi'⟩ | ⟨rfl, rfl⟩
  ·rw [hold i hlt] at hli
   rcases hget j oj hj with ⟨hlt2, hj'⟩ | ⟨rfl, rfl⟩
   ·rw [hold j hlt2] at hlj
    exact h.inj i j oi oj li lj b hi' hj' gi gj hli hlj bi bj
   ·rw [hnew] at hlj; cases hlj
    have := hblk i oi li b hi' gi hli bi
    rcases hl with e | e
    ·rw [e] at bj; cases bj
    ·rw [e] at bj; cases bj; omega
  ·rw [hnew] at hli; cases hli
   rcases hget j oj hj with ⟨hlt2, hj'⟩ | ⟨rfl, rfl⟩
   ·rw [hold j hlt2] at hlj
    have := hblk j oj lj b hj' gj hlj bj
    rcases hl with e | e
    ·rw [e] at bi; cases bi
    ·rw [e] at bi; cases bi; omega
   ·rfl
 ·intro b hb _
  exact ⟨heap_alloc_lt hb, by simp only [Mem.grow]; rw [if_neg (Nat.ne_of_lt hb)]⟩
 ·intro b hb ⟨i, o', l', hi, hg, hl', hbl⟩
  rcases hget i o' hi with ⟨hlt, hi'⟩ | ⟨rfl, rfl⟩
  ·rw [hold i hlt] at hl'
   exact ⟨i, o', l', hi', hg, hl', hbl⟩
  ·rw [hnew] at hl'; cases hl'
   rcases hl with e | e
   ·rw [e] at hbl; cases hbl
   ·rw [e] at hbl; cases hbl; omega
theorem Rel.drop {M loc H w} (h : Rel M loc H w) (id : Nat) : Rel M loc (H.set id .gone) w ∧ Step M loc H w M loc (H.set id .gone) w := by
 have hget : ∀ (i : Nat) (o : AObj), (H.set id AObj.gone)[i]? = some o → (o = AObj.gone → False) → H[i]? = some o := by
  intro i o hi hg
  rw [List.getElem?_set] at hi
  split at hi
  ·split at hi
   ·cases hi; exact (hg rfl).elim
   ·cases hi
  ·exact hi
 refine ⟨⟨h.base, h.ext, fun i hi => h.dom i (by simpa using hi), ?_, ?_⟩, ⟨rfl, Nat.le_refl _, rfl, rfl, rfl, fun _ _ _ => ⟨rfl, rfl⟩, fun _ _ _ h => h, fun _ cs _ fr h => ⟨cs, fr, h, rfl⟩, ?_, fun _ _ => rfl, by simp⟩⟩
 ·intro i o hi
  by_cases hg : o = .gone
  ·subst hg; trivial
  ·exact h.objs i o (hget i o hi hg)
 ·intro i j oi oj li lj b hi hj gi gj
  exact h.inj i j oi oj li lj b (hget i oi hi gi) (hget j oj hj gj) gi gj
 ·intro b _ ⟨i, o, l, hi, hg, rest⟩
  exact ⟨i, o, l, hget i o hi hg, hg, rest⟩
theorem Rel.xtok {M loc H w} (h : Rel M loc H w) : Rel M (locSet loc H.length .xtok) (H ++ [.tok]) w ∧ Step M loc H w M (locSet loc H.length .xtok) (H ++ [.tok]) w := by
 have hold : ∀ i, i < H.length → locSet loc H.length .xtok i = loc i := fun i hi => by simp only [locSet]; rw [if_neg (Nat.ne_of_lt hi)]
 have hnew : locSet loc H.length .xtok H.length = some .xtok := by simp [locSet]
 have hk : Keeps M w loc M w (locSet loc H.length .xtok) := ⟨fun _ _ _ h => h, fun _ cs _ fr h => ⟨cs, fr, h, rfl⟩, fun i l hl => by rw [hold i (h.lt hl)]; exact hl⟩
 have hget : ∀ i o', (H ++ [AObj.tok])[i]? = some o' → (i < H.length ∧ H[i]? = some o') ∨ (i = H.length ∧ o' = .tok) := by
  intro i o' hi
  rcases Nat.lt_trichotomy i H.length with hlt | heq | hgt
  ·rw [List.getElem?_append_left hlt] at hi; exact .inl ⟨hlt, hi⟩
  ·subst heq; simp at hi; exact .inr ⟨rfl, hi.symm⟩
  ·rw [List.getElem?_eq_none (by simp; omega)] at hi; cases hi
 refine ⟨⟨h.base, h.ext, ?_, ?_, ?_⟩, ⟨rfl, Nat.le_refl _, rfl, rfl, rfl, fun _ _ _ => ⟨rfl, rfl⟩, hk.imm, hk.shape, ?_, hold, by simp⟩⟩
 ·intro i hi
  simp only [List.length_append, List.length_singleton] at hi
  simp only [locSet]; rw [if_neg (by omega)]; exact h.dom i (by omega)
 ·intro i o hi
  rcases hget i o hi with ⟨hlt, hi'⟩ | ⟨rfl, rfl⟩
  ·rw [hold i hlt]
   exact (h.objs i o hi').keeps_far hk rfl (fun b _ => ⟨rfl, rfl⟩)
  ·rw [hnew]; exact .inl rfl
 ·intro i j oi oj li lj b hi hj gi gj hli hlj bi bj
  rcases hget i oi hi with ⟨hlt, hi'⟩ | ⟨rfl, rfl⟩
  ·rcases hget j oj hj with ⟨hlt2, hj'⟩ | ⟨rfl, rfl⟩
   ·rw [hold i hlt] at hli; rw [hold j hlt2] at hlj
    exact h.inj i j oi oj li lj b hi' hj' gi gj hli hlj bi bj
   ·rw [hnew] at hlj; cases hlj; cases bj
  ·rw [hnew] at hli; cases hli; cases bi
 ·intro b _ ⟨i, o, l, hi, hg, hl, hb⟩
  rcases hget i o hi with ⟨hlt, hi'⟩ | ⟨rfl, rfl⟩
  ·rw [hold i hlt] at hl; exact ⟨i, o, l, hi', hg, hl, hb⟩
  ·rw [hnew] at hl; cases hl; cases hb
def setBlk (w : World) (b : Nat) (o : Obj) : World := { w with heap := w.heap.setIfInBounds b o }
theorem setBlk_same {w : World} {b : Nat} {o : Obj} (h : b < w.heap.size) : (setBlk w b o).heap[b]? = some o := by
 simp [setBlk, h]
theorem setBlk_other {w : World} {b c : Nat} {o : Obj} (h : c ≠ b) : (setBlk w b o).heap[c]? = w.heap[c]? := by
 simp [setBlk, Array.getElem?_setIfInBounds, Ne.symm h]
theorem Rel.write {M loc H w} (h : Rel M loc H w) (id b : Nat) (o o' : AObj) (ob : Obj) (hid : H[id]? = some o) (hg : o = .gone → False) (hl : loc id = some (.blk b))
  (hob : ∀ cs T fr, w.heap[b]? = some (.cells cs T fr) → ∃ cs' fr', ob = .cells cs' T fr' ∧ cs'.size = cs.size)
  (ho : ORel M (setBlk w b ob) loc (some (.blk b)) o') :
  Rel M loc (H.set id o') (setBlk w b ob) ∧ Step M loc H w M loc (H.set id o') (setBlk w b ob) := by
 have hb0 := (h.objs id o hid).block_lt hg (b := b) (by rw [hl]; rfl)
 have hext : M.ext b = 0 := by
  have := h.objs id o hid
  rw [hl] at this
  cases o with
  | gone => exact (hg rfl).elim
  | cells cs => obtain ⟨b', vs, T, fr, e, h1, h2, _⟩ := this; cases e; exact h2
  | tok => rcases this with e | ⟨b', e, vs, T, fr, e', _⟩; cases e; cases e'
  | arr sz s => obtain ⟨b', vs, T, fr, e, h1, h2, _⟩ := this; cases e; exact h2
  | siter s pos => obtain ⟨b', e, h1, h2, _⟩ := this; cases e; exact h2
  | mp es => obtain ⟨b', ents, clock, e, h1, h2, _⟩ := this; cases e; exact h2
  | mpv es z => obtain ⟨b', ents, clock, e, h1, h2, _⟩ := this; cases e; exact h2
  | mit id z ps => obtain ⟨b', mb, seen, e, h1, h2, _⟩ := this; cases e; exact h2
  | csz id sz c => obtain ⟨e, _⟩ := this; cases e
  | lp N s ps asg body st => obtain ⟨b', rec, e, h1, h2, _⟩ := this; cases e; exact h2
 have hk : Keeps M w loc M (setBlk w b ob) loc := by
  refine ⟨?_, ?_, fun _ _ h => h⟩
  ·intro c k v hi
   by_cases e : c = b
   ·subst e
    rcases hi.2 with e1 | e1
    ·omega
    ·omega
   ·exact ⟨by rw [cell_of_heap (setBlk_other e)]; exact hi.1, hi.2⟩
  ·intro c cs T fr hc
   by_cases e : c = b
   ·subst e
    obtain ⟨cs', fr', rfl, hs⟩ := hob cs T fr hc
    exact ⟨cs', fr', setBlk_same hb0.1, hs⟩
   ·exact ⟨cs, fr, by rw [setBlk_other e]; exact hc, rfl⟩
 have hget : ∀ (i : Nat) (q : AObj), (H.set id o')[i]? = some q → (i ≠ id ∧ H[i]? = some q) ∨ (i = id ∧ q = o') := by
  intro i q hi
  rw [List.getElem?_set] at hi
  split at hi
  ·rename_i e
   split at hi
   ·cases hi; exact .inr ⟨e.symm, rfl⟩
   ·cases hi
  ·rename_i e
   exact .inl ⟨fun x => e x.symm, hi⟩
 refine ⟨⟨by simpa [setBlk] using h.base, ?_, fun i hi => h.dom i (by simpa using hi), ?_, ?_⟩, ⟨rfl, by simp [setBlk], rfl, rfl, rfl, ?_, hk.imm, hk.shape, ?_, fun _ _ => rfl, by simp⟩⟩
 ·intro c hc
  obtain ⟨h1, cs, T, fr, h2, h3⟩ := h.ext c hc
  exact ⟨h1, cs, T, fr, by rw [setBlk_other (by rintro rfl; omega)]; exact h2, h3⟩
 ·intro i q hi
  rcases hget i q hi with ⟨hne, hi'⟩ | ⟨rfl, rfl⟩
  ·by_cases hq : q = .gone
   ·subst hq; trivial
   ·refine (h.objs i q hi').keeps_far hk rfl (fun c hc => ⟨setBlk_other ?_, rfl⟩)
    rintro rfl
    cases hli : loc i with
    | none => rw [hli] at hc; cases hc
    | some li =>
     rw [hli] at hc
     exact hne (h.inj i id q o li (.blk c) c hi' hid hq hg hli hl hc rfl)
  ·rw [hl]; exact ho
 ·intro i j oi oj li lj c hi hj gi gj hli hlj bi bj
  rcases hget i oi hi with ⟨hne, hi'⟩ | ⟨rfl, rfl⟩
  ·rcases hget j oj hj with ⟨hne2, hj'⟩ | ⟨rfl, rfl⟩
   ·exact h.inj i j oi oj li lj c hi' hj' gi gj hli hlj bi bj
   ·exact h.inj i j oi o li lj c hi' hid gi hg hli hlj bi bj
  ·rcases hget j oj hj with ⟨hne2, hj'⟩ | ⟨rfl, rfl⟩
   ·exact h.inj i j o oj li lj c hid hj' hg gj hli hlj bi bj
   ·rfl
 ·intro c hc hno
  refine ⟨setBlk_other ?_, rfl⟩
  rintro rfl
  exact hno ⟨id, o, .blk c, hid, hg, hl, rfl⟩
 ·intro c hc ⟨i, q, l, hi, hgq, hli, hbl⟩
  rcases hget i q hi with ⟨hne, hi'⟩ | ⟨rfl, rfl⟩
  ·exact ⟨i, q, l, hi', hgq, hli, hbl⟩
  ·exact ⟨i, o, l, hid, hg, hli, hbl⟩
theorem Rel.extend {M loc H w} (h : Rel M loc H w) (id b e e' : Nat) (cs cs' : Array Value) (T : TypeId) (fr : Nat × Nat) (hid : H[id]? = some .tok) (hl : loc id = some (.tok b e))
    (hb : w.heap[b]? = some (.cells cs T fr)) (hee : e ≤ e') (hs : cs'.size = cs.size) (he' : e' ≤ cs'.size) (hsame : ∀ k, k < e → cs'[k]? = cs[k]?) :
    Rel (M.grow b e') (locSet loc H.length (.tok b e')) (H.set id .gone ++ [.tok]) (setBlk w b (.cells cs' T fr)) ∧
    Step M loc H w (M.grow b e') (locSet loc H.length (.tok b e')) (H.set id .gone ++ [.tok]) (setBlk w b (.cells cs' T fr)) := by
  have hng : (AObj.tok = AObj.gone → False) := by intro h; cases h
  have hb0 := (h.objs id .tok hid).block_lt hng (b := b) (by rw [hl]; rfl)
  obtain ⟨hext, hsoft⟩ : M.ext b = e ∧ soft cs fr := by
    have := h.objs id .tok hid
    rw [hl] at this
    rcases this with e1 | ⟨b', e1, vs, T', fr', e2, h1, h2, h3, h4⟩
    · cases e1
    · cases e2; rw [hb] at h3; cases h3; exact ⟨h2, h4⟩
  have hold : ∀ i, i < H.length → locSet loc H.length (.tok b e') i = loc i := fun i hi => by simp only [locSet]; rw [if_neg (Nat.ne_of_lt hi)]
  have hnew : locSet loc H.length (.tok b e') H.length = some (.tok b e') := by simp [locSet]
  have hidlt : id < H.length := by
    rcases Nat.lt_or_ge id H.length with q | q
    · exact q
    · rw [List.getElem?_eq_none q] at hid; cases hid
  have hk : Keeps M w loc (M.grow b e') (setBlk w b (.cells cs' T fr)) (locSet loc H.length (.tok b e')) := by
    refine ⟨?_, ?_, fun i l hl => by rw [hold i (h.lt hl)]; exact hl⟩
    · intro c k v hi
      by_cases ec : c = b
      · subst ec
        rcases hi.2 with e1 | e1
        · omega
        · rw [hext] at e1
          refine ⟨?_, .inr (by simp only [Mem.grow]; rw [if_pos trivial]; omega)⟩
          have h1 := hi.1
          simp only [World.cell?, hb] at h1
          simp only [World.cell?, setBlk_same hb0.1]
          simp only [Option.isSome_none, Bool.false_eq_true, if_false] at h1 ⊢
          rw [hsame k e1]; exact h1
      · refine ⟨by rw [cell_of_heap (setBlk_other ec)]; exact hi.1, ?_⟩
        simp only [Mem.grow]; rw [if_neg ec]; exact hi.2
    · intro c ds T' fr' hc
      by_cases ec : c = b
      · subst ec
        rw [hb] at hc; cases hc
        exact ⟨cs', fr, setBlk_same hb0.1, hs⟩
      · exact ⟨ds, fr', by rw [setBlk_other ec]; exact hc, rfl⟩
  have hget : ∀ (i : Nat) (q : AObj), (H.set id AObj.gone ++ [AObj.tok])[i]? = some q → (q = .gone → False) → (i < H.length ∧ i ≠ id ∧ H[i]? = some q) ∨ (i = H.length ∧ q = .tok) := by
    intro i q hi hq
    rcases Nat.lt_trichotomy i H.length with hlt | heq | hgt
    · rw [List.getElem?_append_left (by simpa using hlt), List.getElem?_set] at hi
      split at hi
      · first
        | (cases hi; exact (hq rfl).elim)
        | (split at hi
           · cases hi; exact (hq rfl).elim
           · cases hi)
      · rename_i e1; exact .inl ⟨hlt, fun x => e1 x.symm, hi⟩
    · subst heq
      rw [List.getElem?_append_right (by simp)] at hi
      simp at hi; exact .inr ⟨rfl, hi.symm⟩
    · rw [List.getElem?_eq_none (by simp; omega)] at hi; cases hi
  have hfarb : ∀ i q li, H[i]? = some q → (q = .gone → False) → i ≠ id → loc i = some li → li.block? = some b → False := by
    intro i q li hi hq hne hli hbl
    exact hne (h.inj i id q .tok li (.tok b e) b hi hid hq hng hli hl hbl rfl)
  refine ⟨⟨by simpa [setBlk, Mem.grow] using h.base, ?_, ?_, ?_, ?_⟩, ⟨rfl, by simp [setBlk], rfl, rfl, rfl, ?_, hk.imm, hk.shape, ?_, hold, by simp⟩⟩
  · intro c hc
    simp only [Mem.grow] at hc ⊢
    by_cases ec : c = b
    · subst ec
      rw [if_pos rfl] at hc ⊢
      exact ⟨hb0.2, cs', T, fr, setBlk_same hb0.1, he'⟩
    · rw [if_neg ec] at hc ⊢
      obtain ⟨h1, ds, T', fr', h2, h3⟩ := h.ext c hc
      exact ⟨h1, ds, T', fr', by rw [setBlk_other ec]; exact h2, h3⟩
  · intro i hi
    simp only [List.length_append, List.length_set, List.length_singleton] at hi
    simp only [locSet]; rw [if_neg (by omega)]; exact h.dom i (by omega)
  · intro i q hi
    by_cases hq : q = .gone
    · subst hq; trivial
    · rcases hget i q hi hq with ⟨hlt, hne, hi'⟩ | ⟨rfl, rfl⟩
      · rw [hold i hlt]
        refine (h.objs i q hi').keeps_far hk rfl (fun c hc => ?_)
        have hcb : c ≠ b := by
          rintro rfl
          cases hli : loc i with
          | none => rw [hli] at hc; cases hc
          | some li => rw [hli] at hc; exact hfarb i q li hi' hq hne hli hc
        exact ⟨setBlk_other hcb, by simp only [Mem.grow]; rw [if_neg hcb]⟩
      · rw [hnew]
        refine .inr ⟨b, e', cs', T, fr, rfl, hb0.2, by simp [Mem.grow], setBlk_same hb0.1, ?_⟩
        intro k hk'; exact hsoft k (by omega)
  · intro i j oi oj li lj c hi hj gi gj hli hlj bi bj
    rcases hget i oi hi gi with ⟨hlt, hne, hi'⟩ | ⟨rfl, rfl⟩
    · rcases hget j oj hj gj with ⟨hlt2, hne2, hj'⟩ | ⟨rfl, rfl⟩
      · rw [hold i hlt] at hli; rw [hold j hlt2] at hlj
        exact h.inj i j oi oj li lj c hi' hj' gi gj hli hlj bi bj
      · rw [hold i hlt] at hli
        rw [hnew] at hlj; cases hlj; cases bj
        exact (hfarb i oi li hi' gi hne hli bi).elim
    · rcases hget j oj hj gj with ⟨hlt2, hne2, hj'⟩ | ⟨rfl, rfl⟩
      · rw [hnew] at hli; cases hli; cases bi
        rw [hold j hlt2] at hlj
        exact (hfarb j oj lj hj' gj hne2 hlj bj).elim
      · rfl
  · intro c hc hno
    have hcb : c ≠ b := by
      rintro rfl
      exact hno ⟨id, .tok, .tok c e, hid, hng, hl, rfl⟩
    exact ⟨setBlk_other hcb, by simp only [Mem.grow]; rw [if_neg hcb]⟩
  · intro c hc ⟨i, q, l, hi, hq, hli, hbl⟩
    rcases hget i q hi hq with ⟨hlt, hne, hi'⟩ | ⟨rfl, rfl⟩
    · rw [hold i hlt] at hli; exact ⟨i, q, l, hi', hq, hli, hbl⟩
    · rw [hnew] at hli; cases hli; cases hbl
      exact ⟨id, .tok, .tok b e, hid, hng, hl, rfl⟩
structure SameMem (w w' : World) : Prop where
 heap : w'.heap = w.heap
 os : w'.os = w.os
 tape : w'.tape = w.tape
 output : w'.output = w.output
theorem SameMem.keeps {w w'} (h : SameMem w w') (M loc) : Keeps M w loc M w' loc :=
 ⟨fun b k v hi => ⟨by have := hi.1; simp only [World.cell?, h.heap] at this ⊢; exact this, hi.2⟩, fun b cs T fr hb => ⟨cs, fr, by rw [h.heap]; exact hb, rfl⟩, fun _ _ h => h⟩
theorem Rel.same {M loc H w w'} (h : Rel M loc H w) (hs : SameMem w w') : Rel M loc H w' ∧ Step M loc H w M loc H w' := by
 have hk := hs.keeps M loc
 refine ⟨⟨by rw [hs.heap]; exact h.base, fun b hb => by rw [hs.heap]; exact h.ext b hb, h.dom, fun i o ho => (h.objs i o ho).keeps_far hk rfl (fun b _ => ⟨by rw [hs.heap], rfl⟩), h.inj⟩,
  ⟨rfl, by rw [hs.heap]; exact Nat.le_refl _, hs.os, hs.tape, hs.output, fun b _ _ => ⟨by rw [hs.heap], rfl⟩, hk.imm, hk.shape, fun _ _ h => h, fun _ _ => rfl, Nat.le_refl _⟩⟩
theorem Rel.ghost {M loc H w} (h : Rel M loc H w) (og : AObj) (hog : ORel M w (locSet loc H.length .xtok) (some .xtok) og) : Rel M (locSet loc H.length .xtok) (H ++ [og]) w ∧ Step M loc H w M (locSet loc H.length .xtok) (H ++ [og]) w := by
 have hold : ∀ i, i < H.length → locSet loc H.length .xtok i = loc i := fun i hi => by simp only [locSet]; rw [if_neg (Nat.ne_of_lt hi)]
 have hnew : locSet loc H.length .xtok H.length = some .xtok := by simp [locSet]
 have hk : Keeps M w loc M w (locSet loc H.length .xtok) := ⟨fun _ _ _ h => h, fun _ cs _ fr h => ⟨cs, fr, h, rfl⟩, fun i l hl => by rw [hold i (h.lt hl)]; exact hl⟩
 have hget : ∀ i o', (H ++ [og])[i]? = some o' → (i < H.length ∧ H[i]? = some o') ∨ (i = H.length ∧ o' = og) := by
  intro i o' hi
  rcases Nat.lt_trichotomy i H.length with hlt | heq | hgt
  ·rw [List.getElem?_append_left hlt] at hi; exact .inl ⟨hlt, hi⟩
  ·subst heq; simp at hi; exact .inr ⟨rfl, hi.symm⟩
  ·rw [List.getElem?_eq_none (by simp; omega)] at hi; cases hi
 refine ⟨⟨h.base, h.ext, ?_, ?_, ?_⟩, ⟨rfl, Nat.le_refl _, rfl, rfl, rfl, fun _ _ _ => ⟨rfl, rfl⟩, hk.imm, hk.shape, ?_, hold, by simp⟩⟩
 ·intro i hi
  simp only [List.length_append, List.length_singleton] at hi
  simp only [locSet]; rw [if_neg (by omega)]; exact h.dom i (by omega)
 ·intro i o hi
  rcases hget i o hi with ⟨hlt, hi'⟩ | ⟨rfl, rfl⟩
  ·rw [hold i hlt]
   exact (h.objs i o hi').keeps_far hk rfl (fun b _ => ⟨rfl, rfl⟩)
  ·rw [hnew]; exact hog
 ·intro i j oi oj li lj b hi hj gi gj hli hlj bi bj
  rcases hget i oi hi with ⟨hlt, hi'⟩ | ⟨rfl, rfl⟩
  ·rcases hget j oj hj with ⟨hlt2, hj'⟩ | ⟨rfl, rfl⟩
   ·rw [hold i hlt] at hli; rw [hold j hlt2] at hlj
    exact h.inj i j oi oj li lj b hi' hj' gi gj hli hlj bi bj
   ·rw [hnew] at hlj; cases hlj; cases bj
  ·rw [hnew] at hli; cases hli; cases bi
 ·intro b _ ⟨i, o, l, hi, hg, hl, hb⟩
  rcases hget i o hi with ⟨hlt, hi'⟩ | ⟨rfl, rfl⟩
  ·rw [hold i hlt] at hl; exact ⟨i, o, l, hi', hg, hl, hb⟩
  ·rw [hnew] at hl; cases hl; cases hb
theorem Rel.respell {M : Mem} {w : World} {loc : Locs} {H : List AObj} (hr : Rel M loc H w) (id : Nat) (o o' : AObj) (ho : H[id]? = some o) (hg : o = .gone → False) (hg' : o' = .gone → False) (h : ORel M w loc (loc id) o → ORel M w loc (loc id) o') :
  Rel M loc (H.set id o') w ∧ Step M loc H w M loc (H.set id o') w := by
 have hget : ∀ (i : Nat) (q : AObj), (H.set id o')[i]? = some q → (i ≠ id ∧ H[i]? = some q) ∨ (i = id ∧ q = o') := by
  intro i q hi
  rw [List.getElem?_set] at hi
  split at hi
  ·rename_i e
   split at hi
   ·cases hi; exact .inr ⟨e.symm, rfl⟩
   ·cases hi
  ·rename_i e
   exact .inl ⟨fun x => e x.symm, hi⟩
 refine ⟨⟨hr.base, hr.ext, fun i hi => hr.dom i (by simpa using hi), ?_, ?_⟩, ⟨rfl, Nat.le_refl _, rfl, rfl, rfl, fun _ _ _ => ⟨rfl, rfl⟩, fun _ _ _ h => h, fun _ cs _ fr h => ⟨cs, fr, h, rfl⟩, ?_, fun _ _ => rfl, by simp⟩⟩
 ·intro i q hi
  rcases hget i q hi with ⟨hne, hi'⟩ | ⟨rfl, rfl⟩
  ·exact hr.objs i q hi'
  ·exact h (hr.objs i o ho)
 ·intro i j oi oj li lj c hi hj gi gj hli hlj bi bj
  rcases hget i oi hi with ⟨hne, hi'⟩ | ⟨rfl, rfl⟩
  ·rcases hget j oj hj with ⟨hne2, hj'⟩ | ⟨rfl, rfl⟩
   ·exact hr.inj i j oi oj li lj c hi' hj' gi gj hli hlj bi bj
   ·exact hr.inj i j oi o li lj c hi' ho gi hg hli hlj bi bj
  ·rcases hget j oj hj with ⟨hne2, hj'⟩ | ⟨rfl, rfl⟩
   ·exact hr.inj i j o oj li lj c ho hj' hg gj hli hlj bi bj
   ·rfl
 ·intro c hc ⟨i, q, l, hi, hgq, hli, hbl⟩
  rcases hget i q hi with ⟨hne, hi'⟩ | ⟨rfl, rfl⟩
  ·exact ⟨i, q, l, hi', hgq, hli, hbl⟩
  ·exact ⟨i, o, l, ho, hg, hli, hbl⟩
structure Grown (w w' : World) : Prop where
 size : w.heap.size ≤ w'.heap.size
 same : ∀ b, b < w.heap.size → w'.heap[b]? = w.heap[b]?
 os : w'.os = w.os
 tape : w'.tape = w.tape
 output : w'.output = w.output
theorem Rel.grown {M : Mem} {w w' : World} {loc : Locs} {H : List AObj} (hr : Rel M loc H w) (hg : Grown w w') : Rel M loc H w' ∧ Step M loc H w M loc H w' := by
 have hk : Keeps M w loc M w' loc := by
  refine ⟨fun b k v hi => ?_, fun b cs T fr hb => ⟨cs, fr, by rw [hg.same b (cells_lt hb)]; exact hb, rfl⟩, fun i l hl => hl⟩
  obtain ⟨h1, h2⟩ := hi
  exact ⟨by rw [cell_of_heap (hg.same b (cell_lt h1))]; exact h1, h2⟩
 have hfar : ∀ i o, H[i]? = some o → ORel M w' loc (loc i) o := by
  intro i o hi
  by_cases hgone : o = .gone
  ·subst hgone; trivial
  ·exact (hr.objs i o hi).keeps_far hk rfl (fun b hb => ⟨hg.same b ((hr.objs i o hi).block_lt hgone hb).1, rfl⟩)
 refine ⟨⟨Nat.le_trans hr.base hg.size, fun b hb => ?_, hr.dom, hfar, hr.inj⟩,
  ⟨rfl, hg.size, hg.os, hg.tape, hg.output, fun b hb _ => ⟨hg.same b hb, rfl⟩, hk.imm, hk.shape, fun b _ h => h, fun _ _ => rfl, Nat.le_refl _⟩⟩
 obtain ⟨h1, cs, T, fr, h2, h3⟩ := hr.ext b hb
 exact ⟨h1, cs, T, fr, by rw [hg.same b (cells_lt h2)]; exact h2, h3⟩
theorem Rel.poke {M : Mem} {w : World} {loc : Locs} {H : List AObj} (hr : Rel M loc H w) {D : Nat} {x : Option (List Deferred)} (hD : w.heap[D]? = some (.deferred x)) (hno : ¬ Owned loc H D) (o : Obj) (ho : ∀ cs T fr, o = .cells cs T fr → False) :
  Rel M loc H (setBlk w D o) ∧ Keeps M w loc M (setBlk w D o) loc := by
 have hcell : ∀ (b : Nat) (cs : Array Value) (T : TypeId) (fr : Nat × Nat), w.heap[b]? = some (.cells cs T fr) → b ≠ D := by
  rintro b cs T fr hb rfl
  rw [hD] at hb; cases hb
 have hk : Keeps M w loc M (setBlk w D o) loc := by
  refine ⟨fun b k v hi => ?_, fun b cs T fr hb => ⟨cs, fr, by rw [setBlk_other (hcell b cs T fr hb)]; exact hb, rfl⟩, fun _ _ h => h⟩
  obtain ⟨h1, h2⟩ := hi
  have hne : b ≠ D := by
   rintro rfl
   unfold World.cell? at h1
   simp only [hD] at h1
   cases h1
  exact ⟨by rw [cell_of_heap (setBlk_other hne)]; exact h1, h2⟩
 refine ⟨⟨by simpa [setBlk] using hr.base, fun b hb => ?_, hr.dom, fun i q hi => ?_, hr.inj⟩, hk⟩
 ·obtain ⟨h1, cs, T, fr, h2, h3⟩ := hr.ext b hb
  exact ⟨h1, cs, T, fr, by rw [setBlk_other (hcell b cs T fr h2)]; exact h2, h3⟩
 ·by_cases hg : q = .gone
  ·subst hg; trivial
  ·refine (hr.objs i q hi).keeps_far hk rfl (fun b hb => ⟨setBlk_other ?_, rfl⟩)
   rintro rfl
   cases hli : loc i with
   | none => rw [hli] at hb; cases hb
   | some li =>
    rw [hli] at hb
    exact hno ⟨i, q, li, hi, fun e => hg e, hli, hb⟩
theorem StepN.poke {n : Nat} {M M' : Mem} {loc loc' : Locs} {H H' : List AObj} {w w' : World} (h : StepN n M loc H w M' loc' H' w') {D : Nat} {x : Option (List Deferred)} (hD0 : w.heap.size ≤ D) (hD : w'.heap[D]? = some (.deferred x)) {o : Obj} :
  StepN n M loc H w M' loc' H' (setBlk w' D o) := by
 refine ⟨h.base, by simpa [setBlk] using h.size, h.os, h.tape, h.output, fun b hb hn => ?_, fun b k v hi => ?_, fun b cs T fr hb => ?_, h.own, h.locs, h.len⟩
 ·have hne : b ≠ D := by omega
  rw [setBlk_other hne]
  exact h.keep b hb hn
 ·obtain ⟨h1, h2⟩ := h.imm b k v hi
  have hne : b ≠ D := by
   rintro rfl
   unfold World.cell? at h1
   simp only [hD] at h1
   cases h1
  exact ⟨by rw [cell_of_heap (setBlk_other hne)]; exact h1, h2⟩
 ·obtain ⟨cs', fr', e1, e2⟩ := h.shape b cs T fr hb
  have hne : b ≠ D := by
   rintro rfl
   rw [hD] at e1; cases e1
  exact ⟨cs', fr', by rw [setBlk_other hne]; exact e1, e2⟩
end Go.Ab
end

noncomputable section
namespace Go.Ab
def GoodV (P : Program) (M : Mem) (loc : Locs) (H : List AObj) (w : World) (K : AV → List AObj → Prop) (r : Result Value) : Prop :=
 ∃ v w' av H' M' loc', r = .ok v w' ∧ K av H' ∧ Rel M' loc' H' w' ∧ VRel M' w' loc' av v ∧ Step M loc H w M' loc' H' w'
section
variable {P : Program} {M : Mem} {loc : Locs} {H : List AObj} {w : World} {K : AV → List AObj → Prop}
theorem GoodV.pure (hr : Rel M loc H w) {v av} (hv : VRel M w loc av v) (hK : K av H) : GoodV P M loc H w K (.ok v w) :=
 ⟨v, w, av, H, M, loc, rfl, hK, hr, hv, Step.refl _ _ _ _⟩
theorem vrel_cell (v : Value) : VRel M w loc (ofCell v) v := by
 unfold ofCell
 split <;> first
  | exact .int _ _ | exact .bool _ | exact .str _ | exact .nilp | exact .nilf | exact .nili | exact .nmap | exact .bad _
  | exact .slnil _ _ _ rfl (fun _ h => by cases h)
theorem vrel_const (v : Value) : VRel M w loc (ofConst v) v := by
 cases v with
 | agg cs =>
  refine .agg _ _ (by simp) (fun i hi => ?_)
  simp only [List.getElem_map, Array.getElem_toList]
  exact vrel_cell _
 | _ => (simp only [ofConst]; exact vrel_cell _)
theorem vrel_ev {s : Slots} {a : Act} (hs : SRel M w loc s a.tmps) (x : Operand) : VRel M w loc (ev s x) (a.eval x) := by
 cases x with
 | tmp t => exact hs t
 | const v => exact vrel_const v
 | global g => exact .bad _
 | func f => exact .fn f [] #[] rfl (fun i h => by cases h)
theorem cellsOf_rel {a v cs} (h : cellsOf a = some cs) (hv : VRel M w loc a v) :
    ∃ hs : v.cells.size = cs.length, ∀ i (h : i < cs.length), VRel M w loc cs[i] (v.cells[i]'(by omega)) := by
  cases hv <;> simp only [cellsOf, Option.some.injEq, reduceCtorEq] at h <;> subst h <;>
    first
    | exact ⟨by assumption, by assumption⟩
    | (refine ⟨rfl, fun i hi => ?_⟩
       have : i = 0 := by simpa using hi
       subst this
       first
       | exact .int _ _ | exact .bool _ | exact .str _ | exact .nilp | exact .nilf | exact .nili | exact .nmap
       | (constructor <;> assumption)
       | (refine .iptr _ _ _ _ _ ?_ ?_ <;> assumption)
       | (refine .sl _ _ _ _ _ _ _ ?_ ?_ ?_ ?_ ?_ ?_ ?_ <;> assumption))
theorem oneCell_of {a v} (h : oneAV a = true) (hv : VRel M w loc a v) : v.oneCell' = true := by
 cases hv <;> first | rfl | (simp [oneAV] at h)
theorem run_underlying' {t : TypeId} {d : TypeDesc} (h : P.underlying t = some d) (w : World) : (underlying t).run P w = .ok d w := by
 simp [underlying, h]
theorem run_typeInfo' {t : TypeId} {i : TypeInfo} (h : P.info? t = some i) (w : World) : (typeInfo t).run P w = .ok i w := by
 simp [typeInfo, h]
theorem sizeT_info {t : TypeId} {n : Nat} (h : sizeT P t = some n) : ∃ i, P.info? t = some i ∧ i.size = n := by
 unfold sizeT at h
 cases hi : P.info? t with
 | none => simp [hi] at h
 | some i => exact ⟨i, rfl, by simpa [hi] using h⟩
theorem bytesT_info {t : TypeId} {n : Nat} (h : bytesT P t = some n) : ∃ i, P.info? t = some i ∧ i.bytes = n := by
 unfold bytesT at h
 cases hi : P.info? t with
 | none => simp [hi] at h
 | some i => exact ⟨i, rfl, by simpa [hi] using h⟩
theorem run_sizeOf' {t : TypeId} {n : Nat} (h : sizeT P t = some n) (w : World) : (sizeOf t).run P w = .ok n w := by
 obtain ⟨i, hi, e⟩ := sizeT_info h
 simp [sizeOf, run_typeInfo' hi, e]
theorem run_isAgg' {t : TypeId} {b : Bool} (h : aggT P t = some b) (w : World) : (isAgg t).run P w = .ok b w := by
 unfold aggT at h
 cases hu : P.underlying t with
 | none => simp [hu] at h
 | some d =>
  simp [hu] at h
  subst h
  simp only [isAgg, Sem.run_bind, run_underlying' hu, Result.andThen_ok]
  cases d <;> rfl
theorem zeroT_run {t : TypeId} {z : List AV} (h : zeroT P t = some z) (w : World) : ∃ v, (zeroValue t).run P w = .ok v w ∧ z = v.cells.toList.map ofCell ∧
  ∃ i, P.info? t = some i ∧ i.zero = some v := by
 unfold zeroT at h
 cases hi : P.info? t with
 | none => simp [hi] at h
 | some i =>
  cases hz : i.zero with
  | none => simp [hi, hz] at h
  | some v =>
   simp [hi, hz] at h
   exact ⟨v, by simp [zeroValue, run_typeInfo' hi, hz], h.symm, i, rfl, hz⟩
theorem cells_ofCell_rel (cs : Array Value) : ∀ i (h : i < (cs.toList.map ofCell).length), VRel M w loc ((cs.toList.map ofCell)[i]) (cs[i]'(by simpa using h)) := by
 intro i hi
 simp only [List.getElem_map, Array.getElem_toList]
 exact vrel_cell _
theorem add_mk (b o n : Nat) : (⟨b, o, none⟩ : Addr).add n = ⟨b, o + n, none⟩ := by
 unfold Addr.add
 split
 ·subst_vars; rfl
 ·rfl
theorem load_part {t : TypeId} {cs : List AV} {off : Nat} {av : AV} (h : partOf P t cs off = some av) (b o : Nat) (vals : Nat → Value)
  (h1 : ∀ j, j < cs.length → w.cell? ⟨b, o + j, none⟩ = some (vals j)) (h2 : ∀ j (hj : j < cs.length), VRel M w loc cs[j] (vals j)) :
  ∃ v, (loadVar t ⟨b, o + off, none⟩).run P w = .ok v w ∧ VRel M w loc av v := by
 unfold partOf at h
 cases ha : aggT P t with
 | none => simp [ha] at h
 | some q =>
  cases hz : sizeT P t with
  | none => cases q <;> simp [ha, hz] at h
  | some n =>
   cases q with
   | true =>
    simp only [ha, hz] at h
    cases hb : Nat.ble (off + n) cs.length with
    | false => simp [hb] at h
    | true =>
     simp only [hb, cond_true, Option.some.injEq] at h
     subst h
     have hle : off + n ≤ cs.length := Nat.le_of_ble_eq_true hb
     refine ⟨.agg ((List.range n).map fun j => vals (off + j)).toArray, ?_, ?_⟩
     ·simp only [loadVar, Sem.run_bind, run_isAgg' ha, Result.andThen_ok, if_true, run_sizeOf' hz]
      rw [run_loadCells w ⟨b, o + off, none⟩ n (fun j => vals (off + j)) (fun j hj => by
       rw [add_mk]; have := h1 (off + j) (by omega); rwa [← Nat.add_assoc] at this)]
      rfl
     ·refine .agg _ _ (by simp; omega) (fun i hi => ?_)
      have hi' : i < n := by simp at hi; omega
      simp only [List.getElem_take, List.getElem_drop, List.getElem_toArray, List.getElem_map, List.getElem_range]
      exact h2 (off + i) (by omega)
   | false =>
    simp only [ha, hz] at h
    obtain ⟨hlt, e⟩ := List.getElem?_eq_some_iff.1 h
    subst e
    refine ⟨vals off, ?_, h2 off hlt⟩
    simp only [loadVar, Sem.run_bind, run_isAgg' ha, Result.andThen_ok]
    simp [h1 off hlt]
def storeAll : Array Value → Nat → List Value → Array Value
 | cs, _, [] => cs
 | cs, o, v :: r => storeAll (cs.setIfInBounds o v) (o + 1) r
theorem storeAll_size : ∀ (vs : List Value) (cs : Array Value) (o : Nat), (storeAll cs o vs).size = cs.size
 | [], cs, o => rfl
 | v :: r, cs, o => by simp [storeAll, storeAll_size r]
theorem storeAll_get : ∀ (vs : List Value) (cs : Array Value) (o k : Nat), o + vs.length ≤ cs.size →
  (storeAll cs o vs)[k]? = if o ≤ k ∧ k < o + vs.length then vs[k - o]? else cs[k]?
 | [], cs, o, k, h => by
  simp only [storeAll, List.length_nil, Nat.add_zero]
  rw [if_neg (by omega)]
 | v :: r, cs, o, k, h => by
  simp only [List.length_cons] at h
  simp only [storeAll]
  rw [storeAll_get r _ _ _ (by simp; omega)]
  simp only [List.length_cons, Array.getElem?_setIfInBounds]
  by_cases e : k = o
  ·subst e
   rw [if_neg (by omega), if_pos rfl, if_pos (by omega), if_pos (by omega)]
   simp
  ·by_cases h1 : o + 1 ≤ k ∧ k < o + 1 + r.length
   ·rw [if_pos h1, if_pos (by omega)]
    rw [show k - o = (k - (o + 1)) + 1 by omega]
    simp
   ·rw [if_neg h1, if_neg (by omega), if_neg (by omega)]
theorem setCell_eq_setBlk {w : World} {b o : Nat} {cs : Array Value} {T : TypeId} {fr : Nat × Nat} (hb : w.heap[b]? = some (.cells cs T fr)) (v : Value) :
  w.setCell ⟨b, o, none⟩ v = setBlk w b (.cells (cs.setIfInBounds o v) T fr) := by
 have hlt := (Array.getElem?_eq_some_iff.1 hb).1
 have he := (Array.getElem?_eq_some_iff.1 hb).2
 unfold World.setCell setBlk
 congr 1
 apply Array.ext_getElem?
 intro i
 rw [Array.getElem?_modify, Array.getElem?_setIfInBounds]
 by_cases e : b = i
 ·subst e
  simp only [if_true, hb, Option.map_some]
  rw [if_pos hlt]
  obtain ⟨lo, hi⟩ := fr
  rfl
 ·rw [if_neg e, if_neg e]
theorem setBlk_setBlk (w : World) (b : Nat) (o o' : Obj) : setBlk (setBlk w b o) b o' = setBlk w b o' := by
 simp [setBlk]
theorem setBlk_self {w : World} {b : Nat} {o : Obj} (h : w.heap[b]? = some o) : setBlk w b o = w := by
 have hlt := (Array.getElem?_eq_some_iff.1 h).1
 have he := (Array.getElem?_eq_some_iff.1 h).2
 cases w
 simp only [setBlk] at *
 congr 1
 apply Array.ext_getElem?
 intro i
 rw [Array.getElem?_setIfInBounds]
 by_cases e : b = i
 ·subst e; rw [if_pos rfl, if_pos hlt]; exact h.symm
 ·rw [if_neg e]
theorem run_storeAll (P : Program) (b o : Nat) (T : TypeId) (fr : Nat × Nat) : ∀ (vs : List Value) (i : Nat) (cs : Array Value) (w : World),
  w.heap[b]? = some (.cells cs T fr) → (∀ k, k < cs.size → ¬ (fr.1 ≤ k ∧ k < fr.2)) → o + i + vs.length ≤ cs.size → (∀ v ∈ vs, v.oneCell' = true) →
  (storeCells ⟨b, o, none⟩ vs i).run P w = .ok () (setBlk w b (.cells (storeAll cs (o + i) vs) T fr))
 | [], i, cs, w, hb, _, _, _ => by
  simp only [storeCells, storeAll, setBlk_self hb]
  rfl
 | v :: r, i, cs, w, hb, hs, hl, h1 => by
  simp only [List.length_cons] at hl
  have hcell : w.cell? ⟨b, o + i, none⟩ = some (cs[o + i]'(by omega)) := by
   simp only [World.cell?, hb]; simp; try omega
  have hfro : w.frozen? ⟨b, o + i, none⟩ = false := by
   obtain ⟨lo, hi⟩ := fr
   simp only [World.frozen?, hb]
   have := hs (o + i) (by omega)
   simp only [Bool.and_eq_false_iff, decide_eq_false_iff_not]
   simp only at this
   omega
  have hst : (store ((⟨b, o, none⟩ : Addr).add i) v).run P w = .ok () (setBlk w b (.cells (cs.setIfInBounds (o + i) v) T fr)) := by
   rw [add_mk, run_store P w _ v _ (h1 v (by simp)), hcell]
   simp [hfro, setCell_eq_setBlk hb]
  have hlt := (Array.getElem?_eq_some_iff.1 hb).1
  have ih := run_storeAll P b o T fr r (i + 1) (cs.setIfInBounds (o + i) v) (setBlk w b (.cells (cs.setIfInBounds (o + i) v) T fr)) (setBlk_same hlt)
   (fun k hk => hs k (by simpa using hk)) (by simp; omega) (fun x hx => h1 x (by simp [hx]))
  simp only [storeCells, Sem.run_bind, hst, Result.andThen_ok, ih, setBlk_setBlk, storeAll, Nat.add_assoc]
theorem splice_length {cs : List AV} {off : Nat} {xs : List AV} (h : off + xs.length ≤ cs.length) : (splice cs off xs).length = cs.length := by
 simp [splice]; omega
theorem splice_get {cs : List AV} {off : Nat} {xs : List AV} (h : off + xs.length ≤ cs.length) (k : Nat) :
  (splice cs off xs)[k]? = if off ≤ k ∧ k < off + xs.length then xs[k - off]? else cs[k]? := by
 unfold splice
 by_cases h1 : k < off
 ·rw [List.getElem?_append_left (by simp; omega), if_neg (by omega), List.getElem?_take, if_pos h1]
 ·rw [List.getElem?_append_right (by simp; omega)]
  have e : min off cs.length = off := by omega
  simp only [List.length_take, e]
  by_cases h2 : k < off + xs.length
  ·rw [List.getElem?_append_left (by omega), if_pos (by omega)]
  ·rw [List.getElem?_append_right (by omega), if_neg (by omega), List.getElem?_drop]
   congr 1; omega
theorem splice_rel {cs : List AV} {vs : Array Value} (hs : vs.size = cs.length) (hc : ∀ i (h : i < cs.length), VRel M w loc cs[i] (vs[i]'(by omega)))
  {xs : List AV} {us : Array Value} (hu : us.size = xs.length) (hx : ∀ i (h : i < xs.length), VRel M w loc xs[i] (us[i]'(by omega))) {off : Nat} (hl : off + xs.length ≤ cs.length) :
  ∀ i (h : i < (splice cs off xs).length), VRel M w loc (splice cs off xs)[i] ((storeAll vs off us.toList)[i]'(by rw [storeAll_size, hs]; rwa [splice_length hl] at h)) := by
 intro i hi
 have hi' : i < cs.length := by rwa [splice_length hl] at hi
 have e1 := splice_get hl i
 have e2 := storeAll_get us.toList vs off i (by simp; omega)
 rw [List.getElem?_eq_getElem hi] at e1
 rw [Array.getElem?_eq_getElem (by rw [storeAll_size, hs]; exact hi')] at e2
 simp only [Array.length_toList] at e2
 by_cases h : off ≤ i ∧ i < off + xs.length
 ·rw [if_pos h, List.getElem?_eq_getElem (by omega)] at e1
  rw [if_pos (by omega), List.getElem?_eq_getElem (by simp; omega)] at e2
  rw [Option.some.inj e1, Option.some.inj e2]
  exact hx (i - off) (by omega)
 ·rw [if_neg h, List.getElem?_eq_getElem hi'] at e1
  rw [if_neg (by omega), Array.getElem?_eq_getElem (by omega)] at e2
  rw [Option.some.inj e1, Option.some.inj e2]
  exact hc i hi'
end
end Go.Ab
end

noncomputable section
namespace Go.Ab
section
variable {P : Program} {M : Mem} {loc : Locs} {H : List AObj} {w : World} {K : AV → List AObj → Prop}
theorem chk_elim {b : Bool} {A : Prop} (h : chk b A) : b = true ∧ A := by
 cases b with
 | true => exact ⟨rfl, h⟩
 | false => exact h.elim
theorem optP_elim {α : Type 1} {o : Option α} {K : α → Prop} (h : optP o K) : ∃ a, o = some a ∧ K a := by
 cases o with
 | some a => exact ⟨a, rfl, h⟩
 | none => exact h.elim
theorem seqP_elim {o : Option Seq} {K : Seq → Prop} (h : seqP o K) : ∃ a, o = some a ∧ K a := by
 cases o with
 | some a => exact ⟨a, rfl, h⟩
 | none => exact h.elim
theorem needP_elim {p A : Prop} (h : needP p A) : p ∧ A := ⟨h.1, h.2 h.1⟩
theorem cell_eq {b k : Nat} {vs : Array Value} {T : TypeId} {fr : Nat × Nat} (hb : w.heap[b]? = some (.cells vs T fr)) : w.cell? ⟨b, k, none⟩ = vs[k]? := by
 simp [World.cell?, hb]
theorem obj_cells (hr : Rel M loc H w) {id b cs} (hl : loc id = some (.blk b)) (ho : H[id]? = some (.cells cs)) :
  ∃ vs T fr, M.base ≤ b ∧ M.ext b = 0 ∧ w.heap[b]? = some (.cells vs T fr) ∧ soft vs fr ∧ ∃ hs : vs.size = cs.length, ∀ i (h : i < cs.length), VRel M w loc cs[i] (vs[i]'(by omega)) := by
 have := hr.objs id _ ho
 rw [hl] at this
 obtain ⟨b', vs, T, fr, e, rest⟩ := this
 cases e
 exact ⟨vs, T, fr, rest⟩
theorem obj_arr (hr : Rel M loc H w) {id b sz s} (hl : loc id = some (.blk b)) (ho : H[id]? = some (.arr sz s)) :
  ∃ vs T fr, M.base ≤ b ∧ M.ext b = 0 ∧ w.heap[b]? = some (.cells vs T fr) ∧ softE sz vs fr ∧
   s.toList.length * sz ≤ vs.size ∧ (∀ i (h : i < s.toList.length), s.toList[i].length = sz) ∧
   ∀ i j (h : i < s.toList.length) (hj : j < s.toList[i].length), ∃ v, vs[i * sz + j]? = some v ∧ VRel M w loc s.toList[i][j] v := by
 have := hr.objs id _ ho
 rw [hl] at this
 obtain ⟨b', vs, T, fr, e, rest⟩ := this
 cases e
 exact ⟨vs, T, fr, rest⟩
theorem aload_core {t : TypeId} {a : AV} {v : Value} {K : AV → Prop} (h : aload P t a H K) (hr : Rel M loc H w) (hv : VRel M w loc a v) :
  ∃ addr x av, v = .pointer (some addr) ∧ (loadVar t addr).run P w = .ok x w ∧ VRel M w loc av x ∧ K av := by
 unfold aload at h
 cases hv with
 | ptr id off b hl =>
  simp only at h
  split at h
  ·rename_i cs ho
   obtain ⟨av, hp, hK⟩ := optP_elim h
   obtain ⟨vs, T, fr, _, _, hb, _, hs, hc⟩ := obj_cells hr hl ho
   obtain ⟨v, hrun, hv⟩ := load_part (P := P) (M := M) (loc := loc) (w := w) hp b 0 (fun j => vs.getD j undef) (fun j hj => by rw [Nat.zero_add, cell_eq hb]; simp [Array.getD, hs, hj]) (fun j hj => by
    have := hc j hj
    simpa [Array.getD, hs, hj] using this)
   rw [Nat.zero_add] at hrun
   exact ⟨_, _, _, rfl, hrun, hv, hK⟩
  ·exact h.elim
 | iptr cs off b o vals h1 h2 =>
  simp only at h
  obtain ⟨av, hp, hK⟩ := optP_elim h
  obtain ⟨v, hrun, hv⟩ := load_part (P := P) hp b o vals (fun j hj => (h1 j hj).1) h2
  exact ⟨_, _, _, rfl, hrun, hv, hK⟩
 | mptr sz id i off b hl =>
  simp only at h
  split at h
  ·rename_i sz' s ho
   obtain ⟨e1, ha⟩ := chk_elim h
   have e1 := Nat.eq_of_beq_eq_true e1
   subst e1
   obtain ⟨hi, hb'⟩ := needP_elim ha
   obtain ⟨e2, hd⟩ := chk_elim hb'
   obtain ⟨av, hp, hK⟩ := optP_elim hd
   obtain ⟨vs, T, fr, _, _, hb, _, hs, hz, hc⟩ := obj_arr hr hl ho
   rw [Seq.len_eq] at hi
   rw [Seq.getD_eq s i hi] at hp
   have hcell : ∀ j, j < s.toList[i].length → ∃ v, vs[i * sz + j]? = some v ∧ (∀ hj : j < s.toList[i].length, VRel M w loc s.toList[i][j] v) := fun j hj =>
    let ⟨v, h1, h2⟩ := hc i j hi hj; ⟨v, h1, fun _ => h2⟩
   obtain ⟨v, hrun, hv⟩ := load_part (P := P) (M := M) (loc := loc) (w := w) hp b (i * sz) (fun j => vs.getD (i * sz + j) undef) (fun j hj => by
     obtain ⟨v, h1, _⟩ := hcell j hj
     rw [cell_eq hb, Array.getD_eq_getD_getElem?, h1]; rfl)
    (fun j hj => by
     obtain ⟨v, h1, h2⟩ := hcell j hj
     rw [Array.getD_eq_getD_getElem?, h1]; exact h2 hj)
   exact ⟨_, _, _, rfl, hrun, hv, hK⟩
  ·exact h.elim
 | _ => exact h.elim
theorem aload_sound {t : TypeId} {a : AV} {v : Value} (h : aload P t a H (fun x => K x H)) (hr : Rel M loc H w) (hv : VRel M w loc a v) :
  GoodV P M loc H w K ((Instr.loadAt t v).run P w) := by
 obtain ⟨addr, x, av, rfl, hrun, hx, hK⟩ := aload_core h hr hv
 rw [show (Instr.loadAt t (.pointer (some addr))).run P w = (loadVar t addr).run P w from by simp [Instr.loadAt, Instr.sureAddr], hrun]
 exact GoodV.pure hr hx hK
def GoodU (P : Program) (M : Mem) (loc : Locs) (H : List AObj) (w : World) (K : List AObj → Prop) (r : Result Unit) : Prop :=
 ∃ w' H' M' loc', r = .ok () w' ∧ K H' ∧ Rel M' loc' H' w' ∧ Step M loc H w M' loc' H' w'
theorem astore_sound {t : TypeId} {a x : AV} {va vx : Value} {K : List AObj → Prop} (h : astore P t a x H K) (hr : Rel M loc H w) (hv : VRel M w loc a va) (hx : VRel M w loc x vx) :
  GoodU P M loc H w K ((Instr.storeAt t va vx).run P w) := by
 unfold astore at h
 split at h
 case h_2 => exact h.elim
 case h_1 xs n hxs hn =>
 obtain ⟨e0, h⟩ := chk_elim h
 rw [Bool.and_eq_true] at e0
 have e1 := Nat.eq_of_beq_eq_true e0.1
 obtain ⟨hus, hu⟩ := cellsOf_rel hxs hx
 have hone : ∀ v ∈ vx.cells.toList, v.oneCell' = true := by
  intro v hvm
  obtain ⟨i, hi, rfl⟩ := List.getElem_of_mem hvm
  have hi' : i < xs.length := by simpa [hus] using hi
  have := List.all_eq_true.1 e0.2 xs[i] (List.getElem_mem _)
  have h3 := hu i hi'
  simp only [Array.getElem_toList]
  exact oneCell_of this h3
 cases hv with
 | ptr id off b hl =>
  simp only at h
  split at h
  ·rename_i cs ho
   obtain ⟨e2, hK⟩ := chk_elim h
   have e2 := Nat.le_of_ble_eq_true e2
   obtain ⟨vs, T, fr, h1, h2, hb, hsoft, hs, hc⟩ := obj_cells hr hl ho
   have hrun := run_storeAll P b off T fr vx.cells.toList 0 vs w hb hsoft (by simp; omega) hone
   have hrun' : (Instr.storeAt t (.pointer (some ⟨b, off, none⟩)) vx).run P w = .ok () (setBlk w b (.cells (storeAll vs off vx.cells.toList) T fr)) := by
    simp only [Instr.storeAt, Instr.sureAddr, pure_bind, storeVar, Sem.run_bind, run_sizeOf' hn, Result.andThen_ok]
    rw [if_neg (by omega)]
    simpa using hrun
   have hlt := cells_lt hb
   have hkeep : Keeps M w loc M (setBlk w b (.cells (storeAll vs off vx.cells.toList) T fr)) loc := by
    refine ⟨?_, ?_, fun _ _ h => h⟩
    ·intro c k v hi
     by_cases e : c = b
     ·subst e; rcases hi.2 with q | q <;> omega
     ·exact ⟨by rw [cell_of_heap (setBlk_other e)]; exact hi.1, hi.2⟩
    ·intro c ds T' fr' hc'
     by_cases e : c = b
     ·subst e; rw [hb] at hc'; cases hc'
      exact ⟨_, fr, setBlk_same hlt, by rw [storeAll_size]⟩
     ·exact ⟨ds, fr', by rw [setBlk_other e]; exact hc', rfl⟩
   have hsp := splice_rel (M := M) (w := w) (loc := loc) hs hc hus hu (off := off) (by omega)
   obtain ⟨r1, r2⟩ := hr.write id b (.cells cs) (.cells (splice cs off xs)) (.cells (storeAll vs off vx.cells.toList) T fr) ho (by intro h; cases h) hl
    (fun ds T' fr' hd => by rw [hb] at hd; cases hd; exact ⟨_, fr, rfl, by rw [storeAll_size]⟩)
    ⟨b, _, T, fr, rfl, h1, h2, setBlk_same hlt, fun k hk => hsoft k (by rwa [storeAll_size] at hk), by rw [storeAll_size, splice_length (by omega)]; exact hs, fun i hi => (hsp i hi).keeps hkeep⟩
   exact ⟨_, _, M, loc, hrun', hK, r1, r2⟩
  ·exact h.elim
 | mptr sz id i off b hl =>
  simp only at h
  split at h
  ·rename_i sz' s ho
   obtain ⟨e2, ha⟩ := chk_elim h
   rw [Bool.and_eq_true] at e2
   have e3 := Nat.eq_of_beq_eq_true e2.1
   have e4 := Nat.le_of_ble_eq_true e2.2
   subst e3
   obtain ⟨hi, hK⟩ := needP_elim ha
   rw [Seq.len_eq] at hi
   rw [Seq.getD_eq s i hi] at hK
   obtain ⟨vs, T, fr, h1, h2, hb, hsoftE, hs, hz, hc⟩ := obj_arr hr hl ho
   have hsoft := hsoftE.1
   have hsz := hz i hi
   have hmul : i * sz + sz ≤ s.toList.length * sz := by
    have := Nat.mul_le_mul_right sz (show i + 1 ≤ s.toList.length from hi)
    rwa [Nat.succ_mul] at this
   have hrun := run_storeAll P b (i * sz + off) T fr vx.cells.toList 0 vs w hb hsoft (by simp; omega) hone
   have hrun' : (Instr.storeAt t (.pointer (some ⟨b, i * sz + off, none⟩)) vx).run P w = .ok () (setBlk w b (.cells (storeAll vs (i * sz + off) vx.cells.toList) T fr)) := by
    simp only [Instr.storeAt, Instr.sureAddr, pure_bind, storeVar, Sem.run_bind, run_sizeOf' hn, Result.andThen_ok]
    rw [if_neg (by omega)]
    simpa using hrun
   have hlt := cells_lt hb
   have hkeep : Keeps M w loc M (setBlk w b (.cells (storeAll vs (i * sz + off) vx.cells.toList) T fr)) loc := by
    refine ⟨?_, ?_, fun _ _ h => h⟩
    ·intro c k v hi
     by_cases e : c = b
     ·subst e; rcases hi.2 with q | q <;> omega
     ·exact ⟨by rw [cell_of_heap (setBlk_other e)]; exact hi.1, hi.2⟩
    ·intro c ds T' fr' hc'
     by_cases e : c = b
     ·subst e; rw [hb] at hc'; cases hc'
      exact ⟨_, fr, setBlk_same hlt, by rw [storeAll_size]⟩
     ·exact ⟨ds, fr', by rw [setBlk_other e]; exact hc', rfl⟩
   have hset : ∀ k (h : k < (s.toList.set i (splice s.toList[i] off xs)).length), (s.toList.set i (splice s.toList[i] off xs))[k].length = sz := by
    intro k hk
    rw [List.getElem_set]
    split
    ·rw [splice_length (by omega)]; exact hsz
    ·exact hz k (by simpa using hk)
   have hfin : ∀ k j (hk : k < (Seq.raw (s.toList.set i (splice s.toList[i] off xs))).toList.length) (hj : j < (Seq.raw (s.toList.set i (splice s.toList[i] off xs))).toList[k].length),
     ∃ v, (storeAll vs (i * sz + off) vx.cells.toList)[k * sz + j]? = some v ∧ VRel M (setBlk w b (.cells (storeAll vs (i * sz + off) vx.cells.toList) T fr)) loc (Seq.raw (s.toList.set i (splice s.toList[i] off xs))).toList[k][j] v := by
    intro k j hk hj
    have hk' : k < s.toList.length := by simpa [Seq.toList] using hk
    have hjz : j < sz := by have := hset k hk; simp only [Seq.toList] at hj; omega
    have hget := storeAll_get vx.cells.toList vs (i * sz + off) (k * sz + j) (by simp; omega)
    simp only [Array.length_toList] at hget
    simp only [Seq.toList] at hj ⊢
    by_cases e : k = i
    ·subst e
     have hsp := splice_get (cs := s.toList[k]) (off := off) (xs := xs) (by omega) j
     simp only [List.getElem_set_self] at hj ⊢
     rw [List.getElem?_eq_getElem hj] at hsp
     by_cases hin : off ≤ j ∧ j < off + xs.length
     ·rw [if_pos (by omega), show k * sz + j - (k * sz + off) = j - off by omega, List.getElem?_eq_getElem (by simp; omega)] at hget
      rw [if_pos hin, List.getElem?_eq_getElem (by omega)] at hsp
      refine ⟨_, hget, ?_⟩
      rw [Option.some.inj hsp]
      simp only [Array.getElem_toList]
      exact (hu (j - off) (by omega)).keeps hkeep
     ·rw [if_neg (by omega)] at hget
      rw [if_neg hin, List.getElem?_eq_getElem (by omega)] at hsp
      obtain ⟨v, h3, h4⟩ := hc k j hk' (by omega)
      refine ⟨v, by rw [hget]; exact h3, ?_⟩
      rw [Option.some.inj hsp]
      exact h4.keeps hkeep
    ·have hne : i ≠ k := fun x => e x.symm
     simp only [List.getElem_set_ne hne] at hj ⊢
     obtain ⟨v, h3, h4⟩ := hc k j hk' hj
     refine ⟨v, ?_, h4.keeps hkeep⟩
     rw [hget, if_neg ?_]
     ·exact h3
     ·have := hz k hk'
      rcases Nat.lt_or_gt_of_ne e with q | q
      ·have := Nat.mul_le_mul_right sz (show k + 1 ≤ i from q)
       rw [Nat.succ_mul] at this
       omega
      ·have := Nat.mul_le_mul_right sz (show i + 1 ≤ k from q)
       rw [Nat.succ_mul] at this
       omega
   obtain ⟨r1, r2⟩ := hr.write id b (.arr sz s) (.arr sz (.raw (s.toList.set i (splice s.toList[i] off xs)))) (.cells (storeAll vs (i * sz + off) vx.cells.toList) T fr) ho (by intro h; cases h) hl
    (fun ds T' fr' hd => by rw [hb] at hd; cases hd; exact ⟨_, fr, rfl, by rw [storeAll_size]⟩)
    ⟨b, _, T, fr, rfl, h1, h2, setBlk_same hlt, ⟨fun k hk => hsoft k (by rwa [storeAll_size] at hk), fun hz => by rw [storeAll_size]; exact hsoftE.2 hz⟩, by rw [storeAll_size]; simpa [Seq.toList] using hs, hset, hfin⟩
   exact ⟨_, _, M, loc, hrun', hK, r1, r2⟩
  ·exact h.elim
 | _ => exact h.elim
end
end Go.Ab
end

noncomputable section
namespace Go.Ab
section
variable {P : Program} {M : Mem} {loc : Locs} {H : List AObj} {w : World} {K : AV → List AObj → Prop}
theorem new_cells (hr : Rel M loc H w) (cs : List AV) (vs : Array Value) (T : TypeId) (hs : vs.size = cs.length) (hc : ∀ i (h : i < cs.length), VRel M w loc cs[i] (vs[i]'(by omega)))
  (hK : K (.ptr H.length 0) (H ++ [.cells cs])) : GoodV P M loc H w K (.ok (.pointer (some ⟨w.heap.size, 0, none⟩)) (w.alloc (.cells vs T))) := by
 have hk := keeps_alloc hr (.cells vs T) 0 (some (.blk w.heap.size))
 obtain ⟨r1, r2⟩ := hr.new (.cells vs T) 0 (fun h => absurd h (by omega)) (.blk w.heap.size) (.cells cs) (.inr rfl)
  ⟨w.heap.size, vs, T, (0, 0), rfl, hr.base, by simp [Mem.grow], heap_alloc_new _ _, fun k _ h => by omega, hs, fun i hi => (hc i hi).keeps hk⟩
 exact ⟨_, _, _, _, _, _, rfl, hK, r1, .ptr _ _ _ (by simp [locSet]), r2⟩
theorem abox_sound {t : TypeId} {x : AV} {v : Value} (h : abox x H K) (hr : Rel M loc H w) (hv : VRel M w loc x v) :
  GoodV P M loc H w K ((Instr.box t v).run P w) := by
 unfold abox at h
 split at h
 ·rename_i cs hcs
  obtain ⟨hs, hc⟩ := cellsOf_rel hcs hv
  exact new_cells hr cs v.cells t hs hc h
 ·exact h.elim
theorem aalloc_sound {t : TypeId} {cs : List AV} (hz : zeroT P t = some cs) (hK : K (.ptr H.length 0) (H ++ [.cells cs])) (hr : Rel M loc H w) :
  GoodV P M loc H w K ((Instr.alloc t true (.tuple #[])).run P w) := by
 obtain ⟨v, hrun, rfl, _⟩ := zeroT_run hz w
 have := new_cells (P := P) hr (v.cells.toList.map ofCell) v.cells t (by simp) (fun i hi => cells_ofCell_rel _ i hi) hK
 have hr' : (Instr.alloc t true (.tuple #[])).run P w = .ok (.pointer (some ⟨w.heap.size, 0, none⟩)) (w.alloc (.cells v.cells t)) := by
  simp only [Instr.alloc, Sem.run_bind, hrun, Result.andThen_ok, newVar, newRow, run_newObj, Sem.run_pure]
  rfl
 rw [hr']; exact this
theorem foldl_store : ∀ (vs : List Value) (i off : Nat) (cells : Array Value),
  (vs.zipIdx i).foldl (fun cs (x : Value × Nat) => cs.setIfInBounds (off + x.2) x.1) cells = storeAll cells (off + i) vs
 | [], i, off, cells => rfl
 | v :: r, i, off, cells => by
  simp only [List.zipIdx_cons, List.foldl_cons, storeAll]
  rw [foldl_store r (i + 1) off]; rfl
theorem fill_sound (place : Nat → Option (Nat × Nat)) : ∀ (parts : List (Nat × AV)) (vparts : List (Nat × Value)) (cells : List AV) (vs : Array Value) (out : List AV),
  vparts.length = parts.length → (∀ i (h : i < parts.length) (h' : i < vparts.length), vparts[i].1 = parts[i].1 ∧ VRel M w loc parts[i].2 vparts[i].2) →
  ∀ (hs : vs.size = cells.length), (∀ i (h : i < cells.length), VRel M w loc cells[i] (vs[i]'(by omega))) →
  fillA place cells parts = some out →
  ∃ us, Instr.fill place vs vparts = some us ∧ out.length = cells.length ∧ ∃ hu : us.size = out.length, ∀ i (h : i < out.length), VRel M w loc out[i] (us[i]'(by omega))
 | [], [], cells, vs, out, _, _, hs, hc, h => by
  simp only [fillA, Option.some.injEq] at h
  subst h
  exact ⟨vs, rfl, rfl, hs, hc⟩
 | [], _ :: _, _, _, _, hl, _, _, _, _ => by cases hl
 | _ :: _, [], _, _, _, hl, _, _, _, _ => by cases hl
 | (i, x) :: rest, (i', v) :: vrest, cells, vs, out, hl, hp, hs, hc, h => by
  have h0 := hp 0 (by simp) (by simp)
  simp only [List.getElem_cons_zero] at h0
  obtain ⟨rfl, hv⟩ := h0
  simp only [fillA] at h
  split at h
  case h_2 => cases h
  case h_1 off size xs hpl hxs =>
  cases hb : (Nat.beq xs.length size && Nat.ble (off + size) cells.length) with
  | false => rw [hb] at h; cases h
  | true =>
   rw [hb] at h
   simp only [cond_true] at h
   rw [Bool.and_eq_true] at hb
   have e1 := Nat.eq_of_beq_eq_true hb.1
   have e2 := Nat.le_of_ble_eq_true hb.2
   obtain ⟨hus, hu⟩ := cellsOf_rel hxs hv
   have hsp := splice_rel (M := M) (w := w) (loc := loc) hs hc hus hu (off := off) (by omega)
   have hsz : (storeAll vs off v.cells.toList).size = (splice cells off xs).length := by rw [storeAll_size, splice_length (by omega), hs]
   obtain ⟨us, hf, hlen, huu⟩ := fill_sound place rest vrest (splice cells off xs) (storeAll vs off v.cells.toList) out (by simpa using hl)
    (fun j hj hj' => by have := hp (j + 1) (by simpa using hj) (by simpa using hj'); simpa using this) hsz hsp h
   refine ⟨us, ?_, by rw [hlen, splice_length (by omega)], huu⟩
   simp only [Instr.fill, hpl]
   have hcond : ¬ ((decide (v.cells.size ≠ size) || decide (off + v.cells.size > vs.size)) = true) := by simp; omega
   rw [if_neg hcond]
   have : v.cells.zipIdx.foldl (fun cs (x : Value × Nat) => cs.setIfInBounds (off + x.2) x.1) vs = storeAll vs off v.cells.toList := by
    rw [← Array.foldl_toList, Array.toList_zipIdx, foldl_store]; rfl
   exact this ▸ hf
theorem parts_rel {s : Slots} {a : Act} (hs : SRel M w loc s a.tmps) (parts : Array (Nat × Operand)) :
  ((parts.map fun (x : Nat × Operand) => (x.1, a.eval x.2)).toList).length = (parts.toList.map fun (x : Nat × Operand) => (x.1, ev s x.2)).length ∧
  ∀ i (h : i < (parts.toList.map fun (x : Nat × Operand) => (x.1, ev s x.2)).length) (h' : i < ((parts.map fun (x : Nat × Operand) => (x.1, a.eval x.2)).toList).length),
   ((parts.map fun (x : Nat × Operand) => (x.1, a.eval x.2)).toList)[i].1 = (parts.toList.map fun (x : Nat × Operand) => (x.1, ev s x.2))[i].1 ∧
   VRel M w loc (parts.toList.map fun (x : Nat × Operand) => (x.1, ev s x.2))[i].2 ((parts.map fun (x : Nat × Operand) => (x.1, a.eval x.2)).toList)[i].2 := by
 refine ⟨by simp, fun i h h' => ?_⟩
 simp only [Array.toList_map, List.getElem_map, true_and]
 exact vrel_ev hs _
theorem mapM_places (fs : List Field) (hall : fs.all (fun f => (sizeT P f.type).isSome) = true) : ∀ (w : World),
  (fs.mapM (fun f => do pure (f.offset, ← sizeOf f.type)) : Sem (List (Nat × Nat))).run P w = .ok (fs.map fun f => (f.offset, (sizeT P f.type).getD 0)) w := by
 induction fs with
 | nil => intro w; rfl
 | cons f r ih =>
  intro w
  simp only [List.all_cons, Bool.and_eq_true] at hall
  obtain ⟨n, hn⟩ := Option.isSome_iff_exists.1 hall.1
  simp only [List.mapM_cons, Sem.run_bind, run_sizeOf' hn, Result.andThen_ok, Sem.run_pure, ih hall.2, List.map_cons, hn, Option.getD_some]
theorem mapM_places_arr (fs : Array Field) (hall : fs.all (fun f => (sizeT P f.type).isSome) = true) (w : World) :
  (fs.mapM (fun f => do pure (f.offset, ← sizeOf f.type)) : Sem (Array (Nat × Nat))).run P w = .ok (fs.map fun f => (f.offset, (sizeT P f.type).getD 0)) w := by
 have h := mapM_places (P := P) fs.toList (by rw [← Array.all_toList] at hall; exact hall) w
 rw [Array.mapM_eq_mapM_toList]
 simp only [Sem.run_map, h, Result.andThen_ok]
 congr 1
 apply Array.ext'
 simp
theorem abuild_sound {t : TypeId} {parts : Array (Nat × Operand)} {s : Slots} {a : Act} (h : abuild P t (parts.toList.map fun (i, x) => (i, ev s x)) (fun v => K v H)) (hr : Rel M loc H w)
  (hs : SRel M w loc s a.tmps) : GoodV P M loc H w K ((Instr.build t (parts.map fun (i, x) => (i, a.eval x))).run P w) := by
 obtain ⟨p1, p2⟩ := parts_rel (M := M) (w := w) (loc := loc) hs parts
 unfold abuild at h
 split at h
 ·rename_i fs z hu hz
  obtain ⟨v, hrun, rfl, _⟩ := zeroT_run hz w
  split at h
  ·rename_i cs hf
   obtain ⟨hall, hK⟩ := chk_elim h
   have hplace : ∀ (i : Nat), placeT P fs i = (fs.map fun f => (f.offset, (sizeT P f.type).getD 0))[i]? := by
    intro i
    unfold placeT
    rw [Array.getElem?_map]
    cases hfi : fs[i]? with
    | none => rfl
    | some f =>
     have hmem : f ∈ fs := Array.mem_of_getElem? hfi
     have hsome : (sizeT P f.type).isSome = true := by
      have := Array.all_eq_true_iff_forall_mem.1 hall f hmem
      exact this
     obtain ⟨n, hn⟩ := Option.isSome_iff_exists.1 hsome
     simp [hn]
   have hfe : placeT P fs = fun i => (fs.map fun f => (f.offset, (sizeT P f.type).getD 0))[i]? := funext hplace
   rw [hfe] at hf
   obtain ⟨us, h1, h2, h3, h4⟩ := fill_sound (M := M) (w := w) (loc := loc) _ _ ((parts.map fun (i, x) => (i, a.eval x)).toList) _ v.cells cs p1 p2 (by simp) (fun i hi => cells_ofCell_rel _ i hi) hf
   have hrun' : (Instr.build t (parts.map fun (i, x) => (i, a.eval x))).run P w = .ok (.agg us) w := by
    simp only [Instr.build, Sem.run_bind, hrun, Result.andThen_ok, run_underlying' hu, mapM_places_arr fs hall]
    rw [h1]; rfl
   rw [hrun']
   exact GoodV.pure hr (.agg _ _ h3 h4) hK
  ·exact h.elim
 ·rename_i n e z hu hz
  obtain ⟨v, hrun, rfl, _⟩ := zeroT_run hz w
  split at h
  ·rename_i n' hn
   split at h
   ·rename_i cs hf
    obtain ⟨us, h1, h2, h3, h4⟩ := fill_sound (M := M) (w := w) (loc := loc) _ _ ((parts.map fun (i, x) => (i, a.eval x)).toList) _ v.cells cs p1 p2 (by simp) (fun i hi => cells_ofCell_rel _ i hi) hf
    have hrun' : (Instr.build t (parts.map fun (i, x) => (i, a.eval x))).run P w = .ok (.agg us) w := by
     simp only [Instr.build, Sem.run_bind, hrun, Result.andThen_ok, run_underlying' hu, run_sizeOf' hn]
     rw [h1]; rfl
    rw [hrun']
    exact GoodV.pure hr (.agg _ _ h3 h4) h
   ·exact h.elim
  ·exact h.elim
 ·exact h.elim
theorem flat_get (z : List AV) (hz : 0 < z.length) : ∀ (len k : Nat), k < len * z.length → (List.replicate len z).flatten[k]? = z[k % z.length]?
 | 0, k, h => by omega
 | len + 1, k, h => by
  rw [List.replicate_succ, List.flatten_cons]
  by_cases hk : k < z.length
  ·rw [List.getElem?_append_left hk, Nat.mod_eq_of_lt hk]
  ·rw [List.getElem?_append_right (by omega), flat_get z hz len _ (by rw [Nat.succ_mul] at h; omega)]
   rw [← Nat.mod_eq_sub_mod (by omega)]
theorem flat_length (z : List AV) (len : Nat) : (List.replicate len z).flatten.length = len * z.length := by
 simp
theorem chunks_length (sz : Nat) : ∀ (n : Nat) (cs : List AV), (chunks sz n cs).length = n
 | 0, cs => rfl
 | n + 1, cs => by simp [chunks, chunks_length sz n]
theorem chunks_get (sz : Nat) : ∀ (n : Nat) (cs : List AV) (i : Nat) (h : i < (chunks sz n cs).length), (chunks sz n cs)[i] = (cs.drop (i * sz)).take sz
 | 0, cs, i, h => by simp [chunks] at h
 | n + 1, cs, 0, h => by simp [chunks]
 | n + 1, cs, i + 1, h => by
  simp only [chunks, List.getElem_cons_succ]
  rw [chunks_get sz n _ i, List.drop_drop, Nat.succ_mul, Nat.add_comm]
theorem zeros_rel (v : Value) (len : Nat) (n : Nat) (hz : v.cells.size = n) (hn : 0 < n) :
  ∃ hs : ((Array.range (len * n)).map (fun i => v.cells[i % v.cells.size]!)).size = (List.replicate len (v.cells.toList.map ofCell)).flatten.length,
   ∀ i (h : i < (List.replicate len (v.cells.toList.map ofCell)).flatten.length), VRel M w loc ((List.replicate len (v.cells.toList.map ofCell)).flatten[i]) (((Array.range (len * n)).map (fun i => v.cells[i % v.cells.size]!))[i]'(by omega)) := by
 have hlen : (v.cells.toList.map ofCell).length = n := by simp [hz]
 refine ⟨by rw [flat_length, hlen]; simp, fun i hi => ?_⟩
 rw [flat_length, hlen] at hi
 have h1 := flat_get (v.cells.toList.map ofCell) (by omega) len i (by rw [hlen]; exact hi)
 rw [hlen] at h1
 have hm : i % n < n := Nat.mod_lt _ hn
 rw [List.getElem?_eq_getElem (by rw [flat_length, hlen]; exact hi), List.getElem?_eq_getElem (by rw [hlen]; exact hm)] at h1
 rw [Option.some.inj h1]
 simp only [Array.getElem_map, Array.getElem_range, hz]
 rw [getElem!_pos v.cells (i % n) (by omega)]
 simp only [List.getElem_map, Array.getElem_toList]
 exact vrel_cell _
theorem abuildSlice_sound {t : TypeId} {len : Nat} {parts : Array (Nat × Operand)} {s : Slots} {a : Act} (h : abuildSlice P t len (parts.toList.map fun (i, x) => (i, ev s x)) (fun v => K v H)) (hr : Rel M loc H w)
  (hs : SRel M w loc s a.tmps) : GoodV P M loc H w K ((Instr.buildSlice t len (parts.map fun (i, x) => (i, a.eval x))).run P w) := by
 obtain ⟨p1, p2⟩ := parts_rel (M := M) (w := w) (loc := loc) hs parts
 unfold abuildSlice at h
 split at h
 case h_2 => exact h.elim
 case h_1 e hu =>
 split at h
 case h_2 => exact h.elim
 case h_1 n z hn hz =>
 obtain ⟨hb, h⟩ := chk_elim h
 simp only [Bool.and_eq_true] at hb
 have e1 := Nat.le_of_ble_eq_true hb.1.1
 have e2 := Nat.eq_of_beq_eq_true hb.1.2
 have e3 := Nat.le_of_ble_eq_true hb.2
 obtain ⟨v, hrun, rfl, _⟩ := zeroT_run hz w
 have hvs : v.cells.size = n := by simpa using e2
 split at h
 case h_2 => exact h.elim
 case h_1 cs hf =>
 obtain ⟨z1, z2⟩ := zeros_rel (M := M) (w := w) (loc := loc) v len n hvs (by omega)
 obtain ⟨us, h1, h2, h3, h4⟩ := fill_sound (M := M) (w := w) (loc := loc) _ _ ((parts.map fun (i, x) => (i, a.eval x)).toList) _ _ cs p1 p2 z1 z2 hf
 have hlen : cs.length = len * n := by rw [h2, flat_length]; simp [hvs]
 have hrun' : (Instr.buildSlice t len (parts.map fun (i, x) => (i, a.eval x))).run P w = .ok (.slice (some ⟨w.heap.size, 0, none⟩) len len) (w.alloc (.cells us e)) := by
  simp only [Instr.buildSlice, Sem.run_bind, run_underlying' hu, Result.andThen_ok, run_sizeOf' hn]
  have hcond : ¬ (len * n > 2 ^ 24) := by omega
  rw [if_neg hcond]
  by_cases h0 : len * n = 0
  ·rw [if_pos h0]
   have h1' := h1
   have h00 : Array.range 0 = #[] := rfl
   simp only [h0, h00, Array.map_empty] at h1' ⊢
   simp only [pure_bind, h1', Sem.run_bind, newRow, run_newObj, Result.andThen_ok, Sem.run_pure]
   rfl
  ·rw [if_neg h0]
   simp only [pure_bind, h1, Sem.run_bind, hrun, newRow, run_newObj, Result.andThen_ok, Sem.run_pure]
   rfl
 rw [hrun']
 obtain ⟨r1, r2⟩ := hr.data (.cells us e) (len * n) (fun _ => ⟨us, e, (0, 0), rfl, by omega⟩)
 have hk := keeps_alloc hr (.cells us e) (len * n) none
 have hcl : (Seq.raw (chunks n len cs)).toList.length = len := chunks_length n len cs
 refine ⟨_, _, _, _, _, _, rfl, h, r1, ?_, r2⟩
 have hg := VRel.sl (M := M.grow w.heap.size (len * n)) (w := w.alloc (.cells us e)) (loc := loc) n (.raw (chunks n len cs)) .full w.heap.size 0 len (fun i j => us.getD (i * n + j) undef)
  (fun i hi => by
   have hi' : i < len := by rw [← hcl]; exact hi
   rw [show (Seq.raw (chunks n len cs)).toList[i] = (cs.drop (i * n)).take n from chunks_get n len cs i hi]
   have := Nat.mul_le_mul_right n (show i + 1 ≤ len from hi')
   rw [Nat.succ_mul] at this
   simp; omega)
  (fun i j hi hj => by
   have hi' : i < len := by rw [← hcl]; exact hi
   have := Nat.mul_le_mul_right n (show i + 1 ≤ len from hi')
   rw [Nat.succ_mul] at this
   refine ⟨?_, .inr ?_⟩
   ·rw [cell_eq (heap_alloc_new _ _), Nat.zero_add]
    rw [Array.getElem?_eq_getElem (by omega)]
    simp [Array.getD, show i * n + j < us.size by omega]
   ·simp only [Mem.grow, if_true]; omega)
  (fun i j hi hj => by
   have hi' : i < len := by rw [← hcl]; exact hi
   have := Nat.mul_le_mul_right n (show i + 1 ≤ len from hi')
   rw [Nat.succ_mul] at this
   have eg : (Seq.raw (chunks n len cs)).toList[i] = (cs.drop (i * n)).take n := chunks_get n len cs i hi
   have hjn : j < n := by
    have := hj; rw [eg] at this
    simp at this; omega
   have e : (Seq.raw (chunks n len cs)).toList[i][j] = cs[i * n + j]'(by omega) := by
    simp only [eg, List.getElem_take, List.getElem_drop]
   rw [e]
   have := (h4 (i * n + j) (by omega)).keeps hk
   simpa [Array.getD, show i * n + j < us.size by omega] using this)
  (by omega) (by intro h; cases h) (fun _ => by omega) (fun id h => by cases h)
 rw [hcl] at hg
 exact hg
theorem abuildM_sound {t : TypeId} {len : Nat} {parts : Array (Nat × Operand)} {s : Slots} {a : Act} (h : abuildM P t len (parts.toList.map fun (i, x) => (i, ev s x)) H K) (hr : Rel M loc H w)
  (hs : SRel M w loc s a.tmps) : GoodV P M loc H w K ((Instr.buildSlice t len (parts.map fun (i, x) => (i, a.eval x))).run P w) := by
 obtain ⟨p1, p2⟩ := parts_rel (M := M) (w := w) (loc := loc) hs parts
 unfold abuildM at h
 split at h
 case h_2 => exact h.elim
 case h_1 e hu =>
 split at h
 case h_2 => exact h.elim
 case h_1 n z hn hz =>
 obtain ⟨hb, h⟩ := chk_elim h
 simp only [Bool.and_eq_true] at hb
 have e1 := Nat.le_of_ble_eq_true hb.1.1
 have e2 := Nat.eq_of_beq_eq_true hb.1.2
 have e3 := Nat.le_of_ble_eq_true hb.2
 obtain ⟨v, hrun, rfl, _⟩ := zeroT_run hz w
 have hvs : v.cells.size = n := by simpa using e2
 split at h
 case h_2 => exact h.elim
 case h_1 cs hf =>
 obtain ⟨z1, z2⟩ := zeros_rel (M := M) (w := w) (loc := loc) v len n hvs (by omega)
 obtain ⟨us, h1, h2, h3, h4⟩ := fill_sound (M := M) (w := w) (loc := loc) _ _ ((parts.map fun (i, x) => (i, a.eval x)).toList) _ _ cs p1 p2 z1 z2 hf
 have hlen : cs.length = len * n := by rw [h2, flat_length]; simp [hvs]
 have hrun' : (Instr.buildSlice t len (parts.map fun (i, x) => (i, a.eval x))).run P w = .ok (.slice (some ⟨w.heap.size, 0, none⟩) len len) (w.alloc (.cells us e)) := by
  simp only [Instr.buildSlice, Sem.run_bind, run_underlying' hu, Result.andThen_ok, run_sizeOf' hn]
  have hcond : ¬ (len * n > 2 ^ 24) := by omega
  rw [if_neg hcond]
  by_cases h0 : len * n = 0
  ·rw [if_pos h0]
   have h1' := h1
   have h00 : Array.range 0 = #[] := rfl
   simp only [h0, h00, Array.map_empty] at h1' ⊢
   simp only [pure_bind, h1', Sem.run_bind, newRow, run_newObj, Result.andThen_ok, Sem.run_pure]
   rfl
  ·rw [if_neg h0]
   simp only [pure_bind, h1, Sem.run_bind, hrun, newRow, run_newObj, Result.andThen_ok, Sem.run_pure]
   rfl
 rw [hrun']
 have hk := keeps_alloc hr (.cells us e) 0 (some (.blk w.heap.size))
 have hcl : (Seq.raw (chunks n len cs)).toList.length = len := chunks_length n len cs
 have hrow : ∀ i, i < len → i * n + n ≤ len * n := fun i hi => by
  have := Nat.mul_le_mul_right n (show i + 1 ≤ len from hi)
  rwa [Nat.succ_mul] at this
 have heach : ∀ i (hi : i < (Seq.raw (chunks n len cs)).toList.length), (Seq.raw (chunks n len cs)).toList[i].length = n := by
  intro i hi
  have hi' : i < len := by rw [← hcl]; exact hi
  rw [show (Seq.raw (chunks n len cs)).toList[i] = (cs.drop (i * n)).take n from chunks_get n len cs i hi]
  have := hrow i hi'
  simp; omega
 obtain ⟨r1, r2⟩ := hr.new (.cells us e) 0 (fun h => absurd h (by omega)) (.blk w.heap.size) (.arr n (.raw (chunks n len cs))) (.inr rfl)
  ⟨w.heap.size, us, e, (0, 0), rfl, hr.base, by simp [Mem.grow], heap_alloc_new _ _, ⟨fun k _ h => by omega, fun _ h => by omega⟩, by rw [hcl]; omega, heach, fun i j hi hj => by
   have hi' : i < len := by rw [← hcl]; exact hi
   have := hrow i hi'
   have hjn : j < n := by rw [← heach i hi]; exact hj
   have eg : (Seq.raw (chunks n len cs)).toList[i] = (cs.drop (i * n)).take n := chunks_get n len cs i hi
   have e : (Seq.raw (chunks n len cs)).toList[i][j] = cs[i * n + j]'(by omega) := by
    simp only [eg, List.getElem_take, List.getElem_drop]
   refine ⟨us[i * n + j]'(by omega), Array.getElem?_eq_getElem (by omega), ?_⟩
   rw [e]
   exact (h4 (i * n + j) (by omega)).keeps hk⟩
 refine ⟨_, _, _, _, _, _, rfl, h, r1, ?_, r2⟩
 have hb' : ∃ cs T fr, (w.alloc (.cells us e)).heap[w.heap.size]? = some (.cells cs T fr) ∧ (0 + len) * n = cs.size := ⟨us, e, (0, 0), heap_alloc_new _ _, by rw [Nat.zero_add]; omega⟩
 have := VRel.msl (M := M.grow w.heap.size 0) (loc := locSet loc H.length (.blk w.heap.size)) n H.length 0 len w.heap.size len (by simp [locSet]) (Nat.le_refl _) hb'
 rwa [Nat.zero_mul] at this
end
end Go.Ab
end

noncomputable section
namespace Go.Ab
section
variable {P : Program} {M : Mem} {loc : Locs} {H : List AObj} {w : World} {K : AV → List AObj → Prop}
theorem getD_lt {α : Type _} (l : List α) (i : Nat) (d : α) (h : i < l.length) : l.getD i d = l[i] := by simp [h]
theorem wrap_i64 {n : Int} (h : 0 ≤ n) (h' : n ≤ 9223372036854775807) : IntKind.i64.wrap n = n := by
 simp only [IntKind.wrap, IntKind.bits, IntKind.signed]
 simp
 omega
theorem amakeSlice_sound {mu : Bool} {t : TypeId} {l c : AV} {vl vc : Value} (h : amakeSlice P mu t l c H K) (hr : Rel M loc H w) (hl : VRel M w loc l vl) (hc : VRel M w loc c vc) :
  GoodV P M loc H w K ((Instr.makeSlice t vl vc).run P w) := by
 unfold amakeSlice at h
 split at h
 case h_2 => exact h.elim
 case h_1 e l c hu =>
 split at h
 case h_2 => exact h.elim
 case h_1 n by_ z hn hby hz =>
 cases hl; cases hc
 obtain ⟨hb, h⟩ := chk_elim h
 simp only [Bool.and_eq_true] at hb
 have e1 := Nat.le_of_ble_eq_true hb.1
 have e2 := Nat.eq_of_beq_eq_true hb.2
 obtain ⟨⟨b1, b2, b3, b4⟩, h'⟩ := needP_elim h
 clear h
 obtain ⟨v, hrun, rfl, _⟩ := zeroT_run hz w
 obtain ⟨i, hi, ei⟩ := bytesT_info hby
 have hvs : v.cells.size = n := by simpa using e2
 obtain ⟨ln, rfl⟩ := Int.eq_ofNat_of_zero_le b1
 obtain ⟨cn, rfl⟩ := Int.eq_ofNat_of_zero_le (show 0 ≤ c by omega)
 have hlc : ln ≤ cn := by omega
 obtain ⟨z1, z2⟩ := zeros_rel (M := M) (w := w) (loc := loc) v cn n hvs (by omega)
 have hrun' : (Instr.makeSlice t (.int .i64 ln) (.int .i64 cn)).run P w = .ok (.slice (some ⟨w.heap.size, 0, none⟩) ln cn) (w.alloc (.cells ((Array.range (cn * n)).map (fun i => v.cells[i % v.cells.size]!)) e)) := by
  simp only [Instr.makeSlice, Sem.run_bind, run_underlying' hu, Result.andThen_ok, asInt, asIntOf, pure_bind, run_typeInfo' hi, Sem.run_pure, wrap_i64 b1 (by omega), wrap_i64 (show (0 : Int) ≤ (cn : Int) by omega) b3, ei]
  have hcond : ¬ (((decide ((cn : Int) < 0) || decide ((by_ : Int) * (cn : Int) > 2 ^ 48)) || decide ((ln : Int) < 0) || decide ((ln : Int) > (cn : Int))) = true) := by
   simp; omega
  rw [if_neg hcond]
  simp only [Sem.run_bind, run_askRoom, Result.andThen_ok, run_sizeOf' hn, Int.toNat_natCast]
  by_cases h0 : cn * n = 0
  ·rw [if_pos h0]
   have h00 : Array.range 0 = #[] := rfl
   simp only [h0, h00, Array.map_empty, pure_bind, Sem.run_bind, newRow, run_newObj, Result.andThen_ok, Sem.run_pure]
   rfl
  ·rw [if_neg h0]
   simp only [pure_bind, Sem.run_bind, hrun, newRow, run_newObj, Result.andThen_ok, Sem.run_pure]
   rfl
 have hsz : ((Array.range (cn * n)).map (fun i => v.cells[i % v.cells.size]!)).size = cn * n := by simp
 have hln : ln * n ≤ cn * n := Nat.mul_le_mul_right n hlc
 have hel : ∀ i (h : i < (List.replicate ln (v.cells.toList.map ofCell)).length), (List.replicate ln (v.cells.toList.map ofCell))[i].length = n := by
  intro i hi; simp [hvs]
 rw [hrun']
 have hcells : ∀ i j, i < ln → j < n → VRel M w loc ((v.cells.toList.map ofCell).getD j .bad) (((Array.range (cn * n)).map (fun i => v.cells[i % v.cells.size]!)).getD (i * n + j) undef) := by
  intro i j hi hj
  have := Nat.mul_le_mul_right n (show i + 1 ≤ ln from hi)
  rw [Nat.succ_mul] at this
  have hlt : i * n + j < cn * n := by omega
  have hm : (i * n + j) % n = j := by rw [Nat.mul_comm, Nat.mul_add_mod, Nat.mod_eq_of_lt hj]
  simp only [Array.getD, hsz, hlt, dite_true, Array.getInternal_eq_getElem, Array.getElem_map, Array.getElem_range, hvs, hm]
  rw [getElem!_pos v.cells j (by omega)]
  rw [List.getD_eq_getElem?_getD, List.getElem?_map]
  simp only [Array.length_toList, List.getElem?_eq_getElem (show j < v.cells.toList.length by simpa using (by omega : j < v.cells.size)), Option.map_some, Option.getD_some, Array.getElem_toList]
  first
  | exact vrel_cell _
  | (rw [dif_pos (by rw [← hvs, hsz, hvs]; exact hlt)]; exact vrel_cell _)
  | (rw [dif_pos (by simp; exact hlt)]; exact vrel_cell _)
 cases mu with
 | true =>
  have h := h'
  simp only at h
  have hk := keeps_alloc hr (.cells ((Array.range (cn * n)).map (fun i => v.cells[i % v.cells.size]!)) e) 0 (some (.blk w.heap.size))
  obtain ⟨r1, r2⟩ := hr.new (.cells ((Array.range (cn * n)).map (fun i => v.cells[i % v.cells.size]!)) e) 0 (fun h => absurd h (by omega)) (.blk w.heap.size)
   (.arr n (.raw (List.replicate ln (v.cells.toList.map ofCell)))) (.inr rfl)
   ⟨w.heap.size, _, e, (0, 0), rfl, hr.base, by simp [Mem.grow], heap_alloc_new _ _, ⟨fun k _ h => by omega, fun _ h => by omega⟩, by simp only [Seq.toList, List.length_replicate, hsz]; exact hln, hel, fun i j hi hj => by
    have hi' : i < ln := by simpa [Seq.toList] using hi
    have hj' : j < n := by have := hel i (by simpa using hi'); simp only [Seq.toList] at hj; omega
    have := (hcells i j hi' hj').keeps hk
    have h3 := Nat.mul_le_mul_right n (show i + 1 ≤ ln from hi')
    rw [Nat.succ_mul] at h3
    refine ⟨_, Array.getElem?_eq_getElem (by omega), ?_⟩
    simp only [Seq.toList, List.getElem_replicate]
    rw [getD_lt _ _ _ (by simp [hvs]; omega)] at this
    simpa [Array.getD, show i * n + j < cn * n by omega] using this⟩
  rw [Int.toNat_natCast] at h
  refine ⟨_, _, _, _, _, _, rfl, h, r1, ?_, r2⟩
  have hb' : ∃ cs T fr, (w.alloc (.cells ((Array.range (cn * n)).map (fun i => v.cells[i % v.cells.size]!)) e)).heap[w.heap.size]? = some (.cells cs T fr) ∧ (0 + cn) * n = cs.size :=
   ⟨_, e, (0, 0), heap_alloc_new _ _, by rw [hsz]; simp⟩
  have := VRel.msl (M := M.grow w.heap.size 0) (loc := locSet loc H.length (.blk w.heap.size)) n H.length 0 ln w.heap.size cn (by simp [locSet]) hlc hb'
  rwa [Nat.zero_mul] at this
 | false =>
  have h := h'
  simp only at h
  have hk := keeps_alloc hr (.cells ((Array.range (cn * n)).map (fun i => v.cells[i % v.cells.size]!)) e) (ln * n) (some (.tok w.heap.size (ln * n)))
  obtain ⟨r1, r2⟩ := hr.new (.cells ((Array.range (cn * n)).map (fun i => v.cells[i % v.cells.size]!)) e) (ln * n) (fun _ => ⟨_, e, (0, 0), rfl, by rw [hsz]; exact hln⟩) (.tok w.heap.size (ln * n)) .tok (.inr rfl)
   (.inr ⟨w.heap.size, ln * n, _, e, (0, 0), rfl, hr.base, by simp [Mem.grow], heap_alloc_new _ _, fun k _ h => by omega⟩)
  rw [Int.toNat_natCast] at h
  refine ⟨_, _, _, _, _, _, rfl, h, r1, ?_, r2⟩
  have hcl : (Seq.raw (List.replicate ln (v.cells.toList.map ofCell))).toList.length = ln := by simp [Seq.toList]
  have hg := VRel.sl (M := M.grow w.heap.size (ln * n)) (w := w.alloc (.cells ((Array.range (cn * n)).map (fun i => v.cells[i % v.cells.size]!)) e)) (loc := locSet loc H.length (.tok w.heap.size (ln * n))) n
   (.raw (List.replicate ln (v.cells.toList.map ofCell))) (.tok H.length) w.heap.size 0 cn (fun i j => ((Array.range (cn * n)).map (fun i => v.cells[i % v.cells.size]!)).getD (i * n + j) undef)
   (fun i hi => hel i hi)
   (fun i j hi hj => by
    have hi' : i < ln := by rw [← hcl]; exact hi
    have h3 := Nat.mul_le_mul_right n (show i + 1 ≤ ln from hi')
    rw [Nat.succ_mul] at h3
    refine ⟨?_, .inr ?_⟩
    ·rw [cell_eq (heap_alloc_new _ _), Nat.zero_add, Array.getElem?_eq_getElem (by omega)]
     simp [Array.getD, show i * n + j < cn * n by omega]
    ·simp only [Mem.grow, if_true]; omega)
   (fun i j hi hj => by
    have hi' : i < ln := by rw [← hcl]; exact hi
    have hj' : j < n := by have := hel i hi; simp only [Seq.toList] at hj; omega
    have := (hcells i j hi' hj').keeps hk
    rw [getD_lt _ _ _ (by simp [hvs]; omega)] at this
    simp only [Seq.toList, List.getElem_replicate]
    exact this)
   (by rw [hcl]; exact hlc) (by intro h; cases h) (fun h => by cases h)
   (fun id hid => by
    cases hid
    refine .inr ⟨?_, _, e, (0, 0), heap_alloc_new _ _, ?_⟩
    ·simp [locSet, Seq.toList]
    ·rw [hsz]; simp)
  rw [hcl] at hg
  exact hg
theorem fieldT_spec {t : TypeId} {f o : Nat} {ft : TypeId} (h : fieldT P t f = some (o, ft)) : ∃ fs fd n, P.underlying t = some (.struct fs) ∧ fs[f]? = some fd ∧ fd.offset = o ∧ fd.type = ft ∧ sizeT P fd.type = some (n + 1) := by
 unfold fieldT at h
 split at h
 case h_2 => cases h
 case h_1 fs hu =>
 split at h
 case h_2 => cases h
 case h_1 fd hfd =>
 split at h
 case h_2 => cases h
 case h_1 n hn =>
 cases h
 exact ⟨fs, fd, n, hu, hfd, rfl, rfl, hn⟩
theorem afieldAddr_sound {t : TypeId} {x : AV} {f : Nat} {v : Value} (h : afieldAddr P t x f (fun v => K v H)) (hr : Rel M loc H w) (hv : VRel M w loc x v) :
  GoodV P M loc H w K ((Instr.fieldAt t v f).run P w) := by
 unfold afieldAddr at h
 split at h
 case h_2 => exact h.elim
 case h_1 o ft hf =>
 obtain ⟨fs, fd, n, hu, hfd, ho, hft, hn⟩ := fieldT_spec hf
 have hrun : ∀ b off, (Instr.fieldAt t (.pointer (some ⟨b, off, none⟩)) f).run P w = .ok (.pointer (some ⟨b, off + o, none⟩)) w := by
  intro b off
  simp only [Instr.fieldAt, Sem.run_bind, run_underlying' hu, Result.andThen_ok, hfd, Instr.sureAddr, pure_bind, fieldPlace, run_sizeOf' hn]
  rw [if_neg (by omega)]
  simp only [Sem.run_pure, Sem.run_bind, Result.andThen_ok, add_mk, ho]
 cases hv with
 | ptr id off b hl => rw [hrun]; exact GoodV.pure hr (.ptr _ _ _ hl) h
 | iptr cs off b o' vals h1 h2 => rw [hrun, Nat.add_assoc]; exact GoodV.pure hr (.iptr _ _ _ _ vals h1 h2) h
 | mptr sz id i off b hl => rw [hrun, Nat.add_assoc]; exact GoodV.pure hr (.mptr _ _ _ _ _ hl) h
 | _ => exact h.elim
theorem part_sound {t : TypeId} {cs : List AV} {vs : Array Value} {off : Nat} {av : AV} (h : partOf P t cs off = some av) (hs : vs.size = cs.length) (hc : ∀ i (h : i < cs.length), VRel M w loc cs[i] (vs[i]'(by omega))) :
  ∃ v, (part t vs off).run P w = .ok v w ∧ VRel M w loc av v := by
 unfold partOf at h
 cases ha : aggT P t with
 | none => simp [ha] at h
 | some q =>
  cases hz : sizeT P t with
  | none => cases q <;> simp [ha, hz] at h
  | some n =>
   cases q with
   | true =>
    simp only [ha, hz] at h
    cases hb : Nat.ble (off + n) cs.length with
    | false => simp [hb] at h
    | true =>
     simp only [hb, cond_true, Option.some.injEq] at h
     subst h
     have hle : off + n ≤ cs.length := Nat.le_of_ble_eq_true hb
     refine ⟨.agg (vs.extract off (off + n)), ?_, .agg _ _ (by simp; omega) (fun i hi => ?_)⟩
     ·simp only [part, Sem.run_bind, run_isAgg' ha, Result.andThen_ok, if_true, run_sizeOf' hz, Sem.run_pure]
     ·have hi' : i < n := by simp at hi; omega
      simp only [List.getElem_take, List.getElem_drop, Array.getElem_extract]
      exact hc (off + i) (by omega)
   | false =>
    simp only [ha, hz] at h
    obtain ⟨hlt, e⟩ := List.getElem?_eq_some_iff.1 h
    subst e
    refine ⟨vs[off], ?_, hc off hlt⟩
    simp only [part, Sem.run_bind, run_isAgg' ha, Result.andThen_ok, Bool.false_eq_true, if_false]
    rw [Array.getElem?_eq_getElem (by omega)]
    rfl
theorem afield_sound {t : TypeId} {x : AV} {f : Nat} {v : Value} (h : afield P t x f (fun v => K v H)) (hr : Rel M loc H w) (hv : VRel M w loc x v) :
  GoodV P M loc H w K ((Instr.field t v f).run P w) := by
 unfold afield at h
 split at h
 case h_2 => exact h.elim
 case h_1 fs cs hu =>
 cases hv with
 | agg cs vs hs hc =>
 split at h
 case h_2 => exact h.elim
 case h_1 fd hfd =>
 obtain ⟨av, hp, hK⟩ := optP_elim h
 obtain ⟨v, hrun, hv⟩ := part_sound (P := P) hp hs hc
 have : (Instr.field t (.agg vs) f).run P w = .ok v w := by
  simp only [Instr.field, Sem.run_bind, run_underlying' hu, Result.andThen_ok, hfd, asAgg, pure_bind, hrun]
 rw [this]
 exact GoodV.pure hr hv hK
theorem aindexAddr_sound {t : TypeId} {x i : AV} {v vi : Value} (h : aindexAddr P t x i (fun v => K v H)) (hr : Rel M loc H w) (hv : VRel M w loc x v) (hi : VRel M w loc i vi) :
  GoodV P M loc H w K ((Instr.indexAt t v vi).run P w) := by
 unfold aindexAddr at h
 split at h
 ·rename_i e sz s tip k i hu
  split at h
  case h_2 => exact h.elim
  case h_1 n hn =>
  obtain ⟨hb, h⟩ := chk_elim h
  obtain ⟨⟨h0, hlt⟩, hK⟩ := needP_elim h
  cases hi
  obtain ⟨j, rfl⟩ := Int.eq_ofNat_of_zero_le h0
  have hj : j < s.toList.length := by rw [Seq.len_eq] at hlt; omega
  cases hv with
  | slnil _ _ _ hs _ => rw [hs] at hj; simp at hj
  | slz _ _ _ _ hs _ _ => rw [hs] at hj; simp at hj
  | sl _ _ _ b o cap vals hz h1 h2 hcap hnil hfull htok =>
   have hzj := hz j hj
   rw [Int.toNat_natCast, Seq.getD_eq s j hj] at hK
   by_cases hnz : n = sz
   ·subst hnz
    have hrun : (Instr.indexAt t (.slice (some ⟨b, o, none⟩) s.toList.length cap) (.int k j)).run P w = .ok (.pointer (some ⟨b, o + j * n, none⟩)) w := by
     simp only [Instr.indexAt, asIntOf, pure_bind, Sem.run_bind, run_underlying' hu, Result.andThen_ok, Sem.run_pure, run_sizeOf' hn]
     rw [if_pos (by omega)]
     simp only [Sem.run_bind, run_sizeOf' hn, Result.andThen_ok, Sem.run_pure, Int.toNat_natCast, add_mk]
    rw [hrun]
    have := VRel.iptr (M := M) (w := w) (loc := loc) s.toList[j] 0 b (o + j * n) (vals j) (fun q hq => h1 j q hj (by omega)) (fun q hq => h2 j q hj hq)
    exact GoodV.pure hr this hK
   ·have hz0 : sz = 0 := by
     simp only [Bool.or_eq_true] at hb
     rcases hb with hb | hb
     ·exact absurd (Nat.eq_of_beq_eq_true hb) hnz
     ·exact Nat.eq_of_beq_eq_true hb
    subst hz0
    have he : s.toList[j] = [] := List.length_eq_zero_iff.1 hzj
    have hrun : (Instr.indexAt t (.slice (some ⟨b, o, none⟩) s.toList.length cap) (.int k j)).run P w = .ok (.pointer (some ⟨b, o + j * n, none⟩)) w := by
     simp only [Instr.indexAt, asIntOf, pure_bind, Sem.run_bind, run_underlying' hu, Result.andThen_ok, Sem.run_pure, run_sizeOf' hn]
     rw [if_pos (by omega)]
     simp only [Sem.run_bind, run_sizeOf' hn, Result.andThen_ok, Sem.run_pure, Int.toNat_natCast, add_mk]
    rw [hrun]
    rw [he] at hK
    exact GoodV.pure hr (VRel.iptr (M := M) (w := w) (loc := loc) [] 0 b (o + j * n) (vals j) (fun q hq => by simp at hq) (fun q hq => by simp at hq)) hK
 ·rename_i e sz id off len k i hu
  split at h
  case h_2 => exact h.elim
  case h_1 n hn =>
  obtain ⟨hb, h⟩ := chk_elim h
  have hb := Nat.eq_of_beq_eq_true hb
  subst hb
  obtain ⟨⟨h0, hlt⟩, hK⟩ := needP_elim h
  cases hi
  obtain ⟨j, rfl⟩ := Int.eq_ofNat_of_zero_le h0
  cases hv with
  | msl _ _ _ _ b cap hl hle hc =>
   have hrun : (Instr.indexAt t (.slice (some ⟨b, off * n, none⟩) len cap) (.int k j)).run P w = .ok (.pointer (some ⟨b, off * n + j * n, none⟩)) w := by
    simp only [Instr.indexAt, asIntOf, pure_bind, Sem.run_bind, run_underlying' hu, Result.andThen_ok, Sem.run_pure, run_sizeOf' hn]
    rw [if_pos (by omega)]
    simp only [Sem.run_bind, run_sizeOf' hn, Result.andThen_ok, Sem.run_pure, Int.toNat_natCast, add_mk]
   rw [hrun, ← Nat.add_mul]
   rw [Int.toNat_natCast] at hK
   exact GoodV.pure hr (VRel.mptr (M := M) (w := w) (loc := loc) n id (off + j) 0 b hl) hK
 ·rename_i n e id off k i hu
  split at h
  case h_2 => exact h.elim
  case h_1 sz hn =>
  obtain ⟨⟨h0, hlt⟩, hK⟩ := needP_elim h
  cases hi
  obtain ⟨j, rfl⟩ := Int.eq_ofNat_of_zero_le h0
  cases hv with
  | ptr _ _ b hl =>
   have hrun : (Instr.indexAt t (.pointer (some ⟨b, off, none⟩)) (.int k j)).run P w = .ok (.pointer (some ⟨b, off + j * sz, none⟩)) w := by
    simp only [Instr.indexAt, asIntOf, pure_bind, Sem.run_bind, run_underlying' hu, Result.andThen_ok, Sem.run_pure, run_sizeOf' hn, Instr.sureAddr]
    rw [if_pos (by omega)]
    simp only [Sem.run_bind, run_sizeOf' hn, Result.andThen_ok, Sem.run_pure, Int.toNat_natCast, add_mk]
   rw [hrun]
   exact GoodV.pure hr (.ptr _ _ _ hl) (by simpa using hK)
 ·rename_i n e cs off k i hu
  split at h
  case h_2 => exact h.elim
  case h_1 sz hn =>
  obtain ⟨⟨h0, hlt⟩, hK⟩ := needP_elim h
  cases hi
  obtain ⟨j, rfl⟩ := Int.eq_ofNat_of_zero_le h0
  cases hv with
  | iptr _ _ b o vals h1 h2 =>
   have hrun : (Instr.indexAt t (.pointer (some ⟨b, o + off, none⟩)) (.int k j)).run P w = .ok (.pointer (some ⟨b, o + off + j * sz, none⟩)) w := by
    simp only [Instr.indexAt, asIntOf, pure_bind, Sem.run_bind, run_underlying' hu, Result.andThen_ok, Sem.run_pure, run_sizeOf' hn, Instr.sureAddr]
    rw [if_pos (by omega)]
    simp only [Sem.run_bind, run_sizeOf' hn, Result.andThen_ok, Sem.run_pure, Int.toNat_natCast, add_mk]
   rw [hrun, Nat.add_assoc]
   exact GoodV.pure hr (.iptr _ _ _ _ vals h1 h2) (by simpa using hK)
 ·rename_i e sz id off len k i hu
  split at h
  case h_2 => exact h.elim
  case h_1 n hn =>
  obtain ⟨hb, h⟩ := chk_elim h
  have hb := Nat.eq_of_beq_eq_true hb
  subst hb
  obtain ⟨⟨h0, hlt⟩, hK⟩ := needP_elim h
  cases hi
  obtain ⟨j, rfl⟩ := Int.eq_ofNat_of_zero_le h0
  cases hv with
  | csl _ _ _ _ b cap hl hle =>
   have hrun : (Instr.indexAt t (.slice (some ⟨b, off, none⟩) len cap) (.int k j)).run P w = .ok (.pointer (some ⟨b, off + j * n, none⟩)) w := by
    simp only [Instr.indexAt, asIntOf, pure_bind, Sem.run_bind, run_underlying' hu, Result.andThen_ok, Sem.run_pure, run_sizeOf' hn]
    rw [if_pos (by omega)]
    simp only [Sem.run_bind, run_sizeOf' hn, Result.andThen_ok, Sem.run_pure, Int.toNat_natCast, add_mk]
   rw [hrun]
   exact GoodV.pure hr (.ptr _ _ _ hl) (by simpa using hK)
 ·exact h.elim
theorem aindex_sound {t : TypeId} {x i : AV} {v vi : Value} (h : aindex P t x i (fun v => K v H)) (hr : Rel M loc H w) (hv : VRel M w loc x v) (hi : VRel M w loc i vi) :
  GoodV P M loc H w K ((Instr.index t v vi).run P w) := by
 unfold aindex at h
 split at h
 ·rename_i s k i hu
  obtain ⟨⟨h0, hlt⟩, hK⟩ := needP_elim h
  cases hi; cases hv
  obtain ⟨j, rfl⟩ := Int.eq_ofNat_of_zero_le h0
  have hj : j < s.size := by omega
  have hrun : (Instr.index t (.string s) (.int k j)).run P w = .ok (.int .u8 (s.data.toList.getD j 0).toNat) w := by
   simp only [Instr.index, asIntOf, pure_bind, Sem.run_bind, run_underlying' hu, Result.andThen_ok, Sem.run_pure, Int.toNat_natCast]
   rw [if_pos (by omega)]
   have : s[j]? = some (s.data.toList.getD j 0) := by
    have hj' : j < s.data.size := hj
    rw [getElem?_pos s j hj, getD_lt _ _ _ (by simpa using hj')]
    rfl
   rw [this]; rfl
  rw [hrun]
  rw [Int.toNat_natCast] at hK
  exact GoodV.pure hr (.int _ _) hK
 ·rename_i n e cs k i hu
  split at h
  case h_2 => exact h.elim
  case h_1 sz hn =>
  obtain ⟨⟨h0, hlt⟩, h⟩ := needP_elim h
  obtain ⟨av, hp, hK⟩ := optP_elim h
  cases hi
  cases hv with
  | agg _ vs hs hc =>
  obtain ⟨j, rfl⟩ := Int.eq_ofNat_of_zero_le h0
  rw [Int.toNat_natCast] at hp
  obtain ⟨v, hrun, hv⟩ := part_sound (P := P) hp hs hc
  have hrun' : (Instr.index t (.agg vs) (.int k j)).run P w = .ok v w := by
   simp only [Instr.index, asIntOf, pure_bind, Sem.run_bind, run_underlying' hu, Result.andThen_ok, Sem.run_pure, Int.toNat_natCast]
   rw [if_pos (by omega)]
   simp only [Sem.run_bind, run_sizeOf' hn, Result.andThen_ok, hrun]
  rw [hrun']
  exact GoodV.pure hr hv hK
 ·exact h.elim
theorem aextract_sound {x : AV} {i : Nat} {v : Value} (h : aextract x i (fun v => K v H)) (hr : Rel M loc H w) (hv : VRel M w loc x v) :
  GoodV P M loc H w K ((Instr.extract v i).run P w) := by
 unfold aextract at h
 cases hv with
 | tup cs vs hs hc =>
  simp only at h
  obtain ⟨av, hp, hK⟩ := optP_elim h
  obtain ⟨hlt, rfl⟩ := List.getElem?_eq_some_iff.1 hp
  have : (Instr.extract (.tuple vs) i).run P w = .ok (vs[i]'(by omega)) w := by
   simp only [Instr.extract]
   rw [Array.getElem?_eq_getElem (by omega)]
   rfl
  rw [this]
  exact GoodV.pure hr (hc i hlt) hK
 | _ => exact h.elim
end
end Go.Ab
end

noncomputable section
namespace Go.Ab
section
variable {P : Program} {M : Mem} {loc : Locs} {H : List AObj} {w : World} {K : AV → List AObj → Prop}
theorem kindEq_eq {k k' : IntKind} (h : kindEq k k' = true) : k = k' := by
 cases k <;> cases k' <;> first | rfl | (simp [kindEq] at h)
theorem intOp_sound {op : BinOp} {t : TypeId} {k : IntKind} {a b : Int} (hs : isShift op = false) (h : intOp op k a b (fun v => K v H)) (hr : Rel M loc H w) :
  GoodV P M loc H w K ((binOp op t (.int k a) (.int k b)).run P w) := by
 cases op <;> simp only [intOp, isShift, reduceCtorEq] at h hs
 case quo =>
  obtain ⟨hb, hK⟩ := needP_elim h
  have : (binOp .quo t (.int k a) (.int k b)).run P w = .ok (.int k (k.wrap (a.tdiv b))) w := by simp [binOp, Op.intDiv, hb]
  rw [this]; exact GoodV.pure hr (.int _ _) hK
 case rem =>
  obtain ⟨hb, hK⟩ := needP_elim h
  have : (binOp .rem t (.int k a) (.int k b)).run P w = .ok (.int k (a.tmod b)) w := by simp [binOp, Op.intDiv, hb]
  rw [this]; exact GoodV.pure hr (.int _ _) hK
 case add =>
  have : (binOp .add t (.int k a) (.int k b)).run P w = .ok (.int k (k.wrap (a + b))) w := by simp [binOp, Op.intArith, Op.intBits, Op.intCmp]
  rw [this]; exact GoodV.pure hr (.int _ _) h
 case sub =>
  have : (binOp .sub t (.int k a) (.int k b)).run P w = .ok (.int k (k.wrap (a - b))) w := by simp [binOp, Op.intArith, Op.intBits, Op.intCmp]
  rw [this]; exact GoodV.pure hr (.int _ _) h
 case mul =>
  have : (binOp .mul t (.int k a) (.int k b)).run P w = .ok (.int k (k.wrap (a * b))) w := by simp [binOp, Op.intArith, Op.intBits, Op.intCmp]
  rw [this]; exact GoodV.pure hr (.int _ _) h
 case and =>
  have : (binOp .and t (.int k a) (.int k b)).run P w = .ok (.int k (k.wrap (BitVec.ofInt k.bits a &&& BitVec.ofInt k.bits b).toNat)) w := by simp [binOp, Op.intArith, Op.intBits, Op.intCmp]
  rw [this]; exact GoodV.pure hr (.int _ _) h
 case or =>
  have : (binOp .or t (.int k a) (.int k b)).run P w = .ok (.int k (k.wrap (BitVec.ofInt k.bits a ||| BitVec.ofInt k.bits b).toNat)) w := by simp [binOp, Op.intArith, Op.intBits, Op.intCmp]
  rw [this]; exact GoodV.pure hr (.int _ _) h
 case xor =>
  have : (binOp .xor t (.int k a) (.int k b)).run P w = .ok (.int k (k.wrap (BitVec.ofInt k.bits a ^^^ BitVec.ofInt k.bits b).toNat)) w := by simp [binOp, Op.intArith, Op.intBits, Op.intCmp]
  rw [this]; exact GoodV.pure hr (.int _ _) h
 case andNot =>
  have : (binOp .andNot t (.int k a) (.int k b)).run P w = .ok (.int k (k.wrap (BitVec.ofInt k.bits a &&& ~~~BitVec.ofInt k.bits b).toNat)) w := by simp [binOp, Op.intArith, Op.intBits, Op.intCmp]
  rw [this]; exact GoodV.pure hr (.int _ _) h
 case eql =>
  have : (binOp .eql t (.int k a) (.int k b)).run P w = .ok (.bool (a == b)) w := by simp [binOp, Op.intArith, Op.intBits, Op.intCmp]
  rw [this]; exact GoodV.pure hr (.bool _) h
 case neq =>
  have : (binOp .neq t (.int k a) (.int k b)).run P w = .ok (.bool (a != b)) w := by simp [binOp, Op.intArith, Op.intBits, Op.intCmp]
  rw [this]; exact GoodV.pure hr (.bool _) h
 case lss =>
  have : (binOp .lss t (.int k a) (.int k b)).run P w = .ok (.bool (decide (a < b))) w := by simp [binOp, Op.intArith, Op.intBits, Op.intCmp]
  rw [this]; exact GoodV.pure hr (.bool _) h
 case leq =>
  have : (binOp .leq t (.int k a) (.int k b)).run P w = .ok (.bool (decide (a ≤ b))) w := by simp [binOp, Op.intArith, Op.intBits, Op.intCmp]
  rw [this]; exact GoodV.pure hr (.bool _) h
 case gtr =>
  have : (binOp .gtr t (.int k a) (.int k b)).run P w = .ok (.bool (decide (a > b))) w := by simp [binOp, Op.intArith, Op.intBits, Op.intCmp]
  rw [this]; exact GoodV.pure hr (.bool _) h
 case geq =>
  have : (binOp .geq t (.int k a) (.int k b)).run P w = .ok (.bool (decide (a ≥ b))) w := by simp [binOp, Op.intArith, Op.intBits, Op.intCmp]
  rw [this]; exact GoodV.pure hr (.bool _) h
theorem shiftOp_sound {op : BinOp} {t : TypeId} {k k' : IntKind} {a b : Int} (h : shiftOp op k a b (fun v => K v H)) (hr : Rel M loc H w) :
  GoodV P M loc H w K ((binOp op t (.int k a) (.int k' b)).run P w) := by
 cases op <;> simp only [shiftOp] at h
 case shl =>
  obtain ⟨hb, hK⟩ := needP_elim h
  have : (binOp .shl t (.int k a) (.int k' b)).run P w = .ok (.int k (k.wrap (a * 2 ^ (min b.toNat k.bits)))) w := by simp [binOp, Op.shift, show ¬ b < 0 by omega]
  rw [this]; exact GoodV.pure hr (.int _ _) hK
 case shr =>
  obtain ⟨hb, hK⟩ := needP_elim h
  have : (binOp .shr t (.int k a) (.int k' b)).run P w = .ok (.int k (a.fdiv (2 ^ (min b.toNat k.bits)))) w := by simp [binOp, Op.shift, show ¬ b < 0 by omega]
  rw [this]; exact GoodV.pure hr (.int _ _) hK
theorem strOp_sound {op : BinOp} {t : TypeId} {x y : ByteArray} (h : strOp op x y (fun v => K v H)) (hr : Rel M loc H w) :
  GoodV P M loc H w K ((binOp op t (.string x) (.string y)).run P w) := by
 cases op <;> simp only [strOp] at h
 case add =>
  obtain ⟨hb, hK⟩ := needP_elim h
  have hm : IntKind.i64.max = 9223372036854775807 := rfl
  have : (binOp .add t (.string x) (.string y)).run P w = .ok (.string (x ++ y)) w := by
   simp only [binOp, Op.stringOp]
   rw [if_neg (by rw [hm]; omega)]; rfl
  rw [this]; exact GoodV.pure hr (.str _) hK
 all_goals exact GoodV.pure hr (.bool _) h
theorem nilSl_elim {s : Seq} {tip : Tip} {K : Bool → Prop} (h : nilSl s tip K) {b : Bool} (hb : b = true → s.toList = []) (hn : tip = .nil → b = true) : K b := by
 cases tip with
 | nil => rw [hn rfl]; exact h
 | none => exact h b hb
 | full => exact h b hb
 | tok id => exact h b hb
theorem eqIn_bool {t : TypeId} (hu : P.underlying t = some .bool) (d : Nat) (a b : Bool) : (Op.equalIn (d + 1) t (.bool a) (.bool b)).run P w = .ok (a == b) w := by
 simp [Op.equalIn, run_underlying' hu]
theorem eqIn_nn {t e : TypeId} (hu : P.underlying t = some (.pointer e)) (d : Nat) : (Op.equalIn (d + 1) t (.pointer none) (.pointer none)).run P w = .ok true w := by
 simp [Op.equalIn, run_underlying' hu]
theorem eqIn_np {t e : TypeId} (hu : P.underlying t = some (.pointer e)) (d : Nat) (a : Addr) : (Op.equalIn (d + 1) t (.pointer none) (.pointer (some a))).run P w = .ok false w := by
 simp [Op.equalIn, run_underlying' hu]
theorem eqIn_pn {t e : TypeId} (hu : P.underlying t = some (.pointer e)) (d : Nat) (a : Addr) : (Op.equalIn (d + 1) t (.pointer (some a)) (.pointer none)).run P w = .ok false w := by
 simp [Op.equalIn, run_underlying' hu]
theorem eqIn_sn {t e : TypeId} (hu : P.underlying t = some (.slice e)) (d : Nat) (l c : Nat) : (Op.equalIn (d + 1) t (.slice none l c) (.slice none 0 0)).run P w = .ok true w := by
 simp [Op.equalIn, run_underlying' hu]
theorem eqIn_ss {t e : TypeId} (hu : P.underlying t = some (.slice e)) (d : Nat) (a : Addr) (l c : Nat) : (Op.equalIn (d + 1) t (.slice (some a) l c) (.slice none 0 0)).run P w = .ok false w := by
 simp [Op.equalIn, run_underlying' hu]
theorem cellEq_sound {t : TypeId} {a b : AV} {va vb : Value} {e : Bool} (h : cellEq (P.underlying t) a b = some e) (ha : VRel M w loc a va) (hb : VRel M w loc b vb) (d : Nat) :
  (Op.equalIn (d + 1) t va vb).run P w = .ok e w := by
 unfold cellEq at h
 split at h
 ·rename_i k x k' y hu
  cases ha; cases hb
  cases hk : kindEq k k' with
  | false => rw [hk] at h; cases h
  | true =>
   rw [hk] at h
   simp only [cond_true, Option.some.injEq] at h
   have hk : k = k' := by cases k <;> cases k' <;> first | rfl | cases hk
   subst hk; subst h
   simp [Op.equalIn, run_underlying' hu]
 ·rename_i x y hu
  cases ha; cases hb
  simp only [Option.some.injEq] at h
  subst h
  simp [Op.equalIn, run_underlying' hu, beq_toListBytes]
 ·rename_i x y hu
  cases ha; cases hb
  simp only [Option.some.injEq] at h
  subst h
  exact eqIn_bool hu d _ _
 ·cases h
theorem aeqF_sound (d : Nat) {xs ys : List AV} {vx vy : Array Value} (hsx : vx.size = xs.length) (hx : ∀ i (h : i < xs.length), VRel M w loc xs[i] (vx[i]'(by omega))) (hsy : vy.size = ys.length) (hy : ∀ i (h : i < ys.length), VRel M w loc ys[i] (vy[i]'(by omega))) :
  ∀ (fs : List Field) (e : Bool), aeqF P fs xs ys = some e → (Op.eqFields (d + 1) vx vy fs).run P w = .ok e w
 | [], e, h => by
  simp only [aeqF, Option.some.injEq] at h
  subst h; simp [Op.eqFields]
 | f :: r, e, h => by
  simp only [aeqF] at h
  cases hn : f.name == "_" with
  | true => rw [hn] at h; cases h
  | false =>
   rw [hn] at h
   simp only [cond_false] at h
   split at h
   case h_2 => cases h
   case h_1 a b ha hb =>
   split at h
   case h_2 => cases h
   case h_1 e1 q he hq =>
   simp only [Option.some.injEq] at h
   obtain ⟨va, r1, k1⟩ := part_sound (P := P) (M := M) (w := w) (loc := loc) ha hsx hx
   obtain ⟨vb, r2, k2⟩ := part_sound (P := P) (M := M) (w := w) (loc := loc) hb hsy hy
   have hcell := cellEq_sound he k1 k2 d
   have hrest := aeqF_sound d hsx hx hsy hy r q hq
   have hn' : f.name ≠ "_" := by simpa using hn
   rw [Op.eqFields, if_pos hn']
   simp only [Sem.run_bind, r1, r2, hcell, Result.andThen_ok]
   subst h
   cases e1 with
   | true => simpa using hrest
   | false => simp
theorem arr3_spec {t e : TypeId} (h : arr3 P t = some e) : P.underlying t = some (.array 3 e) ∧ sizeT P e = some 1 ∧ aggT P e = some false := by
 unfold arr3 at h
 split at h
 case h_2 => cases h
 case h_1 e' hu =>
 split at h
 case h_2 => cases h
 case h_1 k h1 h2 h3 =>
 cases h
 exact ⟨hu, h2, h3⟩
theorem eq3_sound {t e : TypeId} (h3 : arr3 P t = some e) {xs ys : List AV} {q : Bool} (h : eq3 P e xs ys = some q) {vx vy : Array Value} (hsx : vx.size = xs.length) (hx : ∀ i (h : i < xs.length), VRel M w loc xs[i] (vx[i]'(by omega)))
  (hsy : vy.size = ys.length) (hy : ∀ i (h : i < ys.length), VRel M w loc ys[i] (vy[i]'(by omega))) (d : Nat) : (Op.equalIn (d + 1 + 1) t (.agg vx) (.agg vy)).run P w = .ok q w := by
 obtain ⟨hu, hs, ha⟩ := arr3_spec h3
 unfold eq3 at h
 split at h
 case h_2 => cases h
 case h_1 a0 a1 a2 b0 b1 b2 =>
 split at h
 case h_2 => cases h
 case h_1 x y z e0 e1 e2 =>
 cases h
 have c0 := cellEq_sound e0 (hx 0 (by simp)) (hy 0 (by simp)) d
 have c1 := cellEq_sound e1 (hx 1 (by simp)) (hy 1 (by simp)) d
 have c2 := cellEq_sound e2 (hx 2 (by simp)) (hy 2 (by simp)) d
 have p : ∀ (vs : Array Value) (i : Nat) (hi : i < vs.size), (part e vs i).run P w = .ok vs[i] w := by
  intro vs i hi
  simp only [part, Sem.run_bind, run_isAgg' ha, Result.andThen_ok, Bool.false_eq_true, if_false]
  rw [Array.getElem?_eq_getElem hi]; rfl
 have x0 := p vx 0 (by simp at hsx; omega)
 have x1 := p vx 1 (by simp at hsx; omega)
 have x2 := p vx 2 (by simp at hsx; omega)
 have y0 := p vy 0 (by simp at hsy; omega)
 have y1 := p vy 1 (by simp at hsy; omega)
 have y2 := p vy 2 (by simp at hsy; omega)
 rw [Op.equalIn]
 simp only [Sem.run_bind, run_underlying' hu, Result.andThen_ok, run_sizeOf' hs]
 rw [Std.Legacy.Range.forIn_eq_forIn_range']
 simp only [Std.Legacy.Range.size, show (3 - 0 + 1 - 1) / 1 = 3 from rfl, List.range', List.forIn_cons, List.forIn_nil, Sem.run_bind, show 0 * 1 = 0 from rfl, show (0 + 1) * 1 = 1 from rfl, show (0 + 1 + 1) * 1 = 2 from rfl, x0, x1, x2, y0, y1, y2, c0, c1, c2, Result.andThen_ok]
 cases x <;> cases y <;> cases z <;> simp [x0, x1, x2, y0, y1, y2, c0, c1, c2]
theorem eqIn_mn {t k e : TypeId} (hu : P.underlying t = some (.map k e)) (d : Nat) (p : Option Nat) : (Op.equalIn (d + 1) t (.map p) (.map none)).run P w = .ok p.isNone w := by
 cases p <;> simp [Op.equalIn, run_underlying' hu]
theorem aeq_sound {t : TypeId} {x y : AV} {vx vy : Value} {K : Bool → Prop} (h : aeq P t x y K) (hx : VRel M w loc x vx) (hy : VRel M w loc y vy) :
  ∃ b, (Op.equal t vx vy).run P w = .ok b w ∧ K b := by
 unfold aeq at h
 split at h
 ·obtain ⟨hb, hK⟩ := chk_elim h
  cases hx; cases hy
  unfold boolish at hb
  split at hb
  ·rename_i hu
   exact ⟨_, eqIn_bool hu 9999 _ _, hK⟩
  ·cases hb
 all_goals try (
  obtain ⟨hb, hK⟩ := chk_elim h
  unfold ptrish at hb
  split at hb
  ·rename_i hu
   cases hx
   cases hy
   exact ⟨_, by first | exact eqIn_nn hu 9999 | exact eqIn_np hu 9999 _ | exact eqIn_pn hu 9999 _, hK⟩
  ·cases hb)
 ·rename_i sz s tip sz' s'
  obtain ⟨hb, hK⟩ := chk_elim h
  unfold slish at hb
  split at hb
  ·rename_i hu
   have hvy : vy = .slice none 0 0 := by
    cases hy with
    | slnil => rfl
    | sl _ _ _ _ _ _ _ _ _ _ _ hnil _ _ => exact (hnil rfl).elim
    | slz _ _ _ _ _ hnil _ => exact (hnil rfl).elim
   subst hvy
   cases hx with
   | slnil _ _ _ hs _ =>
    refine ⟨true, eqIn_sn hu 9999 _ _, nilSl_elim hK (fun _ => hs) (fun _ => rfl)⟩
   | slz _ _ _ a hs hnil _ =>
    refine ⟨false, eqIn_ss hu 9999 _ _ _, nilSl_elim hK (fun h => by cases h) (fun h => (hnil h).elim)⟩
   | sl _ _ _ b o cap vals hz h1 h2 hcap hnil hfull htok =>
    refine ⟨false, eqIn_ss hu 9999 _ _ _, nilSl_elim hK (fun h => by cases h) (fun h => (hnil h).elim)⟩
  ·cases hb
 ·rename_i xs ys
  unfold aeqAgg at h
  split at h
  case h_1 e' he3 =>
   obtain ⟨_, h⟩ := chk_elim h
   unfold boolP at h
   split at h
   case h_2 => exact h.elim
   case h_1 e he =>
   cases hx with
   | agg _ vx hsx hx' =>
   cases hy with
   | agg _ vy hsy hy' => exact ⟨e, eq3_sound he3 he hsx hx' hsy hy' 9998, h⟩
  case h_2 =>
  obtain ⟨hb, hq⟩ := chk_elim h
  rw [Bool.and_eq_true] at hb
  unfold boolP at hq
  split at hq
  case h_2 => exact hq.elim
  case h_1 e he =>
  cases hx with
  | agg _ vx hsx hx' =>
  cases hy with
  | agg _ vy hsy hy' =>
  refine ⟨e, ?_, hq⟩
  have hst := hb.1
  unfold structT' at hst
  split at hst
  case h_2 => cases hst
  case h_1 fs hu =>
  have hf : P.fieldsOf t = fs := by simp [Program.fieldsOf, hu]
  have hp : P.stoodInHeld t = false := by
   have := hb.2
   unfold plainStruct at this
   simp only [Bool.and_eq_true, Bool.not_eq_true'] at this
   exact this.1
  have hF : fieldsT P t = fs.toList := by simp [fieldsT, hu]
  rw [hF] at he
  show (Op.equalIn (9999 + 1) t (.agg vx) (.agg vy)).run P w = _
  rw [run_equalIn_struct (P := P) w 9999 t vx vy (by rw [hf]; exact hu) hp, hf]
  exact aeqF_sound 9998 hsx hx' hsy hy' _ _ he
 ·obtain ⟨hb, hK⟩ := chk_elim h
  unfold mapish at hb
  split at hb
  case h_2 => cases hb
  case h_1 k e hu =>
  cases hx; cases hy
  exact ⟨true, eqIn_mn hu 9999 none, hK⟩
 ·obtain ⟨hb, hK⟩ := chk_elim h
  unfold mapish at hb
  split at hb
  case h_2 => cases hb
  case h_1 k e hu =>
  cases hx; cases hy
  exact ⟨false, eqIn_mn hu 9999 (some _), hK⟩
 ·exact h.elim
def noGuard : Value → Value → Prop
 | .nilIface, .nilIface => False
 | .agg _, .agg _ => False
 | _, _ => True
def notNum : Value → Value → Prop
 | .int _ _, .int _ _ => False
 | .string _, .string _ => False
 | .float _ _, .float _ _ => False
 | .complex _ _ _, .complex _ _ _ => False
 | _, _ => True
theorem eqGuard_agg {op : BinOp} {t : TypeId} {ox oy : Operand} {xs ys : Array Value} (h : P.eqGuardType P.depth t = false) :
  (eqGuard op t ox oy (.agg xs) (.agg ys)).run P w = .ok () w := by
 unfold eqGuard
 cases op <;> first | rfl | simp [h]
theorem eqGuard_ok {op : BinOp} {t : TypeId} {ox oy : Operand} {vx vy : Value} (h : noGuard vx vy) :
  (eqGuard op t ox oy vx vy).run P w = .ok () w := by
 unfold eqGuard
 cases op <;> first | rfl | (cases vx <;> cases vy <;> first | rfl | exact h.elim)
theorem abin_sound {op : BinOp} {t : TypeId} {x y : AV} {ox oy : Operand} {vx vy : Value} (h : abin P op t x y (fun v => K v H)) (hr : Rel M loc H w) (hx : VRel M w loc x vx) (hy : VRel M w loc y vy) :
    GoodV P M loc H w K ((do eqGuard op t ox oy vx vy; binOp op t vx vy : Sem Value).run P w) := by
  unfold abin at h
  split at h
  · cases hx; cases hy
    rw [Sem.run_bind, eqGuard_ok (by trivial), Result.andThen_ok]
    split at h
    · exact shiftOp_sound h hr
    · rename_i hs
      obtain ⟨hk, h'⟩ := chk_elim h
      have hk := kindEq_eq hk
      subst hk
      exact intOp_sound hs h' hr
  · cases hx; cases hy
    rw [Sem.run_bind, eqGuard_ok (by trivial), Result.andThen_ok]
    exact strOp_sound h hr
  · have hcase : (∀ ox oy, (eqGuard op t ox oy vx vy).run P w = .ok () w) ∧ notNum vx vy := by
      have haeq : ∃ K' : Bool → Prop, aeq P t x y K' := by
        split at h
        · exact ⟨_, h⟩
        · exact ⟨_, h⟩
        · exact h.elim
      obtain ⟨K', hK'⟩ := haeq
      unfold aeq at hK'
      split at hK' <;> first
        | (cases hx <;> cases hy <;> exact ⟨fun _ _ => eqGuard_ok trivial, trivial⟩)
        | (unfold aeqAgg at hK'
           split at hK'
           · obtain ⟨hb, _⟩ := chk_elim hK'
             cases hx; cases hy
             exact ⟨fun _ _ => eqGuard_agg (by simpa using hb), trivial⟩
           · obtain ⟨hb, _⟩ := chk_elim hK'
             rw [Bool.and_eq_true] at hb
             have := hb.2
             unfold plainStruct at this
             simp only [Bool.and_eq_true, Bool.not_eq_true'] at this
             cases hx; cases hy
             exact ⟨fun _ _ => eqGuard_agg this.2, trivial⟩)
        | exact hK'.elim
    split at h
    · obtain ⟨b, hrun, hK⟩ := aeq_sound h hx hy
      rw [Sem.run_bind, hcase.1, Result.andThen_ok]
      have : (binOp .eql t vx vy).run P w = .ok (.bool b) w := by
        have e : binOp .eql t vx vy = (do pure (.bool (← Op.equal t vx vy))) := by
          cases vx <;> cases vy <;> first | rfl | exact hcase.2.elim
        rw [e, Sem.run_bind, hrun]; rfl
      rw [this]; exact GoodV.pure hr (.bool _) hK
    · obtain ⟨b, hrun, hK⟩ := aeq_sound h hx hy
      rw [Sem.run_bind, hcase.1, Result.andThen_ok]
      have : (binOp .neq t vx vy).run P w = .ok (.bool (!b)) w := by
        have e : binOp .neq t vx vy = (do pure (.bool (!(← Op.equal t vx vy)))) := by
          cases vx <;> cases vy <;> first | rfl | exact hcase.2.elim
        rw [e, Sem.run_bind, hrun]; rfl
      rw [this]; exact GoodV.pure hr (.bool _) hK
    · exact h.elim
theorem aun_sound {op : UnOp} {x : AV} {v : Value} (h : aun op x (fun v => K v H)) (hr : Rel M loc H w) (hv : VRel M w loc x v) :
  GoodV P M loc H w K ((Op.unary op v).run P w) := by
 unfold aun at h
 split at h
 ·cases hv; exact GoodV.pure hr (.int _ _) h
 ·cases hv; exact GoodV.pure hr (.bool _) h
 ·exact h.elim
end
end Go.Ab
end

noncomputable section
namespace Go.Ab
section
variable {P : Program} {M : Mem} {loc : Locs} {H : List AObj} {w : World} {K : AV → List AObj → Prop}
theorem bytesSeq_toList (s : ByteArray) : (bytesSeq s).toList = s.data.toList.map encB := rfl
def cellInt : List AV → Int
 | [.int _ n] => n
 | _ => 0
theorem bytesOf_nums {s : Seq} (h : allBytes s) : bytesOf s = strOfNums (s.toList.map cellInt) := by
 unfold bytesOf strOfNums
 rw [List.map_map]
 congr 2
 apply List.map_congr_left
 intro x hx
 obtain ⟨n, rfl⟩ := h x hx
 rfl
theorem bytesWorld_same (w : World) (e : TypeId) (s : ByteArray) :
  SameMem (w.alloc (.cells (Lib.bytesCells w e s) e ((Lib.bytesCells w e s).size, (Lib.bytesCells w e s).size + 1))) (Lib.bytesWorld w e s) := by
 refine ⟨?_, rfl, rfl, rfl⟩
 apply Array.ext_getElem?
 intro i
 rcases Nat.lt_trichotomy i w.heap.size with h | h | h
 ·rw [Lib.bytesWorld_at_old w e s i h, heap_alloc_lt h]
 ·subst h; rw [Lib.bytesWorld_at_new, heap_alloc_new]
 ·rw [Array.getElem?_eq_none (by rw [Lib.bytesWorld_size]; omega), Array.getElem?_eq_none (by simp; omega)]
theorem Question.cut_ge {w : World} {n o : Nat} {e : TypeId} : n ≤ grownCap w n o e := by
 simp only [grownCap, Question.cut]; omega
theorem run_convert_bytes_zero (w : World) (src e : TypeId) (hs : P.underlying src = some (.slice e)) (he : P.underlying e = some (.int .u8)) (a : Addr) :
  ∀ dst, P.underlying dst = some .string → (convert src dst (.slice (some a) 0 0)).run P w = .ok (.string (strOfNums [])) w := by
 intro dst hd
 rw [run_convert_bytes_string w src dst e _ 0 0 hs he hd]
 rfl
theorem Rel.lock (hr : Rel M loc H w) {id b n : Nat} {q : Seq} {vs : Array Value} {T : TypeId} {fr fr' : Nat × Nat} (ho : H[id]? = some (.arr 1 q)) (hl : loc id = some (.blk b)) (hb : w.heap[b]? = some (.cells vs T fr)) (hn : n ≤ vs.size) :
  Rel (M.grow b n) loc (H.set id .gone) (setBlk w b (.cells vs T fr')) ∧ Step M loc H w (M.grow b n) loc (H.set id .gone) (setBlk w b (.cells vs T fr')) := by
 have hng : (AObj.arr 1 q = AObj.gone → False) := by intro h; cases h
 have hbase := ((hr.objs id _ ho).block_lt hng (b := b) (by rw [hl]; rfl)).2
 have hlt := cells_lt hb
 have hext : M.ext b = 0 := by
  have := hr.objs id _ ho
  rw [hl] at this
  obtain ⟨b', vs, T, fr, e, h1, h2, _⟩ := this
  cases e; exact h2
 obtain ⟨r1, r2⟩ := hr.write id b _ .gone (.cells vs T fr') ho hng hl (fun cs T' fr2 h => by
  rw [hb] at h
  cases h
  exact ⟨_, _, rfl, rfl⟩) trivial
 have hw : (setBlk w b (.cells vs T fr')).heap[b]? = some (.cells vs T fr') := setBlk_same hlt
 have hnb : ∀ i o x, (H.set id AObj.gone)[i]? = some o → (o = .gone → False) → loc i = some x → x.block? ≠ some b := by
  intro i o x hi hg hx hb
  have hi' : i ≠ id ∧ H[i]? = some o := by
   rw [List.getElem?_set] at hi
   split at hi
   ·split at hi
    ·cases hi; exact (hg rfl).elim
    ·cases hi
   ·rename_i e; exact ⟨fun x => e x.symm, hi⟩
  exact hi'.1 (hr.inj i id o _ x _ b hi'.2 ho hg hng hx hl hb rfl)
 have hk : Keeps M (setBlk w b (.cells vs T fr')) loc (M.grow b n) (setBlk w b (.cells vs T fr')) loc := by
  refine ⟨fun c k v hi => ⟨hi.1, ?_⟩, fun _ cs _ fr h => ⟨cs, fr, h, rfl⟩, fun _ _ h => h⟩
  by_cases e : c = b
  ·subst e; rcases hi.2 with z | z <;> omega
  ·simp only [Mem.grow]; rw [if_neg e]; exact hi.2
 refine ⟨⟨r1.base, ?_, r1.dom, ?_, r1.inj⟩, ⟨rfl, r2.size, r2.os, r2.tape, r2.output, ?_, fun b k v h => hk.imm b k v (r2.imm b k v h), r2.shape, r2.own, r2.locs, r2.len⟩⟩
 ·intro c hc
  simp only [Mem.grow] at hc ⊢
  by_cases e : c = b
  ·subst e; rw [if_pos rfl]; exact ⟨hbase, vs, T, _, hw, hn⟩
  ·rw [if_neg e] at hc ⊢; exact r1.ext c hc
 ·intro i o hi
  by_cases hg : o = .gone
  ·subst hg; trivial
  ·refine (r1.objs i o hi).keeps_far hk rfl (fun c hc => ⟨rfl, ?_⟩)
   simp only [Mem.grow]
   rw [if_neg]
   rintro rfl
   cases hx : loc i with
   | none => rw [hx] at hc; cases hc
   | some x => rw [hx] at hc; exact hnb i o x hi hg hx hc
 ·intro c hc hno
  have hcb : c ≠ b := by rintro rfl; exact hno ⟨id, _, _, ho, hng, hl, rfl⟩
  refine ⟨(r2.keep c hc hno).1, ?_⟩
  simp only [Mem.grow]
  rw [if_neg hcb]
theorem aconvM_sound {src dst : TypeId} {x : AV} {v : Value} (h : aconvM P src dst x H K) (hr : Rel M loc H w) (hv : VRel M w loc x v) :
  GoodV P M loc H w K ((convert src dst v).run P w) := by
 unfold aconvM at h
 split at h
 case h_3 => exact h.elim
 case h_2 d e id len hs hd =>
  obtain ⟨hsd, h2⟩ := chk_elim h
  clear h
  have hsd : src = dst := Nat.eq_of_beq_eq_true hsd
  subst hsd
  have hde : d = e := by rw [hs] at hd; cases hd; rfl
  subst hde
  split at h2
  case h_2 => exact h2.elim
  case h_1 q he ho =>
  obtain ⟨hq, hK⟩ := chk_elim h2
  have hq : len = q.len := Nat.eq_of_beq_eq_true hq
  have hq2 : q.toList.length = len := by rw [hq, Seq.len_eq]
  cases hv with
  | msl _ _ _ _ b cap hb hle hc =>
  obtain ⟨b', vs, T, fr, e1, c1, c2, c3, c4, c5, c6, c7⟩ := hr.objs id _ ho
  rw [hb] at e1
  cases e1
  obtain ⟨r1, r2⟩ := hr.lock (n := q.toList.length) (fr' := (if fr.1 == fr.2 then (vs.size, vs.size + 1) else (min fr.1 vs.size, max fr.2 (vs.size + 1)))) ho hb c3 (by omega)
  have hsh : w.shape? b = some (T, vs.size) := by unfold World.shape?; rw [c3]
  have hfz : w.freeze ⟨b, vs.size, none⟩ 1 = setBlk w b (.cells vs T (if fr.1 == fr.2 then (vs.size, vs.size + 1) else (min fr.1 vs.size, max fr.2 (vs.size + 1)))) := by
   unfold World.freeze setBlk
   rw [if_neg (by decide)]
   congr 1
   apply Array.ext_getElem?
   intro i
   rw [Array.getElem?_modify, Array.getElem?_setIfInBounds]
   by_cases hi : b = i
   ·subst hi
    rw [if_pos rfl, if_pos rfl, c3, if_pos (cells_lt c3)]
    rfl
   ·rw [if_neg hi, if_neg hi]
  have hrun : (convert src src (.slice (some ⟨b, 0 * 1, none⟩) len cap)).run P w = .ok (.slice (some ⟨b, 0 * 1, none⟩) len cap) (w.freeze ⟨b, vs.size, none⟩ 1) := by
   simp [convert, run_underlying' hs, run_underlying' hd, run_underlying' he, markStringish, hsh]
  rw [hrun, hfz]
  refine ⟨_, _, _, _, _, _, rfl, hK, r1, ?_, r2⟩
  have hkk := r2.keeps hr
  have hg := VRel.sl (M := M.grow b q.toList.length) (w := setBlk w b (.cells vs T (if fr.1 == fr.2 then (vs.size, vs.size + 1) else (min fr.1 vs.size, max fr.2 (vs.size + 1))))) (loc := loc) 1 q .none b 0 cap (fun i j => vs.getD (i * 1 + j) undef)
   (fun i hi => c6 i hi)
   (fun i j hi hj => by
    refine ⟨?_, .inr ?_⟩
    ·rw [Nat.zero_add, cell_eq (setBlk_same (cells_lt c3)), Array.getElem?_eq_getElem (by omega)]
     simp [Array.getD, show i + j < vs.size by omega]
    ·simp only [Mem.grow, if_true]; omega)
   (fun i j hi hj => by
    obtain ⟨v, hv1, hv2⟩ := c7 i j hi hj
    rw [Array.getD_eq_getD_getElem?, hv1]
    exact hv2.keeps hkk)
   (by rw [hq2]; exact hle) (by intro h; cases h) (fun h => by cases h) (fun id h => by cases h)
  rw [hq2] at hg ⊢
  exact hg
 case h_1 d e s hs hd =>
 cases hv
 split at h
 case h_2 => exact h.elim
 case h_1 he =>
 rw [Lib.run_convert_string_bytes w src dst e s hs hd he]
 have hsm := bytesWorld_same w e s
 have hcs : s.size ≤ (Lib.bytesCells w e s).size := by simp [Lib.bytesCells]
 have hlen : (bytesSeq s).toList.length = s.size := by rw [bytesSeq_toList]; simp
 have hcell : ∀ i, i < s.size → (Lib.bytesCells w e s)[i]? = some (.int .u8 (s.data.toList.getD i 0).toNat) := by
  intro i hi
  have h1 := Lib.bytesWorld_cell w e s i hi
  rw [cell_eq (Lib.bytesWorld_at_new w e s)] at h1
  exact h1
 obtain ⟨r1, r2⟩ := hr.new (.cells (Lib.bytesCells w e s) e ((Lib.bytesCells w e s).size, (Lib.bytesCells w e s).size + 1)) 0 (fun h => absurd h (by omega)) (.blk w.heap.size) (.arr 1 (bytesSeq s)) (.inr rfl)
  ⟨w.heap.size, _, e, _, rfl, hr.base, by simp [Mem.grow], heap_alloc_new _ _, ⟨fun k hk h => by have := h.1; simp only at this; omega, fun h => absurd rfl h⟩, by rw [hlen]; omega, fun i hi => by simp [bytesSeq_toList, encB], fun i j hi hj => by
   have hj0 : j = 0 := by simp [bytesSeq_toList, encB] at hj; exact hj
   subst hj0
   have hi' : i < s.data.toList.length := by simpa [bytesSeq_toList] using hi
   refine ⟨.int .u8 (s.data.toList.getD i 0).toNat, by rw [Nat.mul_one, Nat.add_zero]; exact hcell i (by simpa using hi'), ?_⟩
   simp only [bytesSeq_toList, List.getElem_map, encB, List.getElem_cons_zero]
   rw [getD_lt _ _ _ hi']
   exact .int _ _⟩
 obtain ⟨r3, r4⟩ := r1.same hsm
 refine ⟨_, _, _, _, _, _, rfl, h, r3, ?_, r2.trans r4⟩
 have hge : s.size ≤ grownCap w s.size 0 e := Question.cut_ge
 have hb' : ∃ cs T fr, (Lib.bytesWorld w e s).heap[w.heap.size]? = some (.cells cs T fr) ∧ (0 + grownCap w s.size 0 e) * 1 = cs.size := ⟨_, _, _, by rw [hsm.heap]; exact heap_alloc_new _ _, by simp [Lib.bytesCells]; omega⟩
 have := VRel.msl (M := M.grow w.heap.size 0) (loc := locSet loc H.length (.blk w.heap.size)) 1 H.length 0 s.size w.heap.size (grownCap w s.size 0 e) (by simp [locSet]) Question.cut_ge hb'
 rwa [Nat.zero_mul] at this
theorem aconv_sound {src dst : TypeId} {x : AV} {v : Value} (h : aconv P src dst x (fun v => K v H)) (hr : Rel M loc H w) (hv : VRel M w loc x v) :
  GoodV P M loc H w K ((convert src dst v).run P w) := by
 unfold aconv at h
 split at h
 ·rename_i d k k' n hs hd
  cases hv
  have : (convert src dst (.int k' n)).run P w = .ok (.int k (k.wrap n)) w := by
   simp [convert, run_underlying' hs, run_underlying' hd, Conv.intToInt]
  rw [this]; exact GoodV.pure hr (.int _ _) h
 ·rename_i d s hs hd
  cases hv
  have : (convert src dst (.string s)).run P w = .ok (.string s) w := by
   simp only [convert, Sem.run_bind, run_underlying' hs, run_underlying' hd, Result.andThen_ok]
   cases d <;> rfl
  rw [this]; exact GoodV.pure hr (.str _) h
 ·rename_i d e s hs hd
  cases hv
  split at h
  case h_2 => exact h.elim
  case h_1 he =>
  rw [Lib.run_convert_string_bytes w src dst e s hs hd he]
  have hsm := bytesWorld_same w e s
  have hcs : s.size ≤ (Lib.bytesCells w e s).size := by simp [Lib.bytesCells]
  obtain ⟨r1, r2⟩ := hr.data (.cells (Lib.bytesCells w e s) e ((Lib.bytesCells w e s).size, (Lib.bytesCells w e s).size + 1)) s.size (fun _ => ⟨_, _, _, rfl, hcs⟩)
  obtain ⟨r3, r4⟩ := r1.same hsm
  refine ⟨_, _, _, _, _, _, rfl, h, r3, ?_, r2.trans r4⟩
  have hlen : (bytesSeq s).toList.length = s.size := by rw [bytesSeq_toList]; simp
  have hg := VRel.sl (M := M.grow w.heap.size s.size) (w := Lib.bytesWorld w e s) (loc := loc) 1 (bytesSeq s) .none w.heap.size 0 (grownCap w s.size 0 e) (fun i j => .int .u8 (s.data.toList.getD i 0).toNat)
   (fun i hi => by simp [bytesSeq_toList, encB])
   (fun i j hi hj => by
    rw [hlen] at hi
    have hj0 : j = 0 := by omega
    subst hj0
    refine ⟨?_, .inr ?_⟩
    ·have := Lib.bytesWorld_cell w e s i hi
     simpa using this
    ·simp only [Mem.grow, if_true]; omega)
   (fun i j hi hj => by
    have hj0 : j = 0 := by simp [bytesSeq_toList, encB] at hj; exact hj
    subst hj0
    have hi' : i < s.data.toList.length := by simpa [bytesSeq_toList] using hi
    simp only [bytesSeq_toList, List.getElem_map, encB, List.getElem_cons_zero]
    rw [getD_lt _ _ _ hi']
    exact .int _ _)
   (by rw [hlen]; exact Question.cut_ge) (by intro h; cases h) (fun h => by cases h) (fun id h => by cases h)
  rw [hlen] at hg
  exact hg
 ·rename_i e sz s tip hs hd
  split at h
  case h_2 => exact h.elim
  case h_1 he =>
  obtain ⟨hb, h⟩ := chk_elim h
  obtain ⟨hall, hK⟩ := needP_elim h
  rw [bytesOf_nums hall] at hK
  cases hv with
  | slnil _ _ _ hnil _ =>
   rw [run_convert_bytes_nil w src e hs he 0 0 dst hd]
   rw [hnil] at hK
   exact GoodV.pure hr (.str _) hK
  | slz _ _ _ a hs0 _ _ =>
   rw [run_convert_bytes_zero w src e hs he a dst hd]
   rw [hs0] at hK
   exact GoodV.pure hr (.str _) hK
  | sl _ _ _ b o cap vals hz h1 h2 hcap hnil hfull htok =>
   rw [run_convert_bytes_arg w src e hs he b o s.toList.length cap (s.toList.map cellInt) (by simp) ?_ dst hd]
   ·exact GoodV.pure hr (.str _) hK
   ·intro i hi
    obtain ⟨n, hn⟩ := hall _ (List.getElem_mem hi)
    have hsz1 : sz = 1 := by rw [← hz i hi, hn]; rfl
    subst hsz1
    have h3 := h1 i 0 hi (by omega)
    have h4 := h2 i 0 hi (by rw [hn]; simp)
    rw [Nat.mul_one, Nat.add_zero] at h3
    rw [h3.1, getD_lt _ _ _ (by simpa using hi)]
    simp only [List.getElem_map, hn, cellInt]
    simp only [hn, List.getElem_cons_zero] at h4
    generalize vals i 0 = q at h4
    cases h4
    rfl
 ·exact h.elim
theorem vrel_sub {sz : Nat} {s : Seq} {tip' : Tip} {b o l h cap' : Nat} {vals : Nat → Nat → Value}
  (hz : ∀ (i : Nat) (h : i < s.toList.length), s.toList[i].length = sz)
  (h1 : ∀ i j, i < s.toList.length → j < sz → ImmC M w b (o + i * sz + j) (vals i j))
  (h2 : ∀ i j (h : i < s.toList.length) (hj : j < s.toList[i].length), VRel M w loc s.toList[i][j] (vals i j))
  (hl : l ≤ h) (hh : h ≤ s.toList.length) (hc : h - l ≤ cap') (hf : tip' = .full → cap' = h - l) (ht : ∀ id, tip' ≠ .tok id) (hn : tip' ≠ .nil) (o' : Nat) (ho : sz = 0 ∨ o' = o + l * sz ∨ h = l) :
  VRel M w loc (.sl sz (s.sub l h) tip') (.slice (some ⟨b, o', none⟩) (h - l) cap') := by
 have hlen : (s.sub l h).toList.length = h - l := by rw [Seq.sub_toList]; simp; omega
 have hget : ∀ i (hi : i < (s.sub l h).toList.length), ∃ hi' : l + i < s.toList.length, (s.sub l h).toList[i] = s.toList[l + i] := by
  intro i hi
  have hi2 : l + i < s.toList.length := by rw [hlen] at hi; omega
  refine ⟨hi2, ?_⟩
  have e := Seq.sub_toList s l h
  have e2 : (s.sub l h).toList[i]? = some s.toList[l + i] := by
   rw [e, List.getElem?_drop, List.getElem?_take, if_pos (by rw [hlen] at hi; omega), List.getElem?_eq_getElem hi2]
  rw [List.getElem?_eq_getElem hi] at e2
  exact Option.some.inj e2
 have hg := VRel.sl (M := M) (w := w) (loc := loc) sz (s.sub l h) tip' b o' cap' (fun i j => vals (l + i) j)
  (fun i hi => by obtain ⟨hi', e⟩ := hget i hi; rw [e]; exact hz _ hi')
  (fun i j hi hj => by
   obtain ⟨hi', e⟩ := hget i hi
   rcases ho with ho | ho | ho
   ·omega
   ·have := h1 (l + i) j hi' hj
    rwa [Nat.add_mul, ← Nat.add_assoc, ← ho] at this
   ·rw [hlen] at hi; omega)
  (fun i j hi hj => by
   obtain ⟨hi', e⟩ := hget i hi
   have hj' : j < s.toList[l + i].length := by rw [← e]; exact hj
   have := h2 (l + i) j hi' hj'
   simp only [e]; exact this)
  (by rw [hlen]; exact hc) hn (fun h => by rw [hlen]; exact hf h) (fun id h => (ht id h).elim)
 rw [hlen] at hg
 exact hg
def Bnd (v : Option Value) (d n : Nat) : Prop := (v = none ∧ n = d) ∨ ∃ k, v = some (.int k (n : Int))
theorem run_bound {k : IntKind} {i y : Nat} {code : BoundsCode} (hy : i ≤ y) : (Instr.sliceBound (.int k (i : Int)) y code).run P w = .ok i w := by
 simp only [Instr.sliceBound, asIntOf, pure_bind]
 rw [if_pos ⟨by omega, by omega⟩]; rfl
theorem run_bounds {sl : Bool} {len cap l h : Nat} {vlo vhi : Option Value} (hlo : Bnd vlo 0 l) (hhi : Bnd vhi len h) (hl : l ≤ h) (hh : h ≤ cap) :
  (Instr.sliceBounds sl len cap vlo vhi none).run P w = .ok (l, h, cap) w := by
 rcases hlo with ⟨rfl, rfl⟩ | ⟨k, rfl⟩ <;> rcases hhi with ⟨rfl, rfl⟩ | ⟨k', rfl⟩ <;>
  simp [Instr.sliceBounds, run_bound hl, run_bound hh]
theorem run_bounds3 {sl : Bool} {len cap l h m : Nat} {vlo : Option Value} {k k' : IntKind} (hlo : Bnd vlo 0 l) (hl : l ≤ h) (hh : h ≤ m) (hm : m ≤ cap) :
  (Instr.sliceBounds sl len cap vlo (some (.int k (h : Int))) (some (.int k' (m : Int)))).run P w = .ok (l, h, m) w := by
 rcases hlo with ⟨rfl, rfl⟩ | ⟨k, rfl⟩ <;>
  simp [Instr.sliceBounds, run_bound hl, run_bound hh, run_bound hm]
theorem slice_str {t : TypeId} (hu : P.underlying t = some .string) {s : ByteArray} {l h : Nat} {vlo vhi : Option Value} (hlo : Bnd vlo 0 l) (hhi : Bnd vhi s.size h) (hl : l ≤ h) (hh : h ≤ s.size) :
  (Instr.sliceAt t (.string s) vlo vhi none).run P w = .ok (.string (s.extract l h)) w := by
 simp [Instr.sliceAt, run_underlying' hu, Instr.slice, run_bounds hlo hhi hl hh]
theorem slice_sl {t e : TypeId} (hu : P.underlying t = some (.slice e)) {n : Nat} (hn : sizeT P e = some n) {a : Option Addr} {len cap l h : Nat} {vlo vhi : Option Value} (hlo : Bnd vlo 0 l) (hhi : Bnd vhi len h) (hl : l ≤ h) (hh : h ≤ cap) :
  (Instr.sliceAt t (.slice a len cap) vlo vhi none).run P w = .ok (.slice (if cap - l = cap ∧ False then a else if cap = l then a else a.map (·.add (l * n))) (h - l) (cap - l)) w := by
 simp [Instr.sliceAt, run_underlying' hu, Instr.slice, run_bounds hlo hhi hl hh, run_sizeOf' hn]
theorem slice_sl3 {t e : TypeId} (hu : P.underlying t = some (.slice e)) {n : Nat} (hn : sizeT P e = some n) {a : Option Addr} {len cap l h m : Nat} {vlo : Option Value} {k k' : IntKind} (hlo : Bnd vlo 0 l) (hl : l ≤ h) (hh : h ≤ m) (hm : m ≤ cap) :
  (Instr.sliceAt t (.slice a len cap) vlo (some (.int k (h : Int))) (some (.int k' (m : Int)))).run P w = .ok (.slice (if m = l then a else a.map (·.add (l * n))) (h - l) (m - l)) w := by
 simp [Instr.sliceAt, run_underlying' hu, Instr.slice, run_bounds3 hlo hl hh hm, run_sizeOf' hn]
theorem sub_good {t e : TypeId} (hu : P.underlying t = some (.slice e)) {n sz : Nat} (hn : sizeT P e = some n) (hb : n = sz ∨ sz = 0) {s : Seq} {tip : Tip} {v : Value} (hr : Rel M loc H w) (hv : VRel M w loc (.sl sz s tip) v)
  {l h : Nat} (hl : l ≤ h) (hh : h ≤ s.toList.length) {vlo vhi : Option Value} (hlo : Bnd vlo 0 l) (hhi : Bnd vhi s.toList.length h) {tip' : Tip} (ht : ∀ id, tip' ≠ .tok id) (htn : tip' ≠ .nil)
  (hf : tip' = .full → tip = .full ∧ h = s.toList.length) (hK : K (.sl sz (s.sub l h) tip') H) : GoodV P M loc H w K ((Instr.sliceAt t v vlo vhi none).run P w) := by
 cases hv with
 | slnil _ _ _ hs _ =>
  rw [hs] at hh hhi
  simp only [List.length_nil, Nat.le_zero_eq] at hh hhi
  subst hh
  have hl0 : l = 0 := by omega
  subst hl0
  rw [slice_sl hu hn hlo hhi (Nat.le_refl _) (Nat.le_refl _)]
  simp only [Nat.sub_self, if_true, and_false, if_false]
  exact GoodV.pure hr (.slnil _ _ _ (by rw [Seq.sub_toList, hs]; simp) (fun id h => (ht id h).elim)) hK
 | slz _ _ _ a hs _ _ =>
  rw [hs] at hh hhi
  simp only [List.length_nil, Nat.le_zero_eq] at hh hhi
  subst hh
  have hl0 : l = 0 := by omega
  subst hl0
  rw [slice_sl hu hn hlo hhi (Nat.le_refl _) (Nat.le_refl _)]
  simp only [Nat.sub_self, if_true, and_false, if_false]
  exact GoodV.pure hr (.slz _ _ _ a (by rw [Seq.sub_toList, hs]; simp) htn (fun id h => (ht id h).elim)) hK
 | sl _ _ _ b o cap vals hz h1 h2 hcap hnil hfull htok =>
  rw [slice_sl hu hn hlo hhi hl (by omega)]
  rw [if_neg (by simp)]
  have e : (if cap = l then some (⟨b, o, none⟩ : Addr) else Option.map (fun x => x.add (l * n)) (some (⟨b, o, none⟩ : Addr))) = some ⟨b, if cap = l then o else o + l * n, none⟩ := by
   split
   ·rfl
   ·simp [add_mk]
  rw [e]
  refine GoodV.pure hr (vrel_sub hz h1 h2 hl hh (by omega) (fun h => by have := hf h; have := hfull this.1; omega) ht htn _ ?_) hK
  rcases hb with hb | hb
  ·by_cases hc : cap = l
   ·right; right; omega
   ·right; left; rw [if_neg hc, hb]
  ·exact .inl hb
theorem sub3_good {t e : TypeId} (hu : P.underlying t = some (.slice e)) {n sz : Nat} (hn : sizeT P e = some n) (hb : n = sz ∨ sz = 0) {s : Seq} {tip : Tip} {v : Value} (hr : Rel M loc H w) (hv : VRel M w loc (.sl sz s tip) v)
  {l h : Nat} (hl : l ≤ h) (hh : h ≤ s.toList.length) {vlo : Option Value} {k k' : IntKind} (hlo : Bnd vlo 0 l)
  (hK : K (.sl sz (s.sub l h) .full) H) : GoodV P M loc H w K ((Instr.sliceAt t v vlo (some (.int k (h : Int))) (some (.int k' (h : Int)))).run P w) := by
 cases hv with
 | slnil _ _ _ hs _ =>
  rw [hs] at hh
  simp only [List.length_nil, Nat.le_zero_eq] at hh
  subst hh
  have hl0 : l = 0 := by omega
  subst hl0
  rw [slice_sl3 hu hn hlo (Nat.le_refl _) (Nat.le_refl _) (Nat.le_refl _)]
  simp only [Nat.sub_self, if_true]
  exact GoodV.pure hr (.slnil _ _ _ (by rw [Seq.sub_toList, hs]; simp) (fun id h => by cases h)) hK
 | slz _ _ _ a hs _ _ =>
  rw [hs] at hh
  simp only [List.length_nil, Nat.le_zero_eq] at hh
  subst hh
  have hl0 : l = 0 := by omega
  subst hl0
  rw [slice_sl3 hu hn hlo (Nat.le_refl _) (Nat.le_refl _) (Nat.le_refl _)]
  simp only [Nat.sub_self, if_true]
  exact GoodV.pure hr (.slz _ _ _ a (by rw [Seq.sub_toList, hs]; simp) (by intro h; cases h) (fun id h => by cases h)) hK
 | sl _ _ _ b o cap vals hz h1 h2 hcap hnil hfull htok =>
  rw [slice_sl3 hu hn hlo hl (Nat.le_refl _) (by omega)]
  have e : (if h = l then some (⟨b, o, none⟩ : Addr) else Option.map (fun x => x.add (l * n)) (some (⟨b, o, none⟩ : Addr))) = some ⟨b, if h = l then o else o + l * n, none⟩ := by
   split
   ·rfl
   ·simp [add_mk]
  rw [e]
  refine GoodV.pure hr (vrel_sub hz h1 h2 hl hh (Nat.le_refl _) (fun _ => rfl) (fun id h => by cases h) (by intro h; cases h) _ ?_) hK
  rcases hb with hb | hb
  ·by_cases hc : h = l
   ·right; right; exact hc
   ·right; left; rw [if_neg hc, hb]
  ·exact .inl hb
theorem or_beq {n sz : Nat} (h : (Nat.beq n sz || Nat.beq sz 0) = true) : n = sz ∨ sz = 0 := by
 rw [Bool.or_eq_true] at h
 exact h.imp Nat.eq_of_beq_eq_true Nat.eq_of_beq_eq_true
def ORelV (M : Mem) (w : World) (loc : Locs) : Option AV → Option Value → Prop
 | none, none => True
 | some a, some v => VRel M w loc a v
 | _, _ => False
theorem row_room (hr : Rel M loc H w) {id n off cap b : Nat} (hsm : sameSz H id n = true) (hl : loc id = some (.blk b)) (hc : ∃ cs T fr, w.heap[b]? = some (.cells cs T fr) ∧ (off + cap) * n = cs.size) : rowLen H id ≤ off + cap := by
 unfold sameSz at hsm
 unfold rowLen
 split at hsm
 case h_2 => cases hsm
 case h_1 sz' d ho =>
 rw [Bool.and_eq_true] at hsm
 obtain ⟨hsm1, hsm2⟩ := hsm
 have hsm1 := Nat.eq_of_beq_eq_true hsm1
 have hsm2 := Nat.le_of_ble_eq_true hsm2
 subst hsm1
 rw [Seq.len_eq]
 obtain ⟨b', vs', T', fr', g1, _, _, g4, _, g6, _⟩ := hr.objs id _ ho
 rw [hl] at g1; cases g1
 obtain ⟨cs, T, fr, c1, c2⟩ := hc
 rw [g4] at c1; cases c1
 rw [← c2] at g6
 exact Nat.le_of_mul_le_mul_right g6 (show 0 < n by omega)
theorem asli_sound {mu : Bool} {t : TypeId} {x : AV} {lo hi mx : Option AV} {v : Value} {vlo vhi vmx : Option Value} (h : asli P mu H t x lo hi mx (fun v => K v H)) (hr : Rel M loc H w) (hv : VRel M w loc x v)
  (hlo : ORelV M w loc lo vlo) (hhi : ORelV M w loc hi vhi) (hmx : ORelV M w loc mx vmx) :
  GoodV P M loc H w K ((Instr.sliceAt t v vlo vhi vmx).run P w) := by
 have hnone : ∀ {vx}, ORelV M w loc none vx → vx = none := by intro vx h; cases vx with | none => rfl | some _ => exact h.elim
 have hint : ∀ {vx k} {n : Int}, ORelV M w loc (some (.int k n)) vx → vx = some (.int k n) := by
  intro vx k n h; cases vx with
  | none => exact h.elim
  | some v => have h' : VRel M w loc (.int k n) v := h; cases h'; rfl
 unfold asli at h
 split at h
 ·-- strings
  rename_i s hu
  cases hnone hmx
  cases hv
  split at h
  ·cases hnone hlo; cases hnone hhi
   rw [slice_str hu (l := 0) (h := s.size) (.inl ⟨rfl, rfl⟩) (.inl ⟨rfl, rfl⟩) (by omega) (by omega)]
   exact GoodV.pure hr (.str _) h
  ·obtain ⟨⟨h0, hl⟩, hK⟩ := needP_elim h
   cases hint hlo; cases hnone hhi
   obtain ⟨j, rfl⟩ := Int.eq_ofNat_of_zero_le h0
   rw [slice_str hu (l := j) (h := s.size) (.inr ⟨_, rfl⟩) (.inl ⟨rfl, rfl⟩) (by omega) (by omega)]
   exact GoodV.pure hr (.str _) hK
  ·obtain ⟨⟨h0, hl⟩, hK⟩ := needP_elim h
   cases hint hhi; cases hnone hlo
   obtain ⟨j, rfl⟩ := Int.eq_ofNat_of_zero_le h0
   rw [slice_str hu (l := 0) (h := j) (.inl ⟨rfl, rfl⟩) (.inr ⟨_, rfl⟩) (by omega) (by omega)]
   exact GoodV.pure hr (.str _) hK
  ·obtain ⟨⟨h0, hl, hu'⟩, hK⟩ := needP_elim h
   cases hint hhi; cases hint hlo
   obtain ⟨j, rfl⟩ := Int.eq_ofNat_of_zero_le h0
   obtain ⟨q, rfl⟩ := Int.eq_ofNat_of_zero_le (Int.le_trans h0 hl)
   rw [slice_str hu (l := j) (h := q) (.inr ⟨_, rfl⟩) (.inr ⟨_, rfl⟩) (by omega) (by omega)]
   exact GoodV.pure hr (.str _) hK
  ·exact h.elim
 ·-- slices
  rename_i e sz s tip hu
  cases hnone hmx
  split at h
  case h_2 => exact h.elim
  case h_1 n hn =>
  obtain ⟨hb, h⟩ := chk_elim h
  have hb := or_beq hb
  split at h
  ·cases hnone hlo; cases hnone hhi
   cases hv with
   | slnil _ _ _ hs ht =>
    have hx := slice_sl (P := P) (w := w) hu hn (a := none) (len := 0) (cap := 0) (l := 0) (h := 0) (.inl ⟨rfl, rfl⟩) (.inl ⟨rfl, rfl⟩) (Nat.le_refl _) (Nat.le_refl _)
    rw [hx]
    simp only [Nat.sub_self, if_true, and_false, if_false]
    exact GoodV.pure hr (.slnil _ _ _ hs ht) h
   | slz _ _ _ a hs hnl ht =>
    have hx := slice_sl (P := P) (w := w) hu hn (a := some a) (len := 0) (cap := 0) (l := 0) (h := 0) (.inl ⟨rfl, rfl⟩) (.inl ⟨rfl, rfl⟩) (Nat.le_refl _) (Nat.le_refl _)
    rw [hx]
    simp only [Nat.sub_self, if_true, and_false, if_false]
    exact GoodV.pure hr (.slz _ _ _ a hs hnl ht) h
   | sl _ _ _ b o cap vals hz h1 h2 hcap hnil hfull htok =>
    rw [slice_sl hu hn (l := 0) (h := s.toList.length) (.inl ⟨rfl, rfl⟩) (.inl ⟨rfl, rfl⟩) (by omega) hcap]
    rw [if_neg (by simp)]
    have e : (if cap = 0 then some (⟨b, o, none⟩ : Addr) else Option.map (fun x => x.add (0 * n)) (some (⟨b, o, none⟩ : Addr))) = some ⟨b, o, none⟩ := by
     split
     ·rfl
     ·simp [Addr.add]
    rw [e]
    exact GoodV.pure hr (.sl _ _ _ _ _ _ vals hz h1 h2 hcap hnil hfull htok) h
  ·obtain ⟨⟨h0, hl⟩, hK⟩ := needP_elim h
   cases hint hlo; cases hnone hhi
   rw [Seq.len_eq] at hl hK
   obtain ⟨j, rfl⟩ := Int.eq_ofNat_of_zero_le h0
   exact sub_good hu hn hb hr hv (l := j) (h := s.toList.length) (by omega) (by omega) (.inr ⟨_, rfl⟩) (.inl ⟨rfl, rfl⟩) (by intro id; cases tip <;> simp [tailTip]) (by cases tip <;> simp [tailTip])
    (by cases tip <;> simp [tailTip]) hK
  ·obtain ⟨⟨h0, hl⟩, hK⟩ := needP_elim h
   cases hint hhi; cases hnone hlo
   rw [Seq.len_eq] at hl
   obtain ⟨j, rfl⟩ := Int.eq_ofNat_of_zero_le h0
   exact sub_good hu hn hb hr hv (l := 0) (h := j) (by omega) (by omega) (.inl ⟨rfl, rfl⟩) (.inr ⟨_, rfl⟩) (by intro id h; cases h) (by intro h; cases h) (by intro h; cases h) hK
  ·obtain ⟨⟨h0, hl, hu'⟩, hK⟩ := needP_elim h
   cases hint hhi; cases hint hlo
   rw [Seq.len_eq] at hu'
   obtain ⟨j, rfl⟩ := Int.eq_ofNat_of_zero_le h0
   obtain ⟨q, rfl⟩ := Int.eq_ofNat_of_zero_le (Int.le_trans h0 hl)
   exact sub_good hu hn hb hr hv (l := j) (h := q) (by omega) (by omega) (.inr ⟨_, rfl⟩) (.inr ⟨_, rfl⟩) (by intro id h; cases h) (by intro h; cases h) (by intro h; cases h) hK
  ·exact h.elim
 ·rename_i e sz s tip k q k' m hu
  cases hint hmx; cases hint hhi
  split at h
  case h_2 => exact h.elim
  case h_1 n hn =>
  obtain ⟨hb, h⟩ := chk_elim h
  have hb := or_beq hb
  split at h
  ·obtain ⟨⟨h0, hl, rfl⟩, hK⟩ := needP_elim h
   cases hnone hlo
   rw [Seq.len_eq] at hl
   obtain ⟨j, rfl⟩ := Int.eq_ofNat_of_zero_le h0
   exact sub3_good hu hn hb hr hv (l := 0) (h := j) (by omega) (by omega) (.inl ⟨rfl, rfl⟩) hK
  ·obtain ⟨⟨h0, hl, hu', rfl⟩, hK⟩ := needP_elim h
   cases hint hlo
   rw [Seq.len_eq] at hu'
   obtain ⟨j, rfl⟩ := Int.eq_ofNat_of_zero_le h0
   obtain ⟨q, rfl⟩ := Int.eq_ofNat_of_zero_le (Int.le_trans h0 hl)
   exact sub3_good hu hn hb hr hv (l := j) (h := q) (by omega) (by omega) (.inr ⟨_, rfl⟩) hK
  ·exact h.elim
 ·-- rows that are written
  rename_i e sz id off len hu
  cases hnone hmx
  split at h
  case h_2 => exact h.elim
  case h_1 n hn =>
  obtain ⟨hb, h⟩ := chk_elim h
  have hb := Nat.eq_of_beq_eq_true hb
  subst hb
  cases hv with
  | msl _ _ _ _ b cap hl hle hc =>
  have hgood : ∀ {l q : Nat}, Bnd vlo 0 l → Bnd vhi len q → (l < cap ∨ l = 0) → l ≤ q → q ≤ cap → K (.msl n id (off + l) (q - l)) H →
    GoodV P M loc H w K ((Instr.sliceAt t (.slice (some ⟨b, off * n, none⟩) len cap) vlo vhi none).run P w) := by
   intro l q hblo hbhi h1 h2 h3 hK
   rw [slice_sl hu hn hblo hbhi h2 h3]
   rw [if_neg (by simp)]
   have e : (if cap = l then some (⟨b, off * n, none⟩ : Addr) else Option.map (fun x => x.add (l * n)) (some (⟨b, off * n, none⟩ : Addr))) = some ⟨b, (off + l) * n, none⟩ := by
    split
    ·have : l = 0 := by omega
     subst this; simp
    ·simp [add_mk, Nat.add_mul]
   rw [e]
   obtain ⟨cs, T, fr, c1, c2⟩ := hc
   refine GoodV.pure hr (.msl _ _ _ _ _ _ hl (by omega) ⟨cs, T, fr, c1, ?_⟩) hK
   rw [show off + l + (cap - l) = off + cap by omega]
   exact c2
  split at h
  ·cases hnone hlo; cases hnone hhi
   have := hgood (l := 0) (q := len) (.inl ⟨rfl, rfl⟩) (.inl ⟨rfl, rfl⟩) (.inr rfl) (by omega) (by omega) (by simpa using h)
   exact this
  ·cases hint hlo; cases hnone hhi
   split at h
   ·obtain ⟨⟨h0, hl2⟩, hK⟩ := needP_elim h
    obtain ⟨j, rfl⟩ := Int.eq_ofNat_of_zero_le h0
    exact hgood (l := j) (q := len) (.inr ⟨_, rfl⟩) (.inl ⟨rfl, rfl⟩) (.inl (by omega)) (by omega) (by omega) hK
   ·obtain ⟨⟨h0, hl2⟩, hK⟩ := needP_elim h
    obtain ⟨j, rfl⟩ := Int.eq_ofNat_of_zero_le h0
    by_cases hj : (j : Int) < (len : Int)
    ·rw [decide_eq_true hj] at hK
     exact hgood (l := j) (q := len) (.inr ⟨_, rfl⟩) (.inl ⟨rfl, rfl⟩) (.inl (by omega)) (by omega) (by omega) hK
    ·rw [decide_eq_false hj] at hK
     have hj' : j = len := by omega
     subst hj'
     rw [slice_sl hu hn (l := j) (h := j) (.inr ⟨_, rfl⟩) (.inl ⟨rfl, rfl⟩) (Nat.le_refl _) hle]
     rw [if_neg (by simp), Nat.sub_self]
     have hv0 : ∀ o, VRel M w loc (.sl n (.raw []) .none) (.slice (some ⟨b, o, none⟩) 0 (cap - j)) := fun o =>
      .sl n (.raw []) .none b o (cap - j) (fun _ _ => .bool false) (fun i hi => by simp [Seq.toList] at hi) (fun i k hi _ => by simp [Seq.toList] at hi) (fun i k hi _ => by simp [Seq.toList] at hi)
       (by simp [Seq.toList]) (by intro h; cases h) (by intro h; cases h) (by intro id h; cases h)
     split
     ·exact GoodV.pure hr (hv0 _) hK
     ·have e : Option.map (fun x => x.add (j * n)) (some (⟨b, off * n, none⟩ : Addr)) = some ⟨b, off * n + j * n, none⟩ := by simp [add_mk]
      rw [e]
      exact GoodV.pure hr (hv0 _) hK
  ·cases hint hhi; cases hnone hlo
   split at h
   ·obtain ⟨⟨h0, hl2⟩, hK⟩ := needP_elim h
    obtain ⟨j, rfl⟩ := Int.eq_ofNat_of_zero_le h0
    exact hgood (l := 0) (q := j) (.inl ⟨rfl, rfl⟩) (.inr ⟨_, rfl⟩) (.inr rfl) (by omega) (by omega) (by simpa using hK)
   ·obtain ⟨hsm, h⟩ := chk_elim h
    obtain ⟨⟨h0, hu1⟩, hK⟩ := needP_elim h
    obtain ⟨j, rfl⟩ := Int.eq_ofNat_of_zero_le h0
    have hcap : j ≤ cap := by
     have := row_room hr hsm hl hc
     omega
    exact hgood (l := 0) (q := j) (.inl ⟨rfl, rfl⟩) (.inr ⟨_, rfl⟩) (.inr rfl) (by omega) hcap (by simpa using hK)
  ·cases hint hhi; cases hint hlo
   split at h
   ·obtain ⟨⟨h0, hl2, hu1, hu'⟩, hK⟩ := needP_elim h
    obtain ⟨j, rfl⟩ := Int.eq_ofNat_of_zero_le h0
    obtain ⟨q, rfl⟩ := Int.eq_ofNat_of_zero_le (Int.le_trans h0 hu1)
    exact hgood (l := j) (q := q) (.inr ⟨_, rfl⟩) (.inr ⟨_, rfl⟩) (by omega) (by omega) (by omega) hK
   ·obtain ⟨hsm, h⟩ := chk_elim h
    obtain ⟨⟨h0, hl2, hu1⟩, hK⟩ := needP_elim h
    obtain ⟨j, rfl⟩ := Int.eq_ofNat_of_zero_le h0
    obtain ⟨q, rfl⟩ := Int.eq_ofNat_of_zero_le (Int.le_trans h0 (Int.le_of_lt hl2))
    have hcap : q ≤ cap := by
     unfold sameSz at hsm
     unfold rowLen at hu1
     split at hsm
     case h_2 => cases hsm
     case h_1 sz' d ho =>
     rw [ho] at hu1
     rw [Bool.and_eq_true] at hsm
     obtain ⟨hsm1, hsm2⟩ := hsm
     have hsm1 := Nat.eq_of_beq_eq_true hsm1
     have hsm2 := Nat.le_of_ble_eq_true hsm2
     simp only at hu1
     subst hsm1
     rw [Seq.len_eq] at hu1
     obtain ⟨b', vs', T', fr', g1, _, _, g4, _, g6, _⟩ := hr.objs id _ ho
     rw [hl] at g1; cases g1
     obtain ⟨cs, T, fr, c1, c2⟩ := hc
     rw [g4] at c1; cases c1
     rw [← c2] at g6
     have g7 := Nat.le_of_mul_le_mul_right g6 (show 0 < n by omega)
     omega
    exact hgood (l := j) (q := q) (.inr ⟨_, rfl⟩) (.inr ⟨_, rfl⟩) (by omega) (by omega) hcap hK
  ·exact h.elim
 ·-- a row, cut with a bound: what comes of it is not looked at
  rename_i e sz id off len k1 l k2 q k3 m hu
  cases hint hlo; cases hint hhi; cases hint hmx
  split at h
  case h_2 => exact h.elim
  case h_1 n hn =>
  obtain ⟨hb, h4⟩ := chk_elim h
  have hb := Nat.eq_of_beq_eq_true hb
  subst hb
  obtain ⟨⟨h0, h1, h2, h3⟩, hK⟩ := needP_elim h4
  cases hv with
  | msl _ _ _ _ b cap hl hle hc =>
  obtain ⟨j, rfl⟩ := Int.eq_ofNat_of_zero_le h0
  obtain ⟨q, rfl⟩ := Int.eq_ofNat_of_zero_le (Int.le_trans h0 h1)
  obtain ⟨m, rfl⟩ := Int.eq_ofNat_of_zero_le (Int.le_trans (Int.le_trans h0 h1) h2)
  rw [slice_sl3 hu hn (l := j) (h := q) (m := m) (.inr ⟨_, rfl⟩) (by omega) (by omega) (by omega)]
  exact GoodV.pure hr (.bad _) hK
 ·-- a slice of an array that lies in an object
  rename_i n e id off hu
  cases hnone hmx
  split at h
  ·rename_i sz k q hn
   obtain ⟨⟨h0, h1⟩, hK⟩ := needP_elim h
   cases hint hhi; cases hnone hlo
   obtain ⟨j, rfl⟩ := Int.eq_ofNat_of_zero_le h0
   cases hv with
   | ptr _ _ b hl =>
   have hrun : (Instr.sliceAt t (.pointer (some ⟨b, off, none⟩)) none (some (.int k j)) none).run P w = .ok (.slice (some ⟨b, off, none⟩) j n) w := by
    simp only [Instr.sliceAt, Sem.run_bind, run_underlying' hu, Result.andThen_ok, Instr.sureAddr, Sem.run_pure, pure_bind]
    rw [run_bounds (l := 0) (h := j) (.inl ⟨rfl, rfl⟩) (.inr ⟨_, rfl⟩) (by omega) (by omega)]
    simp [run_sizeOf' hn, add_mk]
   rw [hrun]
   rw [Int.toNat_natCast] at hK
   exact GoodV.pure hr (.csl _ _ _ _ b n hl (by omega)) hK
  ·rename_i sz hn
   cases hnone hhi; cases hnone hlo
   cases hv with
   | ptr _ _ b hl =>
   have hrun : (Instr.sliceAt t (.pointer (some ⟨b, off, none⟩)) none none none).run P w = .ok (.slice (some ⟨b, off, none⟩) n n) w := by
    simp only [Instr.sliceAt, Sem.run_bind, run_underlying' hu, Result.andThen_ok, Instr.sureAddr, Sem.run_pure, pure_bind]
    rw [run_bounds (l := 0) (h := n) (.inl ⟨rfl, rfl⟩) (.inl ⟨rfl, rfl⟩) (by omega) (by omega)]
    simp [run_sizeOf' hn, add_mk]
   rw [hrun]
   exact GoodV.pure hr (.csl _ _ _ _ b n hl (by omega)) h
  ·exact h.elim
 ·exact h.elim
theorem alen_sound {ts : Array TypeId} {T : TypeId} {xs : List AV} {vs : Array Value} (h : alen P ts.toList xs H (fun v => K v H)) (hr : Rel M loc H w) (hv : VRels M w loc xs vs) :
  GoodV P M loc H w K ((Builtin.len_ ts T vs).run P w) := by
 unfold alen at h
 split at h
 case h_2 => exact h.elim
 case h_1 t rest x hts =>
 obtain ⟨hs, hv⟩ := hv
 have hv0 := hv 0 (by simp)
 simp only [List.getElem_cons_zero] at hv0
 have ht0 : ts[0]? = some t := by rw [← Array.getElem?_toList, hts]; rfl
 have hvs0 : vs[0]? = some (vs[0]'(by simp at hs; omega)) := Array.getElem?_eq_getElem _
 generalize hq : vs[0]'(by simp at hs; omega) = q at hv0 hvs0
 split at h
 ·rename_i s hu
  cases hv0
  have : (Builtin.len_ ts T vs).run P w = .ok (.int .i64 s.size) w := by simp [Builtin.len_, ht0, hvs0, run_underlying' hu, goInt]
  rw [this]; exact GoodV.pure hr (.int _ _) h
 ·rename_i e sz s tip hu
  rw [Seq.len_eq] at h
  have : (Builtin.len_ ts T vs).run P w = .ok (.int .i64 s.toList.length) w := by
   cases hv0 with
   | slnil _ _ _ hs _ => simp [Builtin.len_, ht0, hvs0, run_underlying' hu, goInt, hs]
   | slz _ _ _ _ hs _ _ => simp [Builtin.len_, ht0, hvs0, run_underlying' hu, goInt, hs]
   | sl => simp [Builtin.len_, ht0, hvs0, run_underlying' hu, goInt]
  rw [this]; exact GoodV.pure hr (.int _ _) h
 ·rename_i e sz id off n hu
  cases hv0
  have : (Builtin.len_ ts T vs).run P w = .ok (.int .i64 n) w := by simp [Builtin.len_, ht0, hvs0, run_underlying' hu, goInt]
  rw [this]; exact GoodV.pure hr (.int _ _) h
 ·rename_i e sz id off n hu
  cases hv0
  have : (Builtin.len_ ts T vs).run P w = .ok (.int .i64 n) w := by simp [Builtin.len_, ht0, hvs0, run_underlying' hu, goInt]
  rw [this]; exact GoodV.pure hr (.int _ _) h
 ·rename_i n e hu
  have : (Builtin.len_ ts T vs).run P w = .ok (.int .i64 n) w := by simp [Builtin.len_, ht0, hvs0, run_underlying' hu, goInt]
  rw [this]; exact GoodV.pure hr (.int _ _) h
 ·rename_i k e id hu
  split at h
  case h_2 => exact h.elim
  case h_1 es ho =>
  cases hv0 with
  | map _ b hl =>
  have := hr.objs id _ ho
  rw [hl] at this
  obtain ⟨b', ents, clock, e1, h1, h2, h3, _, h4, h5⟩ := this
  cases e1
  have : (Builtin.len_ ts T vs).run P w = .ok (.int .i64 es.len) w := by
   simp [Builtin.len_, ht0, hvs0, run_underlying' hu, goInt, getObj, Sem.run, h3, h4, MM.len_eq]
  rw [this]; exact GoodV.pure hr (.int _ _) h
 ·rename_i k e hu
  cases hv0
  have : (Builtin.len_ ts T vs).run P w = .ok (.int .i64 0) w := by simp [Builtin.len_, ht0, hvs0, run_underlying' hu, goInt]
  rw [this]; exact GoodV.pure hr (.int _ _) h
 ·exact h.elim
theorem amm_sound (mx : Bool) : ∀ (k : IntKind) (a : Int) (xs : List AV) (vs : List Value) (h : amm mx k a xs (fun v => K v H)) (hr : Rel M loc H w)
  (hl : vs.length = xs.length) (hv : ∀ i (h : i < xs.length) (h' : i < vs.length), VRel M w loc xs[i] vs[i]),
  GoodV P M loc H w K ((vs.foldlM (match mx with | true => Builtin.max2 | false => Builtin.min2) (.int k a)).run P w)
 | k, a, [], [], h, hr, _, _ => GoodV.pure hr (.int _ _) h
 | k, a, [], _ :: _, _, _, hl, _ => by cases hl
 | k, a, _ :: _, [], _, _, hl, _ => by cases hl
 | k, a, x :: xs, v :: vs, h, hr, hl, hv => by
  have h0 := hv 0 (by simp) (by simp)
  simp only [List.getElem_cons_zero] at h0
  cases x with
  | int k' b =>
   cases h0
   simp only [amm] at h
   have ih := amm_sound mx k _ xs vs h hr (by simpa using hl) (fun i h h' => by have := hv (i + 1) (by simpa using h) (by simpa using h'); simpa using this)
   cases mx with
   | true => simpa [List.foldlM_cons, Builtin.max2] using ih
   | false => simpa [List.foldlM_cons, Builtin.min2] using ih
  | _ => exact h.elim
end
end Go.Ab
end

noncomputable section
namespace Go.Ab
section
variable {P : Program} {M : Mem} {loc : Locs} {H : List AObj} {w : World} {K : AV → List AObj → Prop}
theorem onesP_elim : ∀ {s : Seq} {A : Prop}, onesP s A → (∀ x ∈ s.toList, ∀ c ∈ x, oneAV c = true) ∧ A
 | .raw l, A, h => by
  obtain ⟨h1, h2⟩ := chk_elim h
  refine ⟨fun x hx c hc => ?_, h2⟩
  exact List.all_eq_true.1 (List.all_eq_true.1 h1 x hx) c hc
 | .map enc d xs, A, h => by
  obtain ⟨h1, h2⟩ := needP_elim h
  refine ⟨fun x hx c hc => ?_, h2⟩
  obtain ⟨y, _, rfl⟩ := List.mem_map.1 hx
  exact List.all_eq_true.1 (h1 y) c hc
 | .app a b, A, h => by
  obtain ⟨h1, h2⟩ := onesP_elim (s := a) h
  obtain ⟨h3, h4⟩ := onesP_elim (s := b) h2
  refine ⟨fun x hx c hc => ?_, h4⟩
  rcases List.mem_append.1 hx with h | h
  ·exact h1 x h c hc
  ·exact h3 x h c hc
def flatVals (n sz : Nat) (vals : Nat → Nat → Value) : List Value := (List.range (n * sz)).map fun k => vals (k / sz) (k % sz)
theorem flatVals_length (n sz : Nat) (vals : Nat → Nat → Value) : (flatVals n sz vals).length = n * sz := by simp [flatVals]
theorem flatVals_get {n sz : Nat} {vals : Nat → Nat → Value} {i j : Nat} (hi : i < n) (hj : j < sz) : (flatVals n sz vals)[i * sz + j]? = some (vals i j) := by
 have h := Nat.mul_le_mul_right sz (show i + 1 ≤ n from hi)
 rw [Nat.succ_mul] at h
 have e1 : (i * sz + j) / sz = i := by rw [Nat.mul_comm, Nat.mul_add_div (by omega), Nat.div_eq_of_lt hj]; rfl
 have e2 : (i * sz + j) % sz = j := by rw [Nat.mul_comm, Nat.mul_add_mod, Nat.mod_eq_of_lt hj]
 unfold flatVals
 rw [List.getElem?_map, List.getElem?_range (by omega)]
 simp [e1, e2]
structure Cells (M : Mem) (w : World) (loc : Locs) (n sz : Nat) (es : List (List AV)) (vals : Nat → Nat → Value) : Prop where
 len : es.length = n
 each : ∀ (i : Nat) (h : i < es.length), es[i].length = sz
 rel : ∀ i j (h : i < es.length) (hj : j < es[i].length), VRel M w loc es[i][j] (vals i j)
theorem src_of {tx : TypeId} {n : Nat} (hn : 1 ≤ n) {x : AV} {s' : Seq} {v : Value} (ha : appended n x = some s') (hone : ∀ x ∈ s'.toList, ∀ c ∈ x, oneAV c = true) (hv : VRel M w loc x v)
  {d : TypeDesc} (hd : P.underlying tx = some d) (hk : (∃ e, d = .slice e) ∨ d = .string) :
  ∃ vals, Src P n tx v s'.toList.length (flatVals s'.toList.length n vals) w ∧ Cells M w loc s'.toList.length n s'.toList vals := by
 have hkind : (∃ e', P.underlying tx = some (.slice e')) ∨ P.underlying tx = some .string := by
  rcases hk with ⟨e, rfl⟩ | rfl
  ·exact .inl ⟨e, hd⟩
  ·exact .inr hd
 have honev : ∀ vals, Cells M w loc s'.toList.length n s'.toList vals → ∀ u ∈ flatVals s'.toList.length n vals, u.oneCell' = true := by
  intro vals hc u hu
  unfold flatVals at hu
  obtain ⟨k, hk, rfl⟩ := List.mem_map.1 hu
  have hk' : k < s'.toList.length * n := by simpa using hk
  have hi : k / n < s'.toList.length := Nat.div_lt_of_lt_mul (by rwa [Nat.mul_comm] at hk')
  have hj : k % n < n := Nat.mod_lt _ (by omega)
  have hj' : k % n < s'.toList[k / n].length := by rw [hc.each]; exact hj
  exact oneCell_of (hone _ (List.getElem_mem hi) _ (List.getElem_mem hj')) (hc.rel _ _ hi hj')
 unfold appended at ha
 cases x with
 | sl sz' s tip =>
  simp only at ha
  cases hb : (Nat.beq n sz' || emptyRaw s) with
  | false => rw [hb] at ha; cases ha
  | true =>
   rw [hb] at ha
   simp only [cond_true, Option.some.injEq] at ha
   subst ha
   have hz0 : s.toList = [] ∨ n = sz' := by
    rw [Bool.or_eq_true] at hb
    rcases hb with hb | hb
    ·exact .inr (Nat.eq_of_beq_eq_true hb)
    ·left
     cases s with
     | raw l => cases l with
      | nil => rfl
      | cons => cases hb
     | _ => cases hb
   cases hv with
   | slnil _ _ _ hs _ =>
    have hc : Cells M w loc s.toList.length n s.toList (fun _ _ => undef) := ⟨rfl, fun i h => by rw [hs] at h; simp at h, fun i j h => by rw [hs] at h; simp at h⟩
    refine ⟨_, ⟨hkind, ?_, ?_, ?_, flatVals_length _ _ _, honev _ hc⟩, hc⟩
    ·intro w'; rw [hs]; rfl
    ·rw [hs]; simp [Builtin.firstCells, flatVals]
    ·rw [hs]; simp [Builtin.firstCells, flatVals]
   | slz _ _ _ ad hs _ _ =>
    have hc : Cells M w loc s.toList.length n s.toList (fun _ _ => undef) := ⟨rfl, fun i h => by rw [hs] at h; simp at h, fun i j h => by rw [hs] at h; simp at h⟩
    refine ⟨_, ⟨hkind, ?_, ?_, ?_, flatVals_length _ _ _, honev _ hc⟩, hc⟩
    ·intro w'; rw [hs]; rfl
    ·rw [hs]; (simp [Builtin.firstCells, flatVals, loadCells]; rfl)
    ·rw [hs]; (simp [Builtin.firstCells, flatVals, loadCells]; rfl)
   | sl _ _ _ b o cap vals hz h1 h2 hcap hnil hfull htok =>
    have hz' : ∀ (i : Nat) (h : i < s.toList.length), s.toList[i].length = n := by
     intro i h
     rcases hz0 with e | e
     ·rw [e] at h; simp at h
     ·rw [e]; exact hz i h
    have hc : Cells M w loc s.toList.length n s.toList vals := ⟨rfl, hz', h2⟩
    have hcell : ∀ j v, (flatVals s.toList.length n vals)[j]? = some v → w.cell? ((⟨b, o, none⟩ : Addr).add j) = some v := by
     intro j v hj
     have hjl : j < s.toList.length * n := by
      have := (List.getElem?_eq_some_iff.1 hj).1
      rwa [flatVals_length] at this
     have hi : j / n < s.toList.length := Nat.div_lt_of_lt_mul (by rwa [Nat.mul_comm] at hjl)
     have hm : j % n < n := Nat.mod_lt _ (by omega)
     have e : j / n * n + j % n = j := by rw [Nat.mul_comm]; exact Nat.div_add_mod j n
     have hg := flatVals_get (vals := vals) hi hm
     rw [e] at hg
     rw [hg] at hj
     cases hj
     have hsz : n = sz' := by
      rcases hz0 with e | e
      ·rw [e] at hi; simp at hi
      ·exact e
     subst hsz
     have := (h1 (j / n) (j % n) hi hm).1
     rw [Nat.add_assoc, e] at this
     rw [add_mk]; exact this
    refine ⟨vals, ⟨hkind, fun w' => rfl, run_firstCells_some w n _ _ _ _ _ (flatVals_length _ _ _) hcell, run_firstCells_some w.drew n _ _ _ _ _ (flatVals_length _ _ _) (by simpa using hcell), flatVals_length _ _ _, honev _ hc⟩, hc⟩
 | str q =>
  simp only at ha
  cases hb : Nat.beq n 1 with
  | false => rw [hb] at ha; cases ha
  | true =>
   rw [hb] at ha
   simp only [cond_true, Option.some.injEq] at ha
   subst ha
   have hn1 := Nat.eq_of_beq_eq_true hb
   subst hn1
   cases hv
   have hlen : (bytesSeq q).toList.length = q.size := by rw [bytesSeq_toList]; simp
   have hc : Cells M w loc (bytesSeq q).toList.length 1 (bytesSeq q).toList (fun i _ => .int .u8 (q.data.toList.getD i 0).toNat) := by
    refine ⟨rfl, fun i h => by simp [bytesSeq_toList, encB], fun i j h hj => ?_⟩
    have hj0 : j = 0 := by simp [bytesSeq_toList, encB] at hj; exact hj
    subst hj0
    have hi' : i < q.data.toList.length := by simpa [bytesSeq_toList] using h
    simp only [bytesSeq_toList, List.getElem_map, encB, List.getElem_cons_zero]
    rw [getD_lt _ _ _ hi']
    exact .int _ _
   have hflat : flatVals (bytesSeq q).toList.length 1 (fun i _ => Value.int .u8 (q.data.toList.getD i 0).toNat) = byteCells q := by
    rw [hlen]
    unfold flatVals byteCells
    apply List.ext_getElem?
    intro i
    rw [List.getElem?_map, List.getElem?_map, Nat.mul_one]
    by_cases hi : i < q.size
    ·have hi' : i < q.data.toList.length := by simpa using hi
     rw [List.getElem?_range hi, List.getElem?_eq_getElem hi']
     simp only [Option.map_some, Nat.div_one]
     rw [getD_lt _ _ _ hi']
    ·have hi' : ¬ i < q.data.toList.length := by simpa using hi
     rw [List.getElem?_eq_none (by simp; omega), List.getElem?_eq_none (by omega)]
     rfl
   refine ⟨_, ⟨hkind, ?_, ?_, ?_, flatVals_length _ _ _, honev _ hc⟩, hc⟩
   ·intro w'; rw [hlen]; rfl
   ·rw [hflat, hlen]; exact firstCells_string q w
   ·rw [hflat, hlen]; exact firstCells_string q w.drew
 | _ => cases ha
theorem appendedP_elim {tx : TypeId} {n : Nat} {K : Seq → Prop} (hr : Rel M loc H w) (hn : 1 ≤ n) {x : AV} {v : Value} (h : appendedP n x H K) (hv : VRel M w loc x v)
  {d : TypeDesc} (hd : P.underlying tx = some d) (hk : (∃ e, d = .slice e) ∨ d = .string) :
  ∃ s', K s' ∧ ((∀ x ∈ s'.toList, ∀ c ∈ x, oneAV c = true) → ∃ vals, Src P n tx v s'.toList.length (flatVals s'.toList.length n vals) w ∧ Cells M w loc s'.toList.length n s'.toList vals) := by
 unfold appendedP at h
 split at h
 ·rename_i sz' id off len
  split at h
  case h_2 => exact h.elim
  case h_1 sz2 s ho =>
  obtain ⟨hb, h'⟩ := chk_elim h
  clear h
  rw [Bool.and_eq_true] at hb
  have e1 := Nat.eq_of_beq_eq_true hb.1
  have e2 := Nat.eq_of_beq_eq_true hb.2
  subst e1; subst e2
  obtain ⟨hfit, hK⟩ := needP_elim h'
  rw [Seq.len_eq] at hfit
  refine ⟨_, hK, fun hone => ?_⟩
  cases hv with
  | msl _ _ _ _ b cap hl hle hcb =>
  obtain ⟨cs, T', fr, h1, h2, hbk, hsoft, hds, hdz, hdc⟩ := obj_arr hr hl ho
  have hlen : (s.sub off (off + len)).toList.length = len := by rw [Seq.sub_toList]; simp; omega
  have hget : ∀ i (hi : i < (s.sub off (off + len)).toList.length), ∃ hi' : off + i < s.toList.length, (s.sub off (off + len)).toList[i] = s.toList[off + i] := by
   intro i hi
   have hi2 : off + i < s.toList.length := by omega
   refine ⟨hi2, ?_⟩
   have e5 : (s.sub off (off + len)).toList[i]? = some s.toList[off + i] := by
    rw [Seq.sub_toList, List.getElem?_drop, List.getElem?_take, if_pos (by omega), List.getElem?_eq_getElem hi2]
   rw [List.getElem?_eq_getElem hi] at e5
   exact Option.some.inj e5
  generalize hq : s.sub off (off + len) = q at hlen hget hone hK ⊢
  have hkind : (∃ e', P.underlying tx = some (.slice e')) ∨ P.underlying tx = some .string := by
   rcases hk with ⟨e, rfl⟩ | rfl
   ·exact .inl ⟨e, hd⟩
   ·exact .inr hd
  have hc : Cells M w loc q.toList.length n q.toList (fun i j => (cs[(off + i) * n + j]?).getD undef) := by
   refine ⟨rfl, fun i hi => ?_, fun i j hi hj => ?_⟩
   ·obtain ⟨hi', e⟩ := hget i hi
    rw [e]; exact hdz _ hi'
   ·obtain ⟨hi', e⟩ := hget i hi
    obtain ⟨v, hv1, hv2⟩ := hdc (off + i) j hi' (by rw [← e]; exact hj)
    simp only [e, hv1, Option.getD_some]
    exact hv2
  have honev : ∀ u ∈ flatVals q.toList.length n (fun i j => (cs[(off + i) * n + j]?).getD undef), u.oneCell' = true := by
   intro u hu
   unfold flatVals at hu
   obtain ⟨k, hk, rfl⟩ := List.mem_map.1 hu
   have hk' : k < q.toList.length * n := by simpa using hk
   have hi : k / n < q.toList.length := Nat.div_lt_of_lt_mul (by rwa [Nat.mul_comm] at hk')
   have hj : k % n < n := Nat.mod_lt _ (by omega)
   have hj' : k % n < q.toList[k / n].length := by rw [hc.each]; exact hj
   exact oneCell_of (hone _ (List.getElem_mem hi) _ (List.getElem_mem hj')) (hc.rel _ _ hi hj')
  have hcell : ∀ j v, (flatVals q.toList.length n (fun i j => (cs[(off + i) * n + j]?).getD undef))[j]? = some v → w.cell? ((⟨b, off * n, none⟩ : Addr).add j) = some v := by
   intro j v hj
   have hjl : j < q.toList.length * n := by
    have := (List.getElem?_eq_some_iff.1 hj).1
    rwa [flatVals_length] at this
   have hi : j / n < q.toList.length := Nat.div_lt_of_lt_mul (by rwa [Nat.mul_comm] at hjl)
   have hm : j % n < n := Nat.mod_lt _ (by omega)
   have e : j / n * n + j % n = j := by rw [Nat.mul_comm]; exact Nat.div_add_mod j n
   have hg := flatVals_get (vals := (fun i j => (cs[(off + i) * n + j]?).getD undef)) hi hm
   rw [e] at hg
   rw [hg] at hj
   cases hj
   obtain ⟨hi', e3⟩ := hget _ hi
   have hj' : j % n < s.toList[off + j / n].length := by rw [hdz]; exact hm
   obtain ⟨v, hv1, hv2⟩ := hdc (off + j / n) (j % n) hi' hj'
   have e4 : (off + j / n) * n + j % n = off * n + j := by rw [Nat.add_mul]; omega
   rw [add_mk, cell_eq hbk]
   simp only [hv1, Option.getD_some]
   rw [← e4, hv1]
  subst hlen
  exact ⟨_, ⟨hkind, fun w' => rfl, run_firstCells_some w n _ _ _ _ _ (flatVals_length _ _ _) hcell, run_firstCells_some w.drew n _ _ _ _ _ (flatVals_length _ _ _) (by simpa using hcell), flatVals_length _ _ _, honev⟩, hc⟩
 ·obtain ⟨s', ha, hK⟩ := seqP_elim h
  exact ⟨s', hK, fun hone => src_of hn ha hone hv hd hk⟩
end
end Go.Ab
end

noncomputable section
namespace Go.Ab
section
variable {P : Program} {M : Mem} {loc : Locs} {H : List AObj} {w : World} {K : AV → List AObj → Prop}
theorem Cells.keeps {M' w' loc'} (hk : Keeps M w loc M' w' loc') {n sz es vals} (h : Cells M w loc n sz es vals) : Cells M' w' loc' n sz es vals :=
 ⟨h.len, h.each, fun i j hi hj => (h.rel i j hi hj).keeps hk⟩
theorem run_append_room_all (t tx ty e : TypeId) (i : TypeInfo) (ht : P.underlying t = some (.slice e)) (hi : P.info? e = some i) (b off sLen sCap : Nat) (x : Value) (n : Nat) (news : List Value) (hs : Src P i.size tx x n news w)
  (hroom : sLen + n ≤ sCap) {cs : Array Value} {T : TypeId} {fr : Nat × Nat} (hb : w.heap[b]? = some (.cells cs T fr)) (hsoft : soft cs fr) (hfit : off + sLen * i.size + news.length ≤ cs.size) :
  (Builtin.append_ #[t, tx] ty #[.slice (some ⟨b, off, none⟩) sLen sCap, x]).run P w = .ok (.slice (some ⟨b, off, none⟩) (sLen + n) sCap) (setBlk w b (.cells (storeAll cs (off + sLen * i.size) news) T fr)) := by
 have hst := run_storeAll P b (off + sLen * i.size) T fr news 0 cs w hb hsoft (by omega) hs.one
 simp only [Nat.add_zero] at hst
 rcases hs.kind with ⟨e', hk⟩ | hk <;> simp [Builtin.append_, run_underlying ht, run_underlying hk, sizeOf, typeInfo, hi, hs.len, hroom, hs.cells, add_mk, hst]
theorem run_append_nothing (t tx ty e : TypeId) (i : TypeInfo) (ht : P.underlying t = some (.slice e)) (hi : P.info? e = some i) (sCap : Nat) (x : Value) (news : List Value) (hs : Src P i.size tx x 0 news w) :
  (Builtin.append_ #[t, tx] ty #[.slice none 0 sCap, x]).run P w = .ok (.slice none 0 sCap) w := by
 rcases hs.kind with ⟨e', hk⟩ | hk <;> simp [Builtin.append_, run_underlying ht, run_underlying hk, sizeOf, typeInfo, hi, hs.len, hs.cells]
theorem run_append_nothing' (t tx ty e : TypeId) (i : TypeInfo) (ht : P.underlying t = some (.slice e)) (hi : P.info? e = some i) (a : Addr) (sLen sCap : Nat) (hl : sLen ≤ sCap) (x : Value) (news : List Value) (hs : Src P i.size tx x 0 news w) :
  (Builtin.append_ #[t, tx] ty #[.slice (some a) sLen sCap, x]).run P w = .ok (.slice (some a) sLen sCap) w := by
 have h0 : news = [] := by have := hs.newsLen; simp at this; exact this
 subst h0
 rcases hs.kind with ⟨e', hk⟩ | hk <;> simp [Builtin.append_, run_underlying ht, run_underlying hk, sizeOf, typeInfo, hi, hs.len, hs.cells, hl, storeCells]
theorem app_toList (a b : Seq) : (a.app b).toList = a.toList ++ b.toList := rfl
theorem Cells.app {n m sz : Nat} {es es' : List (List AV)} {vals vals' : Nat → Nat → Value} (h : Cells M w loc n sz es vals) (h' : Cells M w loc m sz es' vals') :
  Cells M w loc (n + m) sz (es ++ es') (fun i j => if i < n then vals i j else vals' (i - n) j) := by
 refine ⟨by simp [h.len, h'.len], fun i hi => ?_, fun i j hi hj => ?_⟩
 ·by_cases e : i < es.length
  ·rw [List.getElem_append_left e]; exact h.each i e
  ·rw [List.getElem_append_right (by omega)]; exact h'.each _ _
 ·have hn := h.len
  by_cases e : i < es.length
  ·have := h.rel i j e (by rw [List.getElem_append_left e] at hj; exact hj)
   simp only [List.getElem_append_left e, if_pos (show i < n by omega)]; exact this
  ·have hj' := hj
   rw [List.getElem_append_right (by omega)] at hj'
   have := h'.rel (i - es.length) j (by simp at hi; omega) hj'
   simp only [List.getElem_append_right (show es.length ≤ i by omega), if_neg (show ¬ i < n by omega)]
   subst hn; exact this
theorem new_row (hr : Rel M loc H w) {n sz : Nat} (hsz : 1 ≤ sz) {s : Seq} {vals : Nat → Nat → Value} (hc : Cells M w loc n sz s.toList vals) {cs : Array Value} {T : TypeId} (cap : Nat) (hcap : n ≤ cap)
  (hcs : cs.size = cap * sz) (hcells : ∀ k, k < n * sz → cs[k]? = some (vals (k / sz) (k % sz))) (hK : K (.sl sz s (.tok H.length)) (H ++ [.tok])) :
  GoodV P M loc H w K (.ok (.slice (some ⟨w.heap.size, 0, none⟩) n cap) (w.alloc (.cells cs T))) := by
 have hle : n * sz ≤ cap * sz := Nat.mul_le_mul_right sz hcap
 have hk := keeps_alloc hr (.cells cs T) (n * sz) (some (.tok w.heap.size (n * sz)))
 obtain ⟨r1, r2⟩ := hr.new (.cells cs T) (n * sz) (fun _ => ⟨_, T, (0, 0), rfl, by omega⟩) (.tok w.heap.size (n * sz)) .tok (.inr rfl)
  (.inr ⟨w.heap.size, n * sz, _, T, (0, 0), rfl, hr.base, by simp [Mem.grow], heap_alloc_new _ _, fun k _ h => by omega⟩)
 refine ⟨_, _, _, _, _, _, rfl, hK, r1, ?_, r2⟩
 have hg := VRel.sl (M := M.grow w.heap.size (n * sz)) (w := w.alloc (.cells cs T)) (loc := locSet loc H.length (.tok w.heap.size (n * sz))) sz s (.tok H.length) w.heap.size 0 cap vals
  hc.each
  (fun i j hi hj => by
   rw [hc.len] at hi
   have h3 := Nat.mul_le_mul_right sz (show i + 1 ≤ n from hi)
   rw [Nat.succ_mul] at h3
   refine ⟨?_, .inr ?_⟩
   ·rw [cell_eq (heap_alloc_new _ _), Nat.zero_add, hcells _ (by omega)]
    have e1 : (i * sz + j) / sz = i := by rw [Nat.mul_comm, Nat.mul_add_div (by omega), Nat.div_eq_of_lt hj]; rfl
    have e2 : (i * sz + j) % sz = j := by rw [Nat.mul_comm, Nat.mul_add_mod, Nat.mod_eq_of_lt hj]
    rw [e1, e2]
   ·simp only [Mem.grow, if_true]; omega)
  (fun i j hi hj => (hc.rel i j hi hj).keeps hk)
  (by rw [hc.len]; exact hcap) (by intro h; cases h) (fun h => by cases h)
  (fun id hid => by
   cases hid
   refine .inr ⟨?_, _, T, (0, 0), heap_alloc_new _ _, ?_⟩
   ·simp [locSet, hc.len]
   ·omega)
 rw [hc.len] at hg
 exact hg
theorem GoodV.drop_first (id : Nat) (hr : Rel M loc H w) {r : Result Value} (h : GoodV P M loc (H.set id .gone) w K r) : GoodV P M loc H w K r := by
 obtain ⟨v, w', av, H', M', loc', e, hK, r1, r2, r3⟩ := h
 exact ⟨v, w', av, H', M', loc', e, hK, r1, r2, (hr.drop id).2.trans r3⟩
theorem GoodV.same_first {w1 : World} (hs : SameMem w w1) (hr : Rel M loc H w) {r : Result Value} (h : GoodV P M loc H w1 K r) : GoodV P M loc H w K r := by
 obtain ⟨v, w', av, H', M', loc', e, hK, r1, r2, r3⟩ := h
 exact ⟨v, w', av, H', M', loc', e, hK, r1, r2, (hr.same hs).2.trans r3⟩
theorem drew_same (w : World) : SameMem w w.drew := ⟨rfl, rfl, rfl, rfl⟩
theorem grow_cells {n sz : Nat} (vals : Nat → Nat → Value) (m : Nat) (vals' : Nat → Nat → Value) (hsz : 1 ≤ sz) (zs : Array Value) :
  ∀ k, k < (n + m) * sz → ((flatVals n sz vals ++ flatVals m sz vals').toArray ++ zs)[k]? = some ((fun i j => if i < n then vals i j else vals' (i - n) j) (k / sz) (k % sz)) := by
 intro k hk
 rw [Nat.add_mul] at hk
 have hm : k % sz < sz := Nat.mod_lt _ (by omega)
 have e : k / sz * sz + k % sz = k := by rw [Nat.mul_comm]; exact Nat.div_add_mod k sz
 rw [Array.getElem?_append_left (by simp [flatVals_length]; omega)]
 rw [List.getElem?_toArray]
 by_cases h : k < n * sz
 ·have hi : k / sz < n := Nat.div_lt_of_lt_mul (by rwa [Nat.mul_comm] at h)
  rw [List.getElem?_append_left (by rw [flatVals_length]; exact h)]
  have := flatVals_get (vals := vals) hi hm
  rw [e] at this
  simp only [this, if_pos hi]
 ·rw [List.getElem?_append_right (by rw [flatVals_length]; omega), flatVals_length]
  have hge : n ≤ k / sz := (Nat.le_div_iff_mul_le (by omega)).2 (by omega)
  have hi : k / sz - n < m := by
   have : k / sz < n + m := Nat.div_lt_of_lt_mul (by rw [Nat.mul_comm, Nat.add_mul]; exact hk)
   omega
  have := flatVals_get (vals := vals') hi hm
  have h9 := Nat.mul_le_mul_right sz hge
  have e3 : (k / sz - n) * sz + k % sz = k - n * sz := by rw [Nat.sub_mul]; omega
  rw [e3] at this
  simp only [this, if_neg (show ¬ k / sz < n by omega)]
theorem append_grow {t tx ty e : TypeId} {i : TypeInfo} {z : Value} (ht : P.underlying t = some (.slice e)) (hi : P.info? e = some i) (hz : i.zero = some z) (hzs : z.cells.size = i.size) (hsz : 1 ≤ i.size)
  (hr : Rel M loc H w) {base : Option Addr} {sCap : Nat} {s s' : Seq} {vals vals' : Nat → Nat → Value} (hc : Cells M w loc s.toList.length i.size s.toList vals)
  (hold : (Builtin.firstCells i.size s.toList.length (.slice base s.toList.length sCap)).run P w.drew = .ok (flatVals s.toList.length i.size vals).toArray w.drew)
  {x : Value} (hs : Src P i.size tx x s'.toList.length (flatVals s'.toList.length i.size vals') w) (hc' : Cells M w loc s'.toList.length i.size s'.toList vals')
  (hg : sCap < s.toList.length + s'.toList.length) (hfit : (s.toList.length + s'.toList.length) * i.bytes ≤ 140737488351232) (h63 : s.toList.length + s'.toList.length ≤ 9223372036854775807)
  (hK : K (.sl i.size (s.app s') (.tok H.length)) (H ++ [.tok])) :
  GoodV P M loc H w K ((Builtin.append_ #[t, tx] ty #[.slice base s.toList.length sCap, x]).run P w) := by
 rw [run_append_grow_src w t tx ty e i z ht hi hz base _ sCap _ hold x _ _ hs hg (by omega) (growslice_fits hg (by omega))]
 have hsame := drew_same w
 have hr' := (hr.same hsame).1
 have hkd := hsame.keeps M loc
 have hca := (hc.app hc').keeps hkd
 have hlen : (s.app s').toList.length = s.toList.length + s'.toList.length := by rw [app_toList, List.length_append]
 have hcap := Question.cut_ge (w := w) (n := s.toList.length + s'.toList.length) (o := sCap) (e := e)
 have hzc : (Builtin.zeroCells z.cells (grownCap w (s.toList.length + s'.toList.length) sCap e - (s.toList.length + s'.toList.length))).size = (grownCap w (s.toList.length + s'.toList.length) sCap e - (s.toList.length + s'.toList.length)) * i.size := by
  simp [Builtin.zeroCells, hzs]
 refine GoodV.same_first hsame hr ?_
 refine new_row (w := w.drew) (T := e) hr' hsz (s := s.app s') (n := s.toList.length + s'.toList.length) hca _ hcap ?_ (grow_cells vals _ vals' hsz _) hK
 simp only [Array.size_append, List.size_toArray, List.length_append, flatVals_length, hzc]
 rw [← Nat.add_mul, ← Nat.add_mul]
 congr 1; omega
theorem new_arr (hr : Rel M loc H w) {n sz : Nat} (hsz : 1 ≤ sz) {s : Seq} {vals : Nat → Nat → Value} (hc : Cells M w loc n sz s.toList vals) {cs : Array Value} {T : TypeId} (cap : Nat) (hcap : n ≤ cap)
  (hcs : cs.size = cap * sz) (hcells : ∀ k, k < n * sz → cs[k]? = some (vals (k / sz) (k % sz))) (hK : K (.msl sz H.length 0 n) (H ++ [.arr sz s])) :
  GoodV P M loc H w K (.ok (.slice (some ⟨w.heap.size, 0, none⟩) n cap) (w.alloc (.cells cs T))) := by
 have hle : n * sz ≤ cap * sz := Nat.mul_le_mul_right sz hcap
 have hk := keeps_alloc hr (.cells cs T) 0 (some (.blk w.heap.size))
 obtain ⟨r1, r2⟩ := hr.new (.cells cs T) 0 (fun h => absurd h (Nat.lt_irrefl 0)) (.blk w.heap.size) (.arr sz s) (.inr rfl)
  ⟨w.heap.size, cs, T, (0, 0), rfl, hr.base, by simp [Mem.grow], heap_alloc_new _ _, ⟨fun k _ h => by omega, fun _ h => by omega⟩, by rw [hc.len]; omega, hc.each, fun i j hi hj => by
   have hin : i < n := by rw [← hc.len]; exact hi
   have hjn : j < sz := by rw [← hc.each i hi]; exact hj
   have h3 := Nat.mul_le_mul_right sz (show i + 1 ≤ n from hin)
   rw [Nat.succ_mul] at h3
   have e1 : (i * sz + j) / sz = i := by rw [Nat.mul_comm, Nat.mul_add_div (by omega), Nat.div_eq_of_lt hjn]; rfl
   have e2 : (i * sz + j) % sz = j := by rw [Nat.mul_comm, Nat.mul_add_mod, Nat.mod_eq_of_lt hjn]
   refine ⟨vals i j, ?_, (hc.rel i j hi hj).keeps hk⟩
   rw [hcells _ (by omega), e1, e2]⟩
 have hg := VRel.msl (M := M.grow w.heap.size 0) (w := w.alloc (.cells cs T)) (loc := locSet loc H.length (.blk w.heap.size)) sz H.length 0 n w.heap.size cap (by simp [locSet]) hcap
  ⟨cs, T, (0, 0), heap_alloc_new _ _, by rw [Nat.zero_add]; omega⟩
 rw [Nat.zero_mul] at hg
 exact ⟨_, _, _, _, _, _, rfl, hK, r1, hg, r2⟩
theorem append_grow_mu {t tx ty e : TypeId} {i : TypeInfo} {z : Value} (ht : P.underlying t = some (.slice e)) (hi : P.info? e = some i) (hz : i.zero = some z) (hzs : z.cells.size = i.size) (hsz : 1 ≤ i.size)
  (hr : Rel M loc H w) {base : Option Addr} {s' : Seq} {vals' : Nat → Nat → Value}
  (hold : (Builtin.firstCells i.size 0 (.slice base 0 0)).run P w.drew = .ok #[] w.drew)
  {x : Value} (hs : Src P i.size tx x s'.toList.length (flatVals s'.toList.length i.size vals') w) (hc' : Cells M w loc s'.toList.length i.size s'.toList vals')
  (hg : 0 < s'.toList.length) (hfit : s'.toList.length * i.bytes ≤ 140737488351232) (h63 : s'.toList.length ≤ 9223372036854775807)
  (hK : K (.msl i.size H.length 0 s'.toList.length) (H ++ [.arr i.size s'])) :
  GoodV P M loc H w K ((Builtin.append_ #[t, tx] ty #[.slice base 0 0, x]).run P w) := by
 rw [run_append_grow_src w t tx ty e i z ht hi hz base _ 0 _ hold x _ _ hs (by omega) (by omega) (growslice_fits (by omega) (by rw [Nat.zero_add]; omega))]
 have hsame := drew_same w
 have hr' := (hr.same hsame).1
 have hkd := hsame.keeps M loc
 have hcap := Question.cut_ge (w := w) (n := 0 + s'.toList.length) (o := 0) (e := e)
 have hzc : (Builtin.zeroCells z.cells (grownCap w (0 + s'.toList.length) 0 e - (0 + s'.toList.length))).size = (grownCap w (0 + s'.toList.length) 0 e - (0 + s'.toList.length)) * i.size := by
  simp [Builtin.zeroCells, hzs]
 rw [Nat.zero_add] at *
 refine GoodV.same_first hsame hr ?_
 refine new_arr (w := w.drew) (T := e) hr' hsz (s := s') (n := s'.toList.length) (hc'.keeps hkd) _ hcap ?_ ?_ hK
 ·simp only [Array.size_append, List.size_toArray, flatVals_length, hzc]
  rw [List.nil_append, flatVals_length, ← Nat.add_mul]
  congr 1; omega
 ·intro k hk
  have := grow_cells (n := 0) (sz := i.size) (fun _ _ => undef) s'.toList.length vals' hsz (Builtin.zeroCells z.cells (grownCap w s'.toList.length 0 e - s'.toList.length)) k (by rw [Nat.zero_add]; exact hk)
  simpa [flatVals] using this
theorem extract2 {α : Type _} (vs : Array α) (a b : α) (h : vs.toList = [a, b]) : vs = #[a, b] := by
 cases vs; simp at h; simp [h]
theorem aappend_sound {ts : Array TypeId} {T : TypeId} {xs : List AV} {vs : Array Value} {mu : Bool} (h : aappend P mu ts.toList xs H K) (hr : Rel M loc H w) (hv : VRels M w loc xs vs) :
  GoodV P M loc H w K ((Builtin.append_ ts T vs).run P w) := by
 unfold aappend at h
 split at h
 case h_2 => exact h.elim
 case h_1 t t' sz s tip x hts =>
 have hts' : ts = #[t, t'] := extract2 _ _ _ hts
 subst hts'
 obtain ⟨hs, hv⟩ := hv
 have hv0 := hv 0 (by simp)
 have hv1 := hv 1 (by simp)
 simp only [List.getElem_cons_zero, List.getElem_cons_succ] at hv0 hv1
 have hvs : vs = #[vs[0]'(by simp at hs; omega), vs[1]'(by simp at hs; omega)] := by
  apply Array.ext
  ·simpa using hs
  ·intro i h1 h2
   have : i < 2 := by simpa using h2
   match i, this with
   | 0, _ => rfl
   | 1, _ => rfl
 generalize vs[0]'(by simp at hs; omega) = v0 at hv0 hvs
 generalize vs[1]'(by simp at hs; omega) = v1 at hv1 hvs
 subst hvs
 clear hv hs
 split at h
 case h_2 => exact h.elim
 case h_1 e hu hsk =>
 split at h
 case h_2 => exact h.elim
 case h_1 n by_ z hn hby hz =>
 obtain ⟨hb, hq1⟩ := chk_elim h
 clear h
 simp only [Bool.and_eq_true] at hb
 have hn1 := Nat.le_of_ble_eq_true hb.1.1.1
 have hzl := Nat.eq_of_beq_eq_true hb.1.2
 have hby1 := Nat.le_of_ble_eq_true hb.2
 obtain ⟨zv, hzrun, rfl, i, hi, hiz⟩ := zeroT_run hz w
 have hisz : i.size = n := by
  obtain ⟨i', hi', e'⟩ := sizeT_info hn
  rw [hi] at hi'; cases hi'; exact e'
 have hiby : i.bytes = by_ := by
  obtain ⟨i', hi', e'⟩ := bytesT_info hby
  rw [hi] at hi'; cases hi'; exact e'
 subst hisz
 subst hiby
 have hzs : zv.cells.size = i.size := by simpa using hzl
 obtain ⟨d, hu', hkind⟩ : ∃ d, P.underlying t' = some d ∧ ((∃ e', d = .slice e') ∨ d = .string) := by
  unfold srcKind at hsk
  split at hsk
  ·rename_i e' hu'; exact ⟨_, hu', .inl ⟨_, rfl⟩⟩
  ·rename_i hu'; exact ⟨_, hu', .inr rfl⟩
  ·cases hsk
 obtain ⟨s', hq2, hsrcs⟩ := appendedP_elim hr hn1 hq1 hv1 hu' hkind
 clear hq1
 obtain ⟨hone, hq3⟩ := onesP_elim hq2
 clear hq2
 obtain ⟨hfit, hL⟩ := needP_elim hq3
 clear hq3
 rw [Seq.len_eq, Seq.len_eq] at hfit
 obtain ⟨vals', hsrc, hc'⟩ := hsrcs hone
 have hsum : s.toList.length + s'.toList.length ≤ 140737488351232 := Nat.le_trans (Nat.le_mul_of_pos_right _ hby1) hfit
 have hsz0 : s.toList = [] ∨ i.size = sz := by
  have hb := hb.1.1.2
  rw [Bool.or_eq_true] at hb
  rcases hb with hb | hb
  ·exact .inr (Nat.eq_of_beq_eq_true hb)
  ·left
   cases s with
   | raw l => cases l with
    | nil => rfl
    | cons => cases hb
   | _ => cases hb
 have happ0 : s'.toList.length = 0 → (s.app s').toList = s.toList := by
  intro h0
  rw [app_toList, List.length_eq_zero_iff.1 h0, List.append_nil]
 -- a token without a place: nothing is appended to what is full
 have hX : ∀ (H1 : List AObj), Rel M loc H1 w → s'.toList.length = 0 → (∀ x : Tip, x = .nil ∨ x = .none ∨ x = .full ∨ ∃ id, x = .tok id) → (v0 = .slice none 0 0 ∧ s.toList = [] ∨ ∃ a, v0 = .slice (some a) s.toList.length s.toList.length ∧
   VRel M (w) (locSet loc H1.length .xtok) (.sl i.size (s.app s') (.tok H1.length)) v0) → K (.sl i.size (s.app s') (.tok H1.length)) (H1 ++ [.tok]) →
   GoodV P M loc H1 w K ((Builtin.append_ #[t, t'] T #[v0, v1]).run P w) := by
  intro H1 hr1 h0 _ hcase hK
  rw [h0] at hsrc
  obtain ⟨r1, r2⟩ := hr1.xtok
  rcases hcase with ⟨rfl, hs0⟩ | ⟨a, rfl, hvr⟩
  ·rw [run_append_nothing t t' T e i hu hi 0 v1 _ hsrc]
   exact ⟨_, _, _, _, _, _, rfl, hK, r1, .slnil _ _ _ (by rw [happ0 h0, hs0]) (fun id hid => by cases hid; simp [locSet]), r2⟩
  ·rw [run_append_nothing' t t' T e i hu hi a _ _ (Nat.le_refl _) v1 _ hsrc]
   exact ⟨_, _, _, _, _, _, rfl, hK, r1, hvr, r2⟩
 have hG : ∀ (H1 : List AObj), Rel M loc H1 w → (∀ a l c, v0 = .slice a l c → c < l + s'.toList.length) → K (.sl i.size (s.app s') (.tok H1.length)) (H1 ++ [.tok]) →
   GoodV P M loc H1 w K ((Builtin.append_ #[t, t'] T #[v0, v1]).run P w) := by
  intro H1 hr1 hg hK
  cases hv0 with
  | slnil _ _ _ hs0 _ =>
   have hc0 : Cells M w loc s.toList.length i.size s.toList (fun _ _ => undef) := ⟨rfl, fun i h => by rw [hs0] at h; simp at h, fun i j h => by rw [hs0] at h; simp at h⟩
   have hg0 := hg _ _ _ rfl
   have hl0 : s.toList.length = 0 := by rw [hs0]; rfl
   have := append_grow (base := none) (sCap := 0) (ty := T) hu hi hiz hzs hn1 hr1 hc0 (by rw [hl0]; simp [Builtin.firstCells, flatVals]) hsrc hc' (by omega) hfit (by omega) hK
   rw [hl0] at this
   exact this
  | slz _ _ _ ad hs0 _ _ =>
   have hc0 : Cells M w loc s.toList.length i.size s.toList (fun _ _ => undef) := ⟨rfl, fun i h => by rw [hs0] at h; simp at h, fun i j h => by rw [hs0] at h; simp at h⟩
   have hg0 := hg _ _ _ rfl
   have hl0 : s.toList.length = 0 := by rw [hs0]; rfl
   have := append_grow (base := some ad) (sCap := 0) (ty := T) hu hi hiz hzs hn1 hr1 hc0 (by rw [hl0]; (simp [Builtin.firstCells, flatVals, loadCells]; rfl)) hsrc hc' (by omega) hfit (by omega) hK
   rw [hl0] at this
   exact this
  | sl _ _ _ b o cap vals hz h1 h2 hcap hnil hfull htok =>
   have hg0 := hg _ _ _ rfl
   have hz' : ∀ (j : Nat) (h : j < s.toList.length), s.toList[j].length = i.size := by
    intro j h
    rcases hsz0 with e | e
    ·rw [e] at h; simp at h
    ·rw [e]; exact hz j h
   have hc0 : Cells M w loc s.toList.length i.size s.toList vals := ⟨rfl, hz', h2⟩
   refine append_grow (ty := T) hu hi hiz hzs hn1 hr1 hc0 ?_ hsrc hc' hg0 hfit (by omega) hK
   refine run_firstCells_some w.drew i.size _ _ _ _ _ (flatVals_length _ _ _) ?_
   intro j v hj
   have hjl : j < s.toList.length * i.size := by
    have := (List.getElem?_eq_some_iff.1 hj).1
    rwa [flatVals_length] at this
   have hi2 : j / i.size < s.toList.length := Nat.div_lt_of_lt_mul (by rwa [Nat.mul_comm] at hjl)
   have hm : j % i.size < i.size := Nat.mod_lt _ (by omega)
   have e2 : j / i.size * i.size + j % i.size = j := by rw [Nat.mul_comm]; exact Nat.div_add_mod j _
   have hg := flatVals_get (vals := vals) hi2 hm
   rw [e2] at hg
   rw [hg] at hj
   cases hj
   have hsz : i.size = sz := by
    rcases hsz0 with e | e
    ·rw [e] at hi2; simp at hi2
    ·exact e
   have := (h1 (j / i.size) (j % i.size) hi2 (by omega)).1
   rw [Nat.add_assoc, ← hsz, e2] at this
   rw [add_mk]
   exact this
 have hfin : ∀ (H1 : List AObj), Rel M loc H1 w → (∀ cap b o, v0 = .slice (some ⟨b, o, none⟩) s.toList.length cap → s.toList.length + s'.toList.length ≤ cap → cap = s.toList.length) →
   K (.sl i.size (s.app s') (.tok H1.length)) (H1 ++ [.tok]) → GoodV P M loc H1 w K ((Builtin.append_ #[t, t'] T #[v0, v1]).run P w) := by
  intro H1 hr1 hcapfull hK
  have hall : ∀ x : Tip, x = .nil ∨ x = .none ∨ x = .full ∨ ∃ id, x = .tok id := by intro x; cases x <;> simp
  cases hv0 with
  | slnil _ _ _ hs0 ht =>
   by_cases h0 : s'.toList.length = 0
   ·exact hX H1 hr1 h0 hall (.inl ⟨rfl, hs0⟩) hK
   ·exact hG H1 hr1 (fun a l c e => by cases e; omega) hK
  | slz _ _ _ ad hs0 hnl ht =>
   by_cases h0 : s'.toList.length = 0
   ·exact hX H1 hr1 h0 hall (.inr ⟨ad, by rw [hs0]; rfl, .slz _ _ _ ad (by rw [happ0 h0, hs0]) (by intro h; cases h) (fun id hid => by cases hid; simp [locSet])⟩) hK
   ·exact hG H1 hr1 (fun a l c e => by cases e; omega) hK
  | sl _ _ _ b o cap vals hz h1 h2 hcap hnil hfull htok =>
   by_cases hroom : s.toList.length + s'.toList.length ≤ cap
   ·have hce := hcapfull cap b o rfl hroom
    have h0 : s'.toList.length = 0 := by omega
    subst hce
    refine hX H1 hr1 h0 hall (.inr ⟨_, rfl, ?_⟩) hK
    have hk : Keeps M w loc M w (locSet loc H1.length .xtok) := ⟨fun _ _ _ h => h, fun _ cs _ fr h => ⟨cs, fr, h, rfl⟩, fun j l hl => by
     have := hr1.lt hl
     simp only [locSet]; rw [if_neg (Nat.ne_of_lt this)]; exact hl⟩
    have e0 := happ0 h0
    have hz' : ∀ (j : Nat) (h : j < s.toList.length), s.toList[j].length = i.size := by
     intro j h
     rcases hsz0 with e | e
     ·rw [e] at h; simp at h
     ·rw [e]; exact hz j h
    have hg := VRel.sl (M := M) (w := w) (loc := locSet loc H1.length .xtok) i.size (s.app s') (.tok H1.length) b o s.toList.length vals
     (fun j hj => by simp only [e0] at hj ⊢; exact hz' j hj)
     (fun j q hj hq => by
      rw [e0] at hj
      have hsz : i.size = sz := by
       rcases hsz0 with e | e
       ·rw [e] at hj; simp at hj
       ·exact e
      rw [hsz] at hq ⊢
      exact h1 j q hj hq)
     (fun j q hj hq => by simp only [e0] at hj hq ⊢; exact (h2 j q hj hq).keeps hk)
     (by rw [e0]; exact Nat.le_refl _) (by intro h; cases h) (fun h => by cases h) (fun id hid => by cases hid; exact .inl ⟨by simp [locSet], by rw [e0]⟩)
    rw [e0] at hg
    exact hg
   ·exact hG H1 hr1 (fun a l c e => by cases e; omega) hK
 cases mu with
 | true =>
  obtain ⟨hb2, hL⟩ := chk_elim hL
  rw [Bool.and_eq_true] at hb2
  obtain ⟨h1, hK⟩ := needP_elim hL
  rw [Seq.len_eq] at h1 hK
  have hs0 : s.toList = [] := by
   have hb := hb2.1
   cases s with
   | raw l => cases l with
    | nil => rfl
    | cons => cases hb
   | _ => cases hb
  have hfit2 : s'.toList.length * i.bytes ≤ 140737488351232 := by rw [hs0] at hfit; simpa using hfit
  cases hv0 with
  | slnil _ _ _ _ _ => exact append_grow_mu (base := none) (ty := T) hu hi hiz hzs hn1 hr (by simp [Builtin.firstCells]) hsrc hc' h1 hfit2 (by omega) hK
  | slz _ _ _ ad _ _ _ => exact append_grow_mu (base := some ad) (ty := T) hu hi hiz hzs hn1 hr (by (simp [Builtin.firstCells, loadCells]; rfl)) hsrc hc' h1 hfit2 (by omega) hK
  | sl _ _ _ b o cap vals hz h1 h2 hcap hnil hfull htok =>
   have hf : tip = .full := by
    have := hb2.2
    cases tip with
    | nil => exact (hnil rfl).elim
    | full => rfl
    | _ => cases this
   have hc0 := hfull hf
   rw [hs0] at hc0
   simp only [List.length_nil] at hc0
   subst hc0
   have hl0 : s.toList.length = 0 := by rw [hs0]; rfl
   rw [hl0]
   exact append_grow_mu (base := some ⟨b, o, none⟩) (ty := T) hu hi hiz hzs hn1 hr (by (simp [Builtin.firstCells, loadCells]; rfl)) hsrc hc' (by assumption) hfit2 (by omega) hK
 | false =>
 cases tip with
 | none => exact hL.elim
 | nil =>
  refine hfin H hr (fun cap b o hv hroom => ?_) hL
  subst hv
  generalize hq : Value.slice (some ⟨b, o, none⟩) s.toList.length cap = q at hv0
  cases hv0 with
  | slnil => cases hq
  | sl _ _ _ b o cap vals hz h1 h2 hcap hnil hfull htok => exact (hnil rfl).elim
  | slz _ _ _ _ _ hnil _ => exact (hnil rfl).elim
 | full =>
  refine hfin H hr (fun cap b o hv hroom => ?_) hL
  subst hv
  generalize hq : Value.slice (some ⟨b, o, none⟩) s.toList.length cap = q at hv0
  cases hv0 with
  | slnil => cases hq
  | slz _ _ _ ad hs0 _ _ => injection hq with q1 q2 q3; omega
  | sl _ _ _ b' o' cap' vals hz h1 h2 hcap hnil hfull htok => cases hq; exact hfull rfl
 | tok id =>
  simp only at hL
  split at hL
  case h_2 => exact hL.elim
  case h_1 hid =>
  obtain ⟨hsz, h⟩ := chk_elim hL
  have hsz := Nat.eq_of_beq_eq_true hsz
  have hlen : (H.set id .gone).length = H.length := by simp
  have hK1 : K (.sl i.size (s.app s') (.tok (H.set id AObj.gone).length)) (H.set id .gone ++ [.tok]) := by rw [hlen]; exact h
  have hrd := (hr.drop id).1
  by_cases hplace : ∃ b e0, loc id = some (.tok b e0) ∧ ∃ o cap, v0 = .slice (some ⟨b, o, none⟩) s.toList.length cap ∧ s.toList.length + s'.toList.length ≤ cap ∧ cap ≠ s.toList.length
  ·-- in place
   obtain ⟨b, e0, hloc, o, cap, hveq, hroom, hne⟩ := hplace
   subst hveq
   generalize hq : Value.slice (some ⟨b, o, none⟩) s.toList.length cap = q at hv0
   cases hv0 with
   | slnil => cases hq
   | slz _ _ _ ad hs0 _ _ => injection hq with q1 q2 q3; omega
   | sl _ _ _ b' o' cap' vals hz h1 h2 hcap hnil hfull htok =>
   injection hq with q1 q2 q3
   injection q1 with q1
   injection q1 with q4 q5 q6
   subst q3; subst q4; subst q5
   rcases htok id rfl with ⟨hx, _⟩ | ⟨hx, cs, T', fr, hbk, hfitb⟩
   ·rw [hloc] at hx; cases hx
   rw [hloc] at hx
   injection hx with hx
   injection hx with _ he0
   have hsoft : soft cs fr := by
    have := hr.objs id _ hid
    rw [hloc] at this
    rcases this with e1 | ⟨b2, e1, vs2, T2, fr2, e2, g1, g2, g3, g4⟩
    ·cases e1
    ·cases e2; rw [hbk] at g3; cases g3; exact g4
   subst hsz
   have hnl : (flatVals s'.toList.length i.size vals').length = s'.toList.length * i.size := flatVals_length _ _ _
   have hle : (s.toList.length + s'.toList.length) * i.size ≤ cap * i.size := Nat.mul_le_mul_right _ hroom
   rw [Nat.add_mul] at hle
   have hfit2 : o + s.toList.length * i.size + (flatVals s'.toList.length i.size vals').length ≤ cs.size := by rw [hnl]; omega
   rw [run_append_room_all t t' T e i hu hi b o s.toList.length cap v1 s'.toList.length _ hsrc hroom hbk hsoft hfit2]
   have hget := storeAll_get (flatVals s'.toList.length i.size vals') cs (o + s.toList.length * i.size)
   obtain ⟨r1, r2⟩ := hr.extend id b (o + s.toList.length * i.size) (o + (s.toList.length + s'.toList.length) * i.size) cs (storeAll cs (o + s.toList.length * i.size) (flatVals s'.toList.length i.size vals')) T' fr hid (by rw [hloc, he0]) hbk
    (by rw [Nat.add_mul]; omega) (storeAll_size _ _ _) (by rw [storeAll_size, Nat.add_mul]; omega)
    (fun k hk => by rw [hget k hfit2, if_neg (by omega)])
   have hk := r2.keeps hr
   have hlt := cells_lt hbk
   have hbase := ((hr.objs id _ hid).block_lt (by intro h; cases h) (b := b) (by rw [hloc]; rfl)).2
   refine ⟨_, _, _, _, _, _, rfl, h, r1, ?_, r2⟩
   have hc1 : Cells M w loc s.toList.length i.size s.toList vals := ⟨rfl, hz, h2⟩
   have hca := (hc1.app hc').keeps hk
   have hlen2 : (s.app s').toList.length = s.toList.length + s'.toList.length := by rw [app_toList, List.length_append]
   have hg := VRel.sl i.size (s.app s') (.tok H.length) b o cap (fun i j => if i < s.toList.length then vals i j else vals' (i - s.toList.length) j) hca.each
    (fun j q hj hq => by
     rw [hlen2] at hj
     have h9 := Nat.mul_le_mul_right i.size (show j + 1 ≤ s.toList.length + s'.toList.length from hj)
     rw [Nat.succ_mul] at h9
     refine ⟨?_, .inr ?_⟩
     ·rw [cell_eq (setBlk_same hlt), hget _ hfit2]
      by_cases hjl : j < s.toList.length
      ·have h8 := Nat.mul_le_mul_right i.size (show j + 1 ≤ s.toList.length from hjl)
       rw [Nat.succ_mul] at h8
       rw [if_neg (by omega), if_pos hjl]
       have := (h1 j q hjl hq).1
       rwa [cell_eq hbk] at this
      ·have h8 := Nat.mul_le_mul_right i.size (show s.toList.length ≤ j by omega)
       rw [if_pos (by rw [hnl]; rw [Nat.add_mul] at h9; omega), if_neg hjl]
       have := flatVals_get (vals := vals') (n := s'.toList.length) (i := j - s.toList.length) (j := q) (sz := i.size) (by omega) hq
       rw [← this]
       congr 1
       rw [Nat.sub_mul]; omega
     ·simp only [Mem.grow, if_true]; omega)
    hca.rel (by rw [hlen2]; exact hroom) (by intro h; cases h) (fun h => by cases h)
    (fun id' hid' => by
     cases hid'
     refine .inr ⟨?_, _, T', fr, setBlk_same hlt, ?_⟩
     ·simp [locSet, hlen2]
     ·rw [storeAll_size]; exact hfitb)
   rw [hlen2] at hg
   exact hg
  ·refine GoodV.drop_first id hr (hfin _ hrd (fun cap b o hv hroom => ?_) hK1)
   subst hv
   generalize hq : Value.slice (some ⟨b, o, none⟩) s.toList.length cap = q at hv0
   cases hv0 with
   | slnil => cases hq
   | slz _ _ _ ad hs0 _ _ => injection hq with q1 q2 q3; omega
   | sl _ _ _ b' o' cap' vals hz h1 h2 hcap hnil hfull htok =>
    injection hq with q1 q2 q3
    injection q1 with q1
    injection q1 with q4 q5 q6
    subst q3; subst q4; subst q5
    rcases htok id rfl with ⟨hx, hc⟩ | ⟨hx, cs, T', fr, hbk, hfitb⟩
    ·exact hc
    ·apply Decidable.byContradiction
     intro hne
     exact hplace ⟨_, _, hx, _, _, rfl, hroom, hne⟩
end
end Go.Ab
end

noncomputable section
namespace Go.Ab
section
variable {P : Program} {M : Mem} {loc : Locs} {H : List AObj} {w : World} {K : AV → List AObj → Prop}
theorem run_copy_all (t tx ty e : TypeId) {sz : Nat} (ht : P.underlying t = some (.slice e)) (hsz : sizeT P e = some sz) (b off dLen dCap : Nat) (x : Value) (n : Nat) (news : List Value) (hs : Src P sz tx x n news w)
  (hn : n ≤ dLen) {cs : Array Value} {T : TypeId} {fr : Nat × Nat} (hb : w.heap[b]? = some (.cells cs T fr)) (hsoft : soft cs fr) (hfit : off + news.length ≤ cs.size) :
  (Builtin.copy_ #[t, tx] ty #[.slice (some ⟨b, off, none⟩) dLen dCap, x]).run P w = .ok (.int .i64 n) (setBlk w b (.cells (storeAll cs off news) T fr)) := by
 have hst := run_storeAll P b off T fr news 0 cs w hb hsoft (by omega) hs.one
 simp only [Nat.add_zero] at hst
 have hmin : Nat.min n dLen = n := Nat.min_eq_left hn
 simp [Builtin.copy_, run_underlying' ht, run_sizeOf' hsz, hs.len, hmin, hs.cells, hst, goInt]
theorem acopy_sound {ts : Array TypeId} {T : TypeId} {xs : List AV} {vs : Array Value} (h : acopy P ts.toList xs H K) (hr : Rel M loc H w) (hv : VRels M w loc xs vs) :
  GoodV P M loc H w K ((Builtin.copy_ ts T vs).run P w) := by
 unfold acopy at h
 split at h
 case h_2 => exact h.elim
 case h_1 t t' sz id off len x hts =>
 have hts' : ts = #[t, t'] := extract2 _ _ _ hts
 subst hts'
 obtain ⟨hs, hv⟩ := hv
 have hv0 := hv 0 (by simp)
 have hv1 := hv 1 (by simp)
 simp only [List.getElem_cons_zero, List.getElem_cons_succ] at hv0 hv1
 have hvs : vs = #[vs[0]'(by simp at hs; omega), vs[1]'(by simp at hs; omega)] := by
  apply Array.ext
  ·simpa using hs
  ·intro i h1 h2
   have : i < 2 := by simpa using h2
   match i, this with
   | 0, _ => rfl
   | 1, _ => rfl
 generalize vs[0]'(by simp at hs; omega) = v0 at hv0 hvs
 generalize vs[1]'(by simp at hs; omega) = v1 at hv1 hvs
 subst hvs
 clear hv hs
 split at h
 case h_2 => exact h.elim
 case h_1 e sz' d hu hsk ho =>
 split at h
 case h_2 => exact h.elim
 case h_1 n hn =>
 obtain ⟨hb, hq1⟩ := chk_elim h
 clear h
 simp only [Bool.and_eq_true] at hb
 have e1 := Nat.eq_of_beq_eq_true hb.1.1
 have e2 := Nat.eq_of_beq_eq_true hb.1.2
 have hn1 := Nat.le_of_ble_eq_true hb.2
 subst e1
 subst e2
 obtain ⟨dd, hu', hkind⟩ : ∃ d, P.underlying t' = some d ∧ ((∃ e', d = .slice e') ∨ d = .string) := by
  unfold srcKind at hsk
  split at hsk
  ·rename_i e' hu'; exact ⟨_, hu', .inl ⟨_, rfl⟩⟩
  ·rename_i hu'; exact ⟨_, hu', .inr rfl⟩
  ·cases hsk
 obtain ⟨s, hq2, hsrcs⟩ := appendedP_elim hr hn1 hq1 hv1 hu' hkind
 clear hq1
 obtain ⟨hone, hq3⟩ := onesP_elim hq2
 clear hq2
 obtain ⟨⟨hfit, hlen⟩, hK⟩ := needP_elim hq3
 clear hq3
 rw [Seq.len_eq] at hfit hlen hK
 obtain ⟨vals', hsrc, hc'⟩ := hsrcs hone
 cases hv0 with
 | msl _ _ _ _ b cap hl hle hcb =>
 obtain ⟨cs, T', fr, h1, h2, hbk, hsoftE, hds, hdz, hdc⟩ := obj_arr hr hl ho
 have hsoft := hsoftE.1
 have hm1 : (off + len) * n ≤ d.toList.length * n := Nat.mul_le_mul_right n hfit
 have hm2 : s.toList.length * n ≤ len * n := Nat.mul_le_mul_right n hlen
 rw [Nat.add_mul] at hm1
 have hnl : (flatVals s.toList.length n vals').length = s.toList.length * n := flatVals_length _ _ _
 have hfit2 : off * n + (flatVals s.toList.length n vals').length ≤ cs.size := by rw [hnl]; omega
 rw [run_copy_all t t' T e hu hn b (off * n) len cap v1 s.toList.length _ hsrc hlen hbk hsoft hfit2]
 have hlt := cells_lt hbk
 have hsl : s.toList.length ≤ len := hlen
 have hget := storeAll_get (flatVals s.toList.length n vals') cs (off * n)
 have hkeep : Keeps M w loc M (setBlk w b (.cells (storeAll cs (off * n) (flatVals s.toList.length n vals')) T' fr)) loc := by
  refine ⟨?_, ?_, fun _ _ h => h⟩
  ·intro c k v hi
   by_cases e : c = b
   ·subst e; rcases hi.2 with q | q <;> omega
   ·exact ⟨by rw [cell_of_heap (setBlk_other e)]; exact hi.1, hi.2⟩
  ·intro c ds T2 fr' hc2
   by_cases e : c = b
   ·subst e; rw [hbk] at hc2; cases hc2
    exact ⟨_, fr, setBlk_same hlt, by rw [storeAll_size]⟩
   ·exact ⟨ds, fr', by rw [setBlk_other e]; exact hc2, rfl⟩
 have hcl : (copied d off s).toList.length = d.toList.length := by
  simp only [copied, Seq.toList, List.length_append, List.length_take, List.length_drop]; omega
 have hcget : ∀ k (hk : k < (copied d off s).toList.length), (∃ h1 : off ≤ k, ∃ h2 : k - off < s.toList.length, (copied d off s).toList[k] = s.toList[k - off]) ∨
   ((k < off ∨ off + s.toList.length ≤ k) ∧ ∃ h : k < d.toList.length, (copied d off s).toList[k] = d.toList[k]) := by
  intro k hk
  have hkd : k < d.toList.length := by rw [← hcl]; exact hk
  have hg : (copied d off s).toList[k]? = some (copied d off s).toList[k] := List.getElem?_eq_getElem hk
  simp only [copied, Seq.toList] at hg ⊢
  by_cases c1 : k < off
  ·right; refine ⟨.inl c1, hkd, ?_⟩
   rw [List.getElem?_append_left (by simp; omega), List.getElem?_take, if_pos c1, List.getElem?_eq_getElem hkd] at hg
   exact (Option.some.inj hg).symm
  ·have hmn : min off d.toList.length = off := by omega
   rw [List.getElem?_append_right (by simp; omega)] at hg
   simp only [List.length_take, hmn] at hg
   by_cases c2 : k - off < s.toList.length
   ·left; refine ⟨by omega, c2, ?_⟩
    rw [List.getElem?_append_left c2, List.getElem?_eq_getElem c2] at hg
    exact (Option.some.inj hg).symm
   ·right; refine ⟨.inr (by omega), hkd, ?_⟩
    rw [List.getElem?_append_right (by omega), List.getElem?_drop] at hg
    rw [show off + s.toList.length + (k - off - s.toList.length) = k by omega, List.getElem?_eq_getElem hkd] at hg
    exact (Option.some.inj hg).symm
 have heach : ∀ k (hk : k < (copied d off s).toList.length), (copied d off s).toList[k].length = n := by
  intro k hk
  rcases hcget k hk with ⟨_, h2, e⟩ | ⟨_, h, e⟩
  ·rw [e]; exact hc'.each _ h2
  ·rw [e]; exact hdz k h
 have hfin : ∀ k j (hk : k < (copied d off s).toList.length) (hj : j < (copied d off s).toList[k].length),
   ∃ v, (storeAll cs (off * n) (flatVals s.toList.length n vals'))[k * n + j]? = some v ∧ VRel M (setBlk w b (.cells (storeAll cs (off * n) (flatVals s.toList.length n vals')) T' fr)) loc (copied d off s).toList[k][j] v := by
  intro k j hk hj
  have hjn : j < n := by rw [← heach k hk]; exact hj
  rcases hcget k hk with ⟨g1, g2, e⟩ | ⟨g1, g2, e⟩
  ·have h8 := Nat.mul_le_mul_right n (show k - off + 1 ≤ s.toList.length from g2)
   rw [Nat.succ_mul, Nat.sub_mul] at h8
   have h9 := Nat.mul_le_mul_right n g1
   rw [hget _ hfit2, if_pos (by rw [hnl]; omega)]
   refine ⟨vals' (k - off) j, ?_, ?_⟩
   ·have := flatVals_get (vals := vals') (n := s.toList.length) (i := k - off) (j := j) (sz := n) g2 hjn
    rw [← this]; congr 1; rw [Nat.sub_mul]; omega
   ·have := hc'.rel (k - off) j g2 (by rw [← e]; exact hj)
    simp only [e]; exact this.keeps hkeep
  ·obtain ⟨v, hv1, hv2⟩ := hdc k j g2 (by rw [← e]; exact hj)
   refine ⟨v, ?_, ?_⟩
   ·rw [hget _ hfit2, if_neg ?_]
    ·exact hv1
    ·rw [hnl]
     rcases g1 with g1 | g1
     ·have h8 := Nat.mul_le_mul_right n (show k + 1 ≤ off from g1)
      rw [Nat.succ_mul] at h8; omega
     ·have h8 := Nat.mul_le_mul_right n g1
      rw [Nat.add_mul] at h8; omega
   ·simp only [e]; exact hv2.keeps hkeep
 obtain ⟨r1, r2⟩ := hr.write id b (.arr n d) (.arr n (copied d off s)) (.cells (storeAll cs (off * n) (flatVals s.toList.length n vals')) T' fr) ho (by intro h; cases h) hl
  (fun ds T2 fr' hd => by rw [hbk] at hd; cases hd; exact ⟨_, fr, rfl, by rw [storeAll_size]⟩)
  ⟨b, _, T', fr, rfl, h1, h2, setBlk_same hlt, ⟨fun k hk => hsoft k (by rwa [storeAll_size] at hk), fun hz => by rw [storeAll_size]; exact hsoftE.2 hz⟩, by rw [storeAll_size, hcl]; exact hds, heach, hfin⟩
 exact ⟨_, _, _, _, M, loc, rfl, hK, r1, .int _ _, r2⟩
theorem zeroAV_run {t : TypeId} {z : AV} (h : zeroAV P t = some z) : ∃ v, (zeroValue t).run P w = .ok v w ∧ VRel M w loc z v := by
 unfold zeroAV at h
 cases hi : P.info? t with
 | none => simp [hi] at h
 | some i =>
  cases hz : i.zero with
  | none => simp [hi, hz] at h
  | some v =>
   simp only [hi, hz, Option.bind_some, Option.map_some, Option.some.injEq] at h
   subst h
   have hzt : zeroT P t = some (v.cells.toList.map ofCell) := by simp [zeroT, hi, hz]
   obtain ⟨v', hrun, _, i', hi', hz'⟩ := zeroT_run hzt w
   rw [hi] at hi'; cases hi'
   rw [hz] at hz'; cases hz'
   exact ⟨v, hrun, vrel_const v⟩
theorem atypeAssert_sound {x : AV} {xt asserted : TypeId} {ok : Bool} {v : Value} (h : atypeAssert P x asserted ok (fun v => K v H)) (hr : Rel M loc H w) (hv : VRel M w loc x v) :
  GoodV P M loc H w K ((Instr.typeAssert v xt asserted ok).run P w) := by
 unfold atypeAssert at h
 obtain ⟨hb, h'⟩ := chk_elim h
 clear h
 obtain ⟨d, hu, hd⟩ : ∃ d, P.underlying asserted = some d ∧ ∀ ms, d ≠ .interface ms := by
  unfold ifaceT at hb
  cases hu : P.underlying asserted with
  | none => rw [hu] at hb; cases hb
  | some d => exact ⟨d, rfl, by rintro ms rfl; rw [hu] at hb; cases hb⟩
 have pair : ∀ (a : AV) (u : Value) (b : Bool), VRel M w loc a u → VRel M w loc (.tup [a, .bool b]) (.tuple #[u, .bool b]) := by
  intro a u b hu
  refine .tup _ _ rfl (fun i hi => ?_)
  match i, hi with
  | 0, _ => exact hu
  | 1, _ => exact .bool _
 split at h'
 ·rename_i t a
  cases hv with
  | iface _ _ u hu' =>
  cases hq : Nat.beq t asserted with
  | true =>
   rw [hq] at h'
   have e := Nat.eq_of_beq_eq_true hq
   subst e
   have : (Instr.typeAssert (.iface t u) xt t true).run P w = .ok (.tuple #[u, .bool true]) w := by
    cases d <;> first | exact absurd rfl (hd _) | simp [Instr.typeAssert, run_underlying' hu]
   rw [this]
   exact GoodV.pure hr (pair _ _ _ hu') h'
  | false =>
   rw [hq] at h'
   have hne : t ≠ asserted := by rintro rfl; simp at hq
   obtain ⟨z, hz, hK⟩ := optP_elim h'
   obtain ⟨zv, hzr, hzv⟩ := zeroAV_run (w := w) (M := M) (loc := loc) hz
   have : (Instr.typeAssert (.iface t u) xt asserted true).run P w = .ok (.tuple #[zv, .bool false]) w := by
    cases d <;> first | exact absurd rfl (hd _) | simp [Instr.typeAssert, run_underlying' hu, hne, hzr]
   rw [this]
   exact GoodV.pure hr (pair _ _ _ hzv) hK
 ·cases hv
  obtain ⟨z, hz, hK⟩ := optP_elim h'
  obtain ⟨zv, hzr, hzv⟩ := zeroAV_run (w := w) (M := M) (loc := loc) hz
  have : (Instr.typeAssert .nilIface xt asserted true).run P w = .ok (.tuple #[zv, .bool false]) w := by
   cases d <;> first | exact absurd rfl (hd _) | simp [Instr.typeAssert, run_underlying' hu, hzr]
  rw [this]
  exact GoodV.pure hr (pair _ _ _ hzv) hK
 ·rename_i t a
  obtain ⟨hq, hK⟩ := chk_elim h'
  have e := Nat.eq_of_beq_eq_true hq
  subst e
  cases hv with
  | iface _ _ u hu' =>
  have : (Instr.typeAssert (.iface t u) xt t false).run P w = .ok u w := by
   cases d <;> first | exact absurd rfl (hd _) | simp [Instr.typeAssert, run_underlying' hu]
  rw [this]
  exact GoodV.pure hr hu' hK
 ·exact h'.elim
theorem condP_iff0 {b : Bool} {A B : Prop} : condP b A B ↔ (b = true → A) ∧ (b = false → B) := by cases b <;> simp [condP]
theorem aminmax_sound {mx : Bool} {ts : Array TypeId} {T : TypeId} {xs : List AV} {vs : Array Value} (h : aminmax mx xs (fun v => K v H)) (hr : Rel M loc H w) (hv : VRels M w loc xs vs) :
  GoodV P M loc H w K ((match mx with | true => Builtin.max_ ts T vs | false => Builtin.min_ ts T vs).run P w) := by
 unfold aminmax at h
 split at h
 case h_3 => exact h.elim
 case h_2 a b =>
  split at h
  case h_2 => exact h.elim
  case h_1 =>
  obtain ⟨hs, hv⟩ := hv
  have hv0 := hv 0 (by simp)
  have hv1 := hv 1 (by simp)
  simp only [List.getElem_cons_zero, List.getElem_cons_succ] at hv0 hv1
  obtain ⟨l, rfl⟩ : ∃ l : List Value, vs = l.toArray := ⟨vs.toList, by simp⟩
  match l, hs, hv0, hv1 with
  | [x, y], _, hv0, hv1 =>
   simp only [List.getElem_toArray, List.getElem_cons_zero, List.getElem_cons_succ] at hv0 hv1
   cases hv0
   cases hv1
   have e : (Builtin.min_ ts T [Value.string a, Value.string b].toArray).run P w = .ok (.string (if (Op.bytesLess a.toList b.toList || a.toList == b.toList) = true then a else b)) w := by
    simp [Builtin.min_, Builtin.min2, Op.stringOp, asBool, Sem.run_bind, Sem.run_pure]
   show GoodV P M loc H w K ((Builtin.min_ ts T _).run P w)
   rw [e]
   rcases condP_iff0.1 h with ⟨h1, h2⟩
   by_cases hc : (Op.bytesLess a.toList b.toList || a.toList == b.toList) = true
   ·rw [if_pos hc]
    exact GoodV.pure hr (.str _) (h1 hc)
   ·rw [if_neg hc]
    exact GoodV.pure hr (.str _) (h2 (by simpa using hc))
 case h_1 k a rest =>
 obtain ⟨hs, hv⟩ := hv
 obtain ⟨l, rfl⟩ : ∃ l : List Value, vs = l.toArray := ⟨vs.toList, by simp⟩
 cases l with
 | nil => simp at hs
 | cons v l =>
  have hv0 := hv 0 (by simp)
  simp only [List.getElem_cons_zero, List.getElem_toArray] at hv0
  cases hv0
  have := amm_sound (P := P) mx k a rest l h hr (by simpa using hs) (fun i h h' => by
   have := hv (i + 1) (by simpa using h)
   simpa using this)
  cases mx with
  | true => exact this
  | false => exact this
end
end Go.Ab
end
