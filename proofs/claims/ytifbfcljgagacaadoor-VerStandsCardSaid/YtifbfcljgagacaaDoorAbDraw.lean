/- A region that draws its order: one order stands for all. -/
import Derived.Test.YtifbfcljgagacaaDoorAbReg
set_option linter.unusedVariables false
set_option linter.unusedSimpArgs false
namespace Go.Ab

/-- operations that act: they keep their places -/
def isX : Op → Bool
  | .assign _ | .alloc _ | .box .. | .store .. | .makeSlice .. | .range .. | .next .. | .typeAssert .. | .makeMap .. | .lookup .. | .mapUpdate .. => true
  | .call c => match c.callee with
    | .builtin .len | .builtin .min | .builtin .max => false
    | _ => true
  | _ => false

/-- operations that look at what may change -/
def isL : Op → Bool
  | .load .. => true
  | .call c => match c.callee with
    | .builtin .len => true
    | _ => false
  | _ => false

/-- an operation with one answer -/
def sureOp (P : Program) : Op → Bool
  | .binOp .eql t _ _ _ | .binOp .neq t _ _ _ => !slish P t
  | _ => true

def predsOf (o : Oper) : List Nat := o.after.toList.filterMap fun e => match Region.binds .any e with | true => some e.on | false => none

def befB (masks : List Nat) (j i : Nat) : Bool := (masks.getD i 0).testBit j

/-- two operations, the first one ahead in our order -/
def pairOk (P : Program) (ops : Array Oper) (masks : List Nat) (i j : Nat) (oi oj : Oper) : Bool :=
  !Nat.beq i j && !(predsOf oi).contains j && (!isX oi.op || befB masks i j) && (oi.apart ops oj || befB masks i j) &&
  (isX oi.op || (match oi.dst, oj.dst with | some d, some d' => !Nat.beq d d' | _, _ => true)) &&
  (isX oj.op || (match oj.dst with | some d => !(oi.looksAt ops).contains d | none => true))

def orderOk (P : Program) (ops : Array Oper) (masks : List Nat) : List Nat → Bool
  | [] => true
  | i :: r => (match ops[i]? with
    | some oi => (isX oi.op || (sureOp P oi.op && match oi.dst with | some d => !(oi.looksAt ops).contains d | none => false)) && r.all fun j => match ops[j]? with
      | some oj => pairOk P ops masks i j oi oj
      | none => false
    | none => false) && orderOk P ops masks r

def maskOk (ops : Array Oper) (masks : List Nat) (i : Nat) : Bool :=
  match ops[i]? with
  | some o => Nat.beq ((masks.getD i 0) ||| ((predsOf o).foldl (fun u p => u ||| (2 ^ p ||| masks.getD p 0)) 0)) ((predsOf o).foldl (fun u p => u ||| (2 ^ p ||| masks.getD p 0)) 0) &&
      (predsOf o).all fun p => Nat.blt p ops.size && !Nat.beq p i
  | none => false

def drawOk (P : Program) (ops : Array Oper) (masks : List Nat) (c : List Nat) : Bool :=
  Nat.beq c.length ops.size && ((List.range ops.size).all fun i => c.contains i) && ((List.range ops.size).all (maskOk ops masks)) &&
  orderOk P ops masks c && P.follows .mixedOrders

/-- works a number out ahead -/
def force {α : Sort _} (x : Nat) (f : Nat → α) : α := Nat.rec (motive := fun _ => α) (f 0) (fun k _ => f (k + 1)) x

/-- the next operation that is due: one that does not act, or any -/
def nextOp (ops : Array Oper) (done : Nat) (any : Bool) : List Nat → Option Nat
  | [] => none
  | i :: r => match ops[i]? with
    | some o => bif !done.testBit i && ((any || !isX o.op) && (predsOf o).all (done.testBit ·)) then some i else nextOp ops done any r
    | none => none

/-- our order, from its end: whatever does not act comes as soon as it may -/
def canonGo (ops : Array Oper) (all : List Nat) : Nat → Nat → List Nat → List Nat
  | 0, _, acc => acc
  | n + 1, done, acc => match nextOp ops done false all with
    | some i => force (done ||| 2 ^ i) fun d => force i fun i' => canonGo ops all n d (i' :: acc)
    | none => match nextOp ops done true all with
      | some i => force (done ||| 2 ^ i) fun d => force i fun i' => canonGo ops all n d (i' :: acc)
      | none => acc
def canon (ops : Array Oper) : List Nat := (canonGo ops (List.range ops.size) ops.size 0 []).reverse

/-- what must come ahead of each, from the last one -/
def masksGo (ops : Array Oper) : List Nat → List Nat → List Nat
  | [], acc => acc
  | i :: r, acc => match ops[i]? with
    | some o => force ((predsOf o).foldl (fun u p => u ||| (2 ^ p ||| acc.getD (i - 1 - p) 0)) 0) fun m => masksGo ops r (m :: acc)
    | none => acc
def masksOf (ops : Array Oper) : List Nat := (masksGo ops (List.range ops.size) []).reverse

def muOf (cfg : Cfg) (o : Oper) : Bool := match o.dst with | some d => cfg.mu d | none => false

/-- an operation, done now, gives what its slot holds -/
def Pend (P : Program) (cfg : Cfg) (ops : Array Oper) (s : Slots) (H : List AObj) (j : Nat) : Prop :=
  match ops[j]? with
  | some o => match o.dst with
    | some d => match o.guard with
      | none => aop P cfg.ret (muOf cfg o) s o.op H fun v H' => v = get s d ∧ H' = H
      | some (g, want) => match (ops[g]?).bind (·.dst) with
        | some gd => match get s gd with
          | .bool b => match b, want with
            | true, true | false, false => aop P cfg.ret (muOf cfg o) s o.op H fun v H' => v = get s d ∧ H' = H
            | _, _ => get s d = .tup []
          | .tup [] => get s d = .tup []
          | _ => False
        | none => False
    | none => False
  | none => False

/-- what was looked at must still be so -/
def pendAll (P : Program) (cfg : Cfg) (ops : Array Oper) (masks : List Nat) (i : Nat) (s : Slots) (H : List AObj) : List Nat → Prop → Prop
  | [], A => A
  | j :: r, A => match befB masks j i with
    | true => pendAll P cfg ops masks i s H r A
    | false => Pend P cfg ops s H j ∧ pendAll P cfg ops masks i s H r A

def adrawL (P : Program) (cfg : Cfg) (ops : Array Oper) (masks : List Nat) : List Nat → List Nat → Slots → List AObj → (Slots → List AObj → Prop) → Prop
  | [], _, s, H, K => K s H
  | i :: r, log, s, H, K => match ops[i]? with
    | some o => match isX o.op with
      | true => aoper P cfg ops s o H fun s' H' => pendAll P cfg ops masks i s' H' log (adrawL P cfg ops masks r log s' H' K)
      | false => aoper P cfg ops s o H fun s' H' => adrawL P cfg ops masks r (match isL o.op with | true => i :: log | false => log) s' H' K
    | none => False

def adraw (P : Program) (cfg : Cfg) (ops : Array Oper) (s : Slots) (H : List AObj) (K : Slots → List AObj → Prop) : Prop :=
  chk (drawOk P ops (masksOf ops) (canon ops)) (adrawL P cfg ops (masksOf ops) (canon ops) [] s H K)

/-! ### an operation depends on its operands alone -/
section
variable {P : Program}

theorem aop_congr {R : FuncId → List Ret} {mu : Bool} {s s' : Slots} {o : Op} {H : List AObj} {K : AV → List AObj → Prop} (h : ∀ x ∈ o.operands, ev s x = ev s' x) (hk : aop P R mu s o H K) : aop P R mu s' o H K := by
  cases o with
  | move x => have e := h x (by simp [Op.operands]); simp only [aop, e] at hk ⊢; exact hk
  | assign x => have e := h x (by simp [Op.operands]); simp only [aop, e] at hk ⊢; exact hk
  | pick c x y =>
    have e1 := h c (by simp [Op.operands]); have e2 := h x (by simp [Op.operands]); have e3 := h y (by simp [Op.operands])
    simp only [aop, e1, e2, e3] at hk ⊢; exact hk
  | alloc t => exact hk
  | box t x => have e := h x (by simp [Op.operands]); simp only [aop, e] at hk ⊢; exact hk
  | build t parts =>
    have e : parts.toList.map (fun (i, x) => (i, ev s x)) = parts.toList.map (fun (i, x) => (i, ev s' x)) :=
      List.map_congr_left fun p hp => by
        have := h p.2 (by simp only [Op.operands, List.mem_toArray, List.mem_map]; exact ⟨p, hp, rfl⟩)
        simp only [this]
    simp only [aop, e] at hk ⊢; exact hk
  | buildSlice t n parts =>
    have e : parts.toList.map (fun (i, x) => (i, ev s x)) = parts.toList.map (fun (i, x) => (i, ev s' x)) :=
      List.map_congr_left fun p hp => by
        have := h p.2 (by simp only [Op.operands, List.mem_toArray, List.mem_map]; exact ⟨p, hp, rfl⟩)
        simp only [this]
    simp only [aop, e] at hk ⊢; exact hk
  | load t x => have e := h x (by simp [Op.operands]); simp only [aop, e] at hk ⊢; exact hk
  | store t x y =>
    have e1 := h x (by simp [Op.operands]); have e2 := h y (by simp [Op.operands])
    simp only [aop, e1, e2] at hk ⊢; exact hk
  | nilCheck x => have e := h x (by simp [Op.operands]); simp only [aop, e] at hk ⊢; exact hk
  | binOp op t x y yt =>
    have e1 := h x (by simp [Op.operands]); have e2 := h y (by simp [Op.operands])
    simp only [aop, e1, e2] at hk ⊢; exact hk
  | unOp op t x => have e := h x (by simp [Op.operands]); simp only [aop, e] at hk ⊢; exact hk
  | convert a b x => have e := h x (by simp [Op.operands]); simp only [aop, e] at hk ⊢; exact hk
  | makeInterface t x => have e := h x (by simp [Op.operands]); simp only [aop, e] at hk ⊢; exact hk
  | makeFunc fn first captured =>
    cases fn with
    | func f =>
      have e : captured.toList.map (ev s) = captured.toList.map (ev s') :=
        List.map_congr_left fun p hp => h p (by simp only [Op.operands, Array.mem_append]; exact .inr (by simpa using hp))
      simp only [aop, e] at hk ⊢; exact hk
    | method name =>
      have e : first.toList.map (ev s) = first.toList.map (ev s') :=
        List.map_congr_left fun p hp => h p (by simp only [Op.operands, Array.mem_append]; exact .inl (by simpa using hp))
      simp only [aop, e] at hk ⊢; exact hk
    | _ => exact hk.elim
  | makeMap t r =>
    cases r with
    | none => exact hk
    | some r => exact hk.elim
  | lookup t x k ok =>
    have e1 := h x (by simp [Op.operands]); have e2 := h k (by simp [Op.operands])
    simp only [aop, e1, e2] at hk ⊢; exact hk
  | mapUpdate t x k v =>
    have e1 := h x (by simp [Op.operands]); have e2 := h k (by simp [Op.operands]); have e3 := h v (by simp [Op.operands])
    simp only [aop, e1, e2, e3] at hk ⊢; exact hk
  | makeSlice t l c =>
    have e1 := h l (by simp [Op.operands]); have e2 := h c (by simp [Op.operands])
    simp only [aop, e1, e2] at hk ⊢; exact hk
  | slice t x lo hi mx =>
    have e0 := h x (by simp [Op.operands])
    have e1 : lo.map (ev s) = lo.map (ev s') := by
      cases lo with
      | none => rfl
      | some y => simp only [Option.map_some]; rw [h y (by simp [Op.operands])]
    have e2 : hi.map (ev s) = hi.map (ev s') := by
      cases hi with
      | none => rfl
      | some y => simp only [Option.map_some]; rw [h y (by simp [Op.operands])]
    have e3 : mx.map (ev s) = mx.map (ev s') := by
      cases mx with
      | none => rfl
      | some y => simp only [Option.map_some]; rw [h y (by simp [Op.operands])]
    simp only [aop, e0, e1, e2, e3] at hk ⊢; exact hk
  | fieldAddr t x f => have e := h x (by simp [Op.operands]); simp only [aop, e] at hk ⊢; exact hk
  | field t x f => have e := h x (by simp [Op.operands]); simp only [aop, e] at hk ⊢; exact hk
  | indexAddr t x i =>
    have e1 := h x (by simp [Op.operands]); have e2 := h i (by simp [Op.operands])
    simp only [aop, e1, e2] at hk ⊢; exact hk
  | index t x i =>
    have e1 := h x (by simp [Op.operands]); have e2 := h i (by simp [Op.operands])
    simp only [aop, e1, e2] at hk ⊢; exact hk
  | extract x i => have e := h x (by simp [Op.operands]); simp only [aop, e] at hk ⊢; exact hk
  | typeAssert x xt asserted ok => have e := h x (by simp [Op.operands]); simp only [aop, e] at hk ⊢; exact hk
  | range t x => have e := h x (by simp [Op.operands]); simp only [aop, e] at hk ⊢; exact hk
  | next x str => have e := h x (by simp [Op.operands]); simp only [aop, e] at hk ⊢; exact hk
  | call c =>
    obtain ⟨callee, args, ts⟩ := c
    have hargs : args.toList.map (ev s) = args.toList.map (ev s') :=
      List.map_congr_left fun p hp => h p (by simp only [Op.operands, Call.operands, Array.mem_append]; exact .inr (by simpa using hp))
    cases callee with
    | builtin b => simp only [aop, acall, hargs] at hk ⊢; exact hk
    | value f =>
      have e := h f (by simp [Op.operands, Call.operands])
      simp only [aop, acall, hargs, e] at hk ⊢; exact hk
    | invoke r n =>
      have e := h r (by simp [Op.operands, Call.operands])
      simp only [aop, acall, hargs, e] at hk ⊢; exact hk
  | _ => exact hk.elim

theorem chk_mono {b : Bool} {A B : Prop} (h : A → B) (hk : chk b A) : chk b B := by
  cases b with
  | true => exact h hk
  | false => exact hk.elim
theorem needP_mono {p A B : Prop} (h : A → B) (hk : needP p A) : needP p B := ⟨hk.1, fun hp => h (hk.2 hp)⟩
theorem optP_mono {α : Type 1} {o : Option α} {K K' : α → Prop} (h : ∀ a, K a → K' a) (hk : optP o K) : optP o K' := by
  cases o with
  | some a => exact h a hk
  | none => exact hk.elim

end

def Det (F : (AV → Prop) → Prop) : Prop := ∀ K, F K → ∃ v, F (fun x => x = v) ∧ K v

theorem Det.const (v : AV) : Det (fun K => K v) := fun K h => ⟨v, rfl, h⟩
theorem Det.chk {b : Bool} {F : (AV → Prop) → Prop} (h : Det F) : Det (fun K => Ab.chk b (F K)) := by
  intro K hk
  cases b with
  | true => exact h K hk
  | false => exact hk.elim
theorem Det.need {p : Prop} {F : (AV → Prop) → Prop} (h : Det F) : Det (fun K => needP p (F K)) := by
  intro K hk
  obtain ⟨v, h1, h2⟩ := h K (hk.2 hk.1)
  exact ⟨v, ⟨hk.1, fun _ => h1⟩, h2⟩
theorem Det.opt (o : Option AV) : Det (fun K => optP o K) := by
  intro K hk
  cases o with
  | some a => exact ⟨a, rfl, hk⟩
  | none => exact hk.elim
theorem Det.none : Det (fun _ => False) := fun K h => h.elim
theorem Det.cond {b : Bool} {u v : AV} : Det (fun K => condP b (K u) (K v)) := by
  intro K hk
  cases b with
  | true => exact ⟨u, rfl, hk⟩
  | false => exact ⟨v, rfl, hk⟩
theorem det_aload {P : Program} {t : TypeId} {v : AV} {H : List AObj} : Det (fun K => aload P t v H K) := by
  unfold aload
  repeat' (first
    | exact Det.none
    | exact Det.const _
    | exact Det.opt _
    | exact Det.cond
    | refine Det.need ?_
    | refine Det.chk ?_
    | split
    )
theorem det_abuild {P : Program} {t : TypeId} {parts : List (Nat × AV)} : Det (fun K => abuild P t parts K) := by
  unfold abuild
  repeat' (first
    | exact Det.none
    | exact Det.const _
    | exact Det.opt _
    | exact Det.cond
    | refine Det.need ?_
    | refine Det.chk ?_
    | split
    )
theorem det_abuildSlice {P : Program} {t : TypeId} {n : Nat} {parts : List (Nat × AV)} : Det (fun K => abuildSlice P t n parts K) := by
  unfold abuildSlice
  repeat' (first
    | exact Det.none
    | exact Det.const _
    | exact Det.opt _
    | exact Det.cond
    | refine Det.need ?_
    | refine Det.chk ?_
    | split
    )
theorem det_anilCheck {P : Program} {v : AV} : Det (fun K => anilCheck P v K) := by
  unfold anilCheck
  repeat' (first
    | exact Det.none
    | exact Det.const _
    | exact Det.opt _
    | exact Det.cond
    | refine Det.need ?_
    | refine Det.chk ?_
    | split
    )
theorem det_intOp {op : BinOp} {k : IntKind} {a b : Int} : Det (fun K => intOp op k a b K) := by
  unfold intOp
  repeat' (first
    | exact Det.none
    | exact Det.const _
    | exact Det.opt _
    | exact Det.cond
    | refine Det.need ?_
    | refine Det.chk ?_
    | split
    )
theorem det_shiftOp {op : BinOp} {k : IntKind} {a b : Int} : Det (fun K => shiftOp op k a b K) := by
  unfold shiftOp
  repeat' (first
    | exact Det.none
    | exact Det.const _
    | exact Det.opt _
    | exact Det.cond
    | refine Det.need ?_
    | refine Det.chk ?_
    | split
    )
theorem det_strOp {op : BinOp} {a b : ByteArray} : Det (fun K => strOp op a b K) := by
  unfold strOp
  repeat' (first
    | exact Det.none
    | exact Det.const _
    | exact Det.opt _
    | exact Det.cond
    | refine Det.need ?_
    | refine Det.chk ?_
    | split
    )
theorem det_aun {op : UnOp} {v : AV} : Det (fun K => aun op v K) := by
  unfold aun
  repeat' (first
    | exact Det.none
    | exact Det.const _
    | exact Det.opt _
    | exact Det.cond
    | refine Det.need ?_
    | refine Det.chk ?_
    | split
    )
theorem det_aconv {P : Program} {a b : TypeId} {v : AV} : Det (fun K => aconv P a b v K) := by
  unfold aconv
  repeat' (first
    | exact Det.none
    | exact Det.const _
    | exact Det.opt _
    | exact Det.cond
    | refine Det.need ?_
    | refine Det.chk ?_
    | split
    )
theorem det_asli {P : Program} {t : TypeId} {x : AV} {lo hi mx : Option AV} : Det (fun K => asli P t x lo hi mx K) := by
  unfold asli
  repeat' (first
    | exact Det.none
    | exact Det.const _
    | exact Det.opt _
    | exact Det.cond
    | refine Det.need ?_
    | refine Det.chk ?_
    | split
    )
theorem det_afieldAddr {P : Program} {t : TypeId} {x : AV} {f : Nat} : Det (fun K => afieldAddr P t x f K) := by
  unfold afieldAddr
  repeat' (first
    | exact Det.none
    | exact Det.const _
    | exact Det.opt _
    | exact Det.cond
    | refine Det.need ?_
    | refine Det.chk ?_
    | split
    )
theorem det_afield {P : Program} {t : TypeId} {x : AV} {f : Nat} : Det (fun K => afield P t x f K) := by
  unfold afield
  repeat' (first
    | exact Det.none
    | exact Det.const _
    | exact Det.opt _
    | exact Det.cond
    | refine Det.need ?_
    | refine Det.chk ?_
    | split
    )
theorem det_aindexAddr {P : Program} {t : TypeId} {x i : AV} : Det (fun K => aindexAddr P t x i K) := by
  unfold aindexAddr
  repeat' (first
    | exact Det.none
    | exact Det.const _
    | exact Det.opt _
    | exact Det.cond
    | refine Det.need ?_
    | refine Det.chk ?_
    | split
    )
theorem det_aindex {P : Program} {t : TypeId} {x i : AV} : Det (fun K => aindex P t x i K) := by
  unfold aindex
  repeat' (first
    | exact Det.none
    | exact Det.const _
    | exact Det.opt _
    | exact Det.cond
    | refine Det.need ?_
    | refine Det.chk ?_
    | split
    )
theorem det_aextract {x : AV} {i : Nat} : Det (fun K => aextract x i K) := by
  unfold aextract
  repeat' (first
    | exact Det.none
    | exact Det.const _
    | exact Det.opt _
    | exact Det.cond
    | refine Det.need ?_
    | refine Det.chk ?_
    | split
    )
theorem det_alen {P : Program} {ts : List TypeId} {xs : List AV} {H : List AObj} : Det (fun K => alen P ts xs H K) := by
  unfold alen
  repeat' (first
    | exact Det.none
    | exact Det.const _
    | exact Det.opt _
    | exact Det.cond
    | refine Det.need ?_
    | refine Det.chk ?_
    | split
    )


theorem det_amm (mx : Bool) : ∀ (k : IntKind) (a : Int) (xs : List AV), Det (fun K => amm mx k a xs K)
  | k, a, [] => Det.const _
  | k, a, x :: xs => by
    cases x <;> first
      | exact det_amm mx k _ xs
      | exact Det.none

theorem det_aminmax {mx : Bool} {xs : List AV} : Det (fun K => aminmax mx xs K) := by
  unfold aminmax
  split
  · exact det_amm mx _ _ _
  · exact Det.none

theorem det_boolP {o : Option Bool} {f : Bool → AV} : Det (fun K => boolP o fun b => K (f b)) := by
  intro K h
  cases o with
  | none => exact h.elim
  | some b => exact ⟨f b, rfl, h⟩

theorem det_aeqAgg {P : Program} {t : TypeId} {xs ys : List AV} {f : Bool → AV} : Det (fun K => aeqAgg P t xs ys fun b => K (f b)) := by
  unfold aeqAgg
  split
  · exact Det.chk det_boolP
  · exact Det.chk det_boolP

theorem det_abin {P : Program} {op : BinOp} {t : TypeId} {x y : AV} (hs : (op = .eql ∨ op = .neq) → slish P t = false) : Det (fun K => abin P op t x y K) := by
  intro K h
  unfold abin at h ⊢
  split at h
  · split at h
    · exact det_shiftOp K h
    · exact Det.chk det_intOp K h
  · exact det_strOp K h
  · split at h
    · have hn := hs (.inl rfl)
      unfold aeq at h ⊢
      split at h <;> first
        | exact h.elim
        | (obtain ⟨c1, h⟩ := chk_elim h; rw [hn] at c1; cases c1)
        | exact (Det.chk (Det.const _)) K h
        | exact det_aeqAgg K h
    · have hn := hs (.inr rfl)
      unfold aeq at h ⊢
      split at h <;> first
        | exact h.elim
        | (obtain ⟨c1, h⟩ := chk_elim h; rw [hn] at c1; cases c1)
        | exact (Det.chk (Det.const _)) K h
        | exact det_aeqAgg K h
    · exact h.elim

theorem aop_pick {P : Program} {R : FuncId → List Ret} {mu : Bool} {s : Slots} {c x y : Operand} {H : List AObj} {K : AV → List AObj → Prop} :
    aop P R mu s (.pick c x y) H K = (match ev s c with | .bool t => condP t (K (ev s x) H) (K (ev s y) H) | _ => False) := rfl
theorem aop_makeInterface {P : Program} {R : FuncId → List Ret} {mu : Bool} {s : Slots} {t : TypeId} {x : Operand} {H : List AObj} {K : AV → List AObj → Prop} :
    aop P R mu s (.makeInterface t x) H K = chk (match P.underlying t with | some (.interface _) | none => false | _ => true) (K (.iface t (ev s x)) H) := rfl
theorem aop_makeFunc {P : Program} {R : FuncId → List Ret} {mu : Bool} {s : Slots} {f : FuncId} {first captured : Array Operand} {H : List AObj} {K : AV → List AObj → Prop} :
    aop P R mu s (.makeFunc (.func f) first captured) H K = chk first.isEmpty (K (.fn f (captured.toList.map (ev s))) H) := rfl

theorem aop_makeMeth {P : Program} {R : FuncId → List Ret} {mu : Bool} {s : Slots} {name : String} {first captured : Array Operand} {H : List AObj} {K : AV → List AObj → Prop} :
    aop P R mu s (.makeFunc (.method name) first captured) H K = chk captured.isEmpty (match first.toList.map (ev s) with | [.iface t v] => K (.meth t name v) H | _ => False) := rfl

/-- AN OPERATION THAT DOES NOT ACT HAS ONE ANSWER, and leaves the heap alone. -/
theorem aop_det {P : Program} {R : FuncId → List Ret} {mu : Bool} {s : Slots} {o : Op} {H : List AObj} {K : AV → List AObj → Prop} (hx : isX o = false) (hsure : sureOp P o = true) (h : aop P R mu s o H K) :
    ∃ v, aop P R mu s o H (fun v' H' => v' = v ∧ H' = H) ∧ K v H := by
  have lift : ∀ {F : (AV → Prop) → Prop}, Det F → F (fun v => K v H) → ∃ v, F (fun v' => v' = v ∧ H = H) ∧ K v H := by
    intro F hd hk
    obtain ⟨v, h1, h2⟩ := hd _ hk
    refine ⟨v, ?_, h2⟩
    have : (fun v' : AV => v' = v ∧ H = H) = fun v' => v' = v := by funext v'; simp
    rw [this]; exact h1
  cases o with
  | move x => exact ⟨_, ⟨rfl, rfl⟩, h⟩
  | pick c x y =>
    rw [aop_pick] at h
    split at h
    · rename_i t ht
      obtain ⟨v, h1, h2⟩ := lift (F := fun K => condP t (K (ev s x)) (K (ev s y))) Det.cond h
      refine ⟨v, ?_, h2⟩
      rw [aop_pick, ht]; exact h1
    · exact h.elim
  | build t parts => exact lift (F := fun K => abuild P t _ K) det_abuild h
  | buildSlice t n parts => exact lift (F := fun K => abuildSlice P t n _ K) det_abuildSlice h
  | load t x => exact lift (F := fun K => aload P t _ H K) det_aload h
  | nilCheck x => exact lift (F := fun K => anilCheck P _ K) det_anilCheck h
  | binOp op t x y yt =>
    refine lift (F := fun K => abin P op t _ _ K) (det_abin ?_) h
    rintro (rfl | rfl) <;> simpa [sureOp] using hsure
  | unOp op t x => exact lift (F := fun K => aun op _ K) det_aun h
  | convert a b x => exact lift (F := fun K => aconv P a b _ K) det_aconv h
  | makeInterface t x =>
    rw [aop_makeInterface] at h
    obtain ⟨v, h1, h2⟩ := lift (F := fun K => chk _ (K (.iface t (ev s x)))) (Det.chk (Det.const _)) h
    exact ⟨v, by rw [aop_makeInterface]; exact h1, h2⟩
  | makeFunc fn first captured =>
    cases fn with
    | func f =>
      rw [aop_makeFunc] at h
      obtain ⟨v, h1, h2⟩ := lift (F := fun K => chk first.isEmpty (K (.fn f (captured.toList.map (ev s))))) (Det.chk (Det.const _)) h
      exact ⟨v, by rw [aop_makeFunc]; exact h1, h2⟩
    | method name =>
      rw [aop_makeMeth] at h
      obtain ⟨v, h1, h2⟩ := lift (F := fun K => chk captured.isEmpty (match first.toList.map (ev s) with | [.iface t v] => K (.meth t name v) | _ => False)) (Det.chk (by
        split
        · exact Det.const _
        · exact Det.none)) h
      exact ⟨v, by rw [aop_makeMeth]; exact h1, h2⟩
    | _ => exact h.elim
  | slice t x lo hi mx => exact lift (F := fun K => asli P t _ _ _ _ K) det_asli h
  | fieldAddr t x f => exact lift (F := fun K => afieldAddr P t _ f K) det_afieldAddr h
  | field t x f => exact lift (F := fun K => afield P t _ f K) det_afield h
  | indexAddr t x i => exact lift (F := fun K => aindexAddr P t _ _ K) det_aindexAddr h
  | index t x i => exact lift (F := fun K => aindex P t _ _ K) det_aindex h
  | extract x i => exact lift (F := fun K => aextract _ i K) det_aextract h
  | call c =>
    obtain ⟨callee, args, ts⟩ := c
    cases callee with
    | builtin b =>
      cases b <;> simp only [isX, reduceCtorEq] at hx
      · exact lift (F := fun K => alen P _ _ H K) det_alen h
      · exact lift (F := fun K => aminmax true _ K) det_aminmax h
      · exact lift (F := fun K => aminmax false _ K) det_aminmax h
    | value f => cases hx
    | invoke r n => cases hx
  | assign x => cases hx
  | alloc t => cases hx
  | box t x => cases hx
  | store t x y => cases hx
  | makeSlice t l c => cases hx
  | range t x => cases hx
  | typeAssert x xt asserted ok => cases hx
  | next x str => cases hx
  | makeMap t r => cases hx
  | lookup t x k ok => cases hx
  | mapUpdate t x k v => cases hx
  | _ => exact h.elim

/-- ... and if it does not look at the heap either, it is the same in any heap. -/
theorem aop_indep {P : Program} {R : FuncId → List Ret} {mu : Bool} {s : Slots} {o : Op} {H H2 : List AObj} {u : AV} (hx : isX o = false) (hl : isL o = false) (h : aop P R mu s o H (fun v' H' => v' = u ∧ H' = H)) :
    aop P R mu s o H2 (fun v' H' => v' = u ∧ H' = H2) := by
  have e : (fun v' : AV => v' = u ∧ H = H) = fun v' => v' = u ∧ H2 = H2 := by funext v'; simp
  have conv : ∀ {F : (AV → Prop) → Prop}, F (fun v' => v' = u ∧ H = H) → F (fun v' => v' = u ∧ H2 = H2) := fun {F} hf => e ▸ hf
  cases o with
  | move x => exact ⟨h.1, rfl⟩
  | pick c x y =>
    rw [aop_pick] at h ⊢
    split at h
    · rename_i t ht
      cases t with
      | true => exact ⟨h.1, rfl⟩
      | false => exact ⟨h.1, rfl⟩
    · exact h.elim
  | build t parts => exact conv (F := fun K => abuild P t _ K) h
  | buildSlice t n parts => exact conv (F := fun K => abuildSlice P t n _ K) h
  | load t x => cases hl
  | nilCheck x => exact conv (F := fun K => anilCheck P _ K) h
  | binOp op t x y yt => exact conv (F := fun K => abin P op t _ _ K) h
  | unOp op t x => exact conv (F := fun K => aun op _ K) h
  | convert a b x => exact conv (F := fun K => aconv P a b _ K) h
  | makeInterface t x =>
    rw [aop_makeInterface] at h ⊢
    obtain ⟨c1, h⟩ := chk_elim h
    rw [c1]; exact ⟨h.1, rfl⟩
  | makeFunc fn first captured =>
    cases fn with
    | func f =>
      rw [aop_makeFunc] at h ⊢
      obtain ⟨c1, h⟩ := chk_elim h
      rw [c1]; exact ⟨h.1, rfl⟩
    | method name =>
      rw [aop_makeMeth] at h ⊢
      obtain ⟨c1, h⟩ := chk_elim h
      rw [c1]
      split at h
      · exact ⟨h.1, rfl⟩
      · exact h.elim
    | _ => exact h.elim
  | slice t x lo hi mx => exact conv (F := fun K => asli P t _ _ _ _ K) h
  | fieldAddr t x f => exact conv (F := fun K => afieldAddr P t _ f K) h
  | field t x f => exact conv (F := fun K => afield P t _ f K) h
  | indexAddr t x i => exact conv (F := fun K => aindexAddr P t _ _ K) h
  | index t x i => exact conv (F := fun K => aindex P t _ _ K) h
  | extract x i => exact conv (F := fun K => aextract _ i K) h
  | call c =>
    obtain ⟨callee, args, ts⟩ := c
    cases callee with
    | builtin b =>
      cases b <;> simp only [isX, isL, reduceCtorEq] at hx hl
      · exact conv (F := fun K => aminmax true _ K) h
      · exact conv (F := fun K => aminmax false _ K) h
    | value f => cases hx
    | invoke r n => cases hx
  | assign x => cases hx
  | alloc t => cases hx
  | box t x => cases hx
  | store t x y => cases hx
  | makeSlice t l c => cases hx
  | range t x => cases hx
  | typeAssert x xt asserted ok => cases hx
  | next x str => cases hx
  | makeMap t r => cases hx
  | lookup t x k ok => cases hx
  | mapUpdate t x k v => cases hx
  | _ => exact h.elim

/-! ### one order stands for all -/
section
variable {P : Program} {cfg : Cfg} {ops : Array Oper} {masks : List Nat}

structure PairOk (P : Program) (ops : Array Oper) (masks : List Nat) (i j : Nat) (oi oj : Oper) : Prop where
  ne : i ≠ j
  pred : j ∉ predsOf oi
  x : isX oi.op = true → befB masks i j = true
  apart : oi.apart ops oj = true ∨ befB masks i j = true
  dst : isX oi.op = false → ∀ d, oi.dst = some d → oj.dst ≠ some d
  war : isX oj.op = false → ∀ d, oj.dst = some d → d ∉ oi.looksAt ops

theorem pairOk_spec {i j : Nat} {oi oj : Oper} (h : pairOk P ops masks i j oi oj = true) : PairOk P ops masks i j oi oj := by
  unfold pairOk at h
  simp only [Bool.and_eq_true] at h
  obtain ⟨⟨⟨⟨⟨h1, h2⟩, h3⟩, h4⟩, h5⟩, h6⟩ := h
  refine ⟨?_, ?_, ?_, ?_, ?_, ?_⟩
  · rintro rfl; simp at h1
  · simpa using h2
  · intro hx; simpa [hx] using h3
  · simpa using h4
  · intro hx d hd hd'
    rw [hx, hd, hd'] at h5
    simp at h5
  · intro hx d hd
    rw [hx, hd] at h6
    simpa using h6

theorem orderOk_spec : ∀ {c : List Nat}, orderOk P ops masks c = true → ∀ l1 i l2, c = l1 ++ i :: l2 →
    ∃ oi, ops[i]? = some oi ∧ (isX oi.op = false → sureOp P oi.op = true ∧ ∃ d, oi.dst = some d ∧ d ∉ oi.looksAt ops) ∧ ∀ j ∈ l2, ∃ oj, ops[j]? = some oj ∧ PairOk P ops masks i j oi oj
  | [], _, l1, i, l2, e => by simp at e
  | k :: r, h, l1, i, l2, e => by
    simp only [orderOk, Bool.and_eq_true] at h
    cases l1 with
    | nil =>
      simp only [List.nil_append, List.cons.injEq] at e
      obtain ⟨rfl, rfl⟩ := e
      have h1 := h.1
      split at h1
      case h_2 => cases h1
      case h_1 oi hoi =>
      rw [Bool.and_eq_true] at h1
      refine ⟨oi, hoi, ?_, ?_⟩
      · intro hx
        have h2 := h1.1
        rw [hx, Bool.false_or, Bool.and_eq_true] at h2
        refine ⟨h2.1, ?_⟩
        have h3 := h2.2
        split at h3
        · rename_i d hd; exact ⟨d, hd, by simpa using h3⟩
        · cases h3
      · intro j hj
        have := List.all_eq_true.1 h1.2 j hj
        split at this
        · rename_i oj hoj; exact ⟨oj, hoj, pairOk_spec this⟩
        · cases this
    | cons a l1 =>
      simp only [List.cons_append, List.cons.injEq] at e
      exact orderOk_spec h.2 l1 i l2 e.2

theorem maskOk_spec {i j : Nat} {o : Oper} (h : maskOk ops masks i = true) (ho : ops[i]? = some o) (hb : befB masks j i = true) : j ∈ predsOf o ∨ ∃ p ∈ predsOf o, befB masks j p = true := by
  unfold maskOk at h
  rw [ho] at h
  simp only [Bool.and_eq_true] at h
  have h1 := Nat.eq_of_beq_eq_true h.1
  have h2 : ((predsOf o).foldl (fun u p => u ||| (2 ^ p ||| masks.getD p 0)) 0).testBit j = true := by
    rw [← h1, Nat.testBit_or]
    simp only [befB] at hb
    rw [hb]; rfl
  have key : ∀ (l : List Nat) (u : Nat), (l.foldl (fun u p => u ||| (2 ^ p ||| masks.getD p 0)) u).testBit j = true → u.testBit j = true ∨ j ∈ l ∨ ∃ p ∈ l, befB masks j p = true := by
    intro l
    induction l with
    | nil => intro u h; exact .inl h
    | cons p l ih =>
      intro u h
      rw [List.foldl_cons] at h
      rcases ih _ h with h | h | ⟨q, hq, h⟩
      · rw [Nat.testBit_or, Nat.testBit_or, Bool.or_eq_true, Bool.or_eq_true] at h
        rcases h with h | h | h
        · exact .inl h
        · rw [Nat.testBit_two_pow] at h
          have : p = j := by simpa using h
          subst this
          exact .inr (.inl (by simp))
        · exact .inr (.inr ⟨p, by simp, h⟩)
      · exact .inr (.inl (by simp [h]))
      · exact .inr (.inr ⟨q, by simp [hq], h⟩)
  rcases key _ _ h2 with h | h | h
  · simp at h
  · exact .inl h
  · exact .inr h

theorem Pend_congr {s s' : Slots} {H : List AObj} {j : Nat} (h : ∀ o, ops[j]? = some o → (∀ d ∈ o.looksAt ops, get s' d = get s d) ∧ ∀ d, o.dst = some d → get s' d = get s d) (hp : Pend P cfg ops s H j) : Pend P cfg ops s' H j := by
  unfold Pend at hp ⊢
  split at hp
  case h_2 => exact hp.elim
  case h_1 o ho =>
  obtain ⟨h1, h2⟩ := h o ho
  split at hp
  case h_2 => exact hp.elim
  case h_1 d hd =>
  rw [h2 d hd]
  have hops : ∀ x ∈ o.op.operands, ev s x = ev s' x := by
    intro x hx
    cases x with
    | tmp t =>
      refine (h1 t ?_).symm
      simp only [Oper.looksAt, List.mem_append, List.mem_filterMap]
      exact .inl ⟨.tmp t, by simpa using hx, rfl⟩
    | _ => rfl
  cases hg : o.guard with
  | none =>
    rw [hg] at hp
    exact aop_congr hops hp
  | some jw =>
    obtain ⟨g, want⟩ := jw
    rw [hg] at hp
    simp only at hp ⊢
    split at hp
    case h_2 => exact hp.elim
    case h_1 gd hgd =>
    have hgd' : get s' gd = get s gd := h1 gd (by
      simp only [Oper.looksAt, List.mem_append]
      right; rw [hg]; simp [hgd])
    simp only [hgd']
    split at hp
    case h_3 => exact hp.elim
    case h_2 hb => exact hp
    case h_1 b hb =>
    split at hp
    · exact aop_congr hops hp
    · exact aop_congr hops hp
    · exact hp

theorem Pend_heap {s : Slots} {H H2 : List AObj} {j : Nat} {o : Oper} (ho : ops[j]? = some o) (hx : isX o.op = false) (hl : isL o.op = false) (hp : Pend P cfg ops s H j) : Pend P cfg ops s H2 j := by
  unfold Pend at hp ⊢
  rw [ho] at hp ⊢
  simp only at hp ⊢
  split at hp
  case h_2 => exact hp.elim
  case h_1 d hd =>
  split at hp
  · exact aop_indep hx hl hp
  · split at hp
    case h_2 => exact hp.elim
    case h_1 gd hgd =>
    split at hp
    case h_3 => exact hp.elim
    case h_2 hb => exact hp
    case h_1 b hb =>
    split at hp
    · exact aop_indep hx hl hp
    · exact aop_indep hx hl hp
    · exact hp

theorem pendAll_elim {i : Nat} {s : Slots} {H : List AObj} : ∀ {log : List Nat} {A : Prop}, pendAll P cfg ops masks i s H log A → (∀ j ∈ log, befB masks j i = false → Pend P cfg ops s H j) ∧ A
  | [], A, h => ⟨fun j hj => by simp at hj, h⟩
  | j :: r, A, h => by
    simp only [pendAll] at h
    split at h
    · rename_i hb
      obtain ⟨h1, h2⟩ := pendAll_elim h
      refine ⟨fun k hk hbk => ?_, h2⟩
      rcases List.mem_cons.1 hk with rfl | hk
      · rw [hb] at hbk; cases hbk
      · exact h1 k hk hbk
    · obtain ⟨h1, h2⟩ := pendAll_elim h.2
      refine ⟨fun k hk hbk => ?_, h2⟩
      rcases List.mem_cons.1 hk with rfl | hk
      · exact h.1
      · exact h1 k hk hbk

/-- what an operation that does not act makes of the slots -/
theorem aoper_sure {s : Slots} {H : List AObj} {o : Oper} {j : Nat} {K : Slots → List AObj → Prop} {d : Nat} (ho : ops[j]? = some o) (hx : isX o.op = false) (hs : sureOp P o.op = true) (hd : o.dst = some d) (hself : d ∉ o.looksAt ops)
    (h : aoper P cfg ops s o H K) : ∃ s', K s' H ∧ (∀ i, i ≠ d → get s' i = get s i) ∧ Pend P cfg ops s' H j ∧ d < cfg.N := by
  have hops : ∀ s', (∀ i, i ≠ d → get s' i = get s i) → ∀ x ∈ o.op.operands, ev s x = ev s' x := by
    intro s' hs' x hx
    cases x with
    | tmp t =>
      refine (hs' t ?_).symm
      rintro rfl
      refine hself ?_
      simp only [Oper.looksAt, List.mem_append, List.mem_filterMap]
      exact .inl ⟨.tmp t, by simpa using hx, rfl⟩
    | _ => rfl
  have getd : ∀ (s1 : Slots) v, get ((d, v) :: s1) d = v := by intro s1 v; simp [get]
  have getne : ∀ (s1 : Slots) v i, i ≠ d → get ((d, v) :: s1) i = get s1 i := by
    intro s1 v i hi
    simp only [get]
    cases hb : Nat.beq d i with
    | true => exact absurd (Nat.eq_of_beq_eq_true hb).symm hi
    | false => rfl
  have hrun : ∀ s1, (∀ i, get s1 i = get s i) → aop P cfg.ret (muOf cfg o) s1 o.op H (fun v H' => aput cfg.N s1 o.dst v fun s' => K s' H') →
      ∃ s' v, s' = (d, v) :: s1 ∧ K s' H ∧ aop P cfg.ret (muOf cfg o) s' o.op H (fun v' H' => v' = get s' d ∧ H' = H) ∧ d < cfg.N := by
    intro s1 he h
    obtain ⟨v, h1, h2⟩ := aop_det hx hs h
    rw [hd] at h2
    obtain ⟨hb, hK⟩ := chk_elim h2
    refine ⟨_, v, rfl, hK, ?_, by simpa [Nat.blt_eq] using hb⟩
    rw [getd]
    refine aop_congr (s := s1) ?_ h1
    intro x hxx
    have h3 := hops s1 (fun i _ => he i) x hxx
    have h4 := hops ((d, v) :: s1) (fun i hi => by rw [getne _ _ _ hi]; exact he i) x hxx
    rw [← h3, ← h4]
  have hskip : ∀ s1, aput cfg.N s1 o.dst (.tup []) (fun s' => K s' H) → K ((d, .tup []) :: s1) H ∧ d < cfg.N := by
    intro s1 h
    rw [hd] at h
    obtain ⟨hb, hK⟩ := chk_elim h
    exact ⟨hK, by simpa [Nat.blt_eq] using hb⟩
  unfold aoper at h
  simp only at h
  unfold Pend
  rw [ho]
  simp only [hd]
  cases hg : o.guard with
  | none =>
    rw [hg] at h
    obtain ⟨s', v, rfl, h1, h2, h3⟩ := hrun s (fun _ => rfl) h
    exact ⟨_, h1, getne s v, h2, h3⟩
  | some jw =>
    obtain ⟨g, want⟩ := jw
    rw [hg] at h
    simp only at h
    split at h
    case h_2 => exact h.elim
    case h_1 gd hgd =>
    split at h
    case h_3 => exact h.elim
    case h_2 hb =>
      have hgne : gd ≠ d := by
        rintro rfl
        refine hself ?_
        simp only [Oper.looksAt, List.mem_append]
        right; rw [hg]; simp [hgd]
      obtain ⟨h1, h3⟩ := hskip _ h
      refine ⟨_, h1, getne s (.tup []), ?_, h3⟩
      simp only [hgd]
      rw [getne _ _ _ hgne, hb]
      exact getd _ _
    case h_1 b hb =>
    obtain ⟨hlt, h⟩ := chk_elim h
    have hgne : gd ≠ d := by
      rintro rfl
      refine hself ?_
      simp only [Oper.looksAt, List.mem_append]
      right; rw [hg]; simp [hgd]
    have hknow : ∀ i, get ((gd, .bool b) :: s) i = get s i := by
      intro i
      simp only [get]
      cases hq : Nat.beq gd i with
      | true => have := Nat.eq_of_beq_eq_true hq; subst this; exact hb.symm
      | false => rfl
    have hs1 : ∀ v i, i ≠ d → get ((d, v) :: (gd, .bool b) :: s) i = get s i := fun v i hi => by rw [getne _ _ _ hi]; exact hknow i
    have hgv : ∀ v, get ((d, v) :: (gd, .bool b) :: s) gd = .bool b := fun v => by rw [hs1 v gd hgne]; exact hb
    simp only [hgd]
    cases b with
    | true =>
      simp only [condP] at h
      cases want with
      | true =>
        obtain ⟨s', v, rfl, h1, h2, h3⟩ := hrun _ hknow h
        refine ⟨_, h1, hs1 v, ?_, h3⟩
        rw [hgv]; exact h2
      | false =>
        obtain ⟨h1, h3⟩ := hskip _ h
        refine ⟨_, h1, hs1 (.tup []), ?_, h3⟩
        rw [hgv]; exact getd _ _
    | false =>
      simp only [condP] at h
      cases want with
      | true =>
        obtain ⟨h1, h3⟩ := hskip _ h
        refine ⟨_, h1, hs1 (.tup []), ?_, h3⟩
        rw [hgv]; exact getd _ _
      | false =>
        obtain ⟨s', v, rfl, h1, h2, h3⟩ := hrun _ hknow h
        refine ⟨_, h1, hs1 v, ?_, h3⟩
        rw [hgv]; exact h2

end
end Go.Ab
