/- A1: several of this proof's own texts, one behind the other: what each proves stands at its head. -/
import Derived.Test.YtbjcdgepclmmjaaA0
import Derived.Lib.AppendZerosOnto
import Derived.Laws.Externs
import Derived.Orders
import Derived.KernelRfl
import Derived.Laws.Strings
section
/- The abstract meaning of maps and of methods is sound. -/

set_option linter.unusedVariables false
set_option linter.unusedSimpArgs false
namespace Go.Ab
section
variable {P : Program} {M : Mem} {loc : Locs} {H : List AObj} {w : World} {K : AV → List AObj → Prop}

/-! ### maps -/

theorem natP_elim {o : Option Nat} {K : Nat → Prop} (h : natP o K) : ∃ a, o = some a ∧ K a := by
  cases o with
  | none => exact h.elim
  | some a => exact ⟨a, rfl, h⟩

theorem strKey_spec {t et : TypeId} (h : strKey P t = some et) : ∃ kt, P.underlying t = some (.map kt et) ∧ P.underlying kt = some .string := by
  unfold strKey at h
  split at h
  case h_2 => cases h
  case h_1 kt et' hu =>
  split at h
  case h_2 => cases h
  case h_1 hk =>
  cases h
  exact ⟨kt, hu, hk⟩

theorem ba_beq (a b : ByteArray) : (a == b) = decide (a = b) := by
  rw [beq_toListBytes]
  by_cases h : a = b
  · subst h; simp
  · rw [decide_eq_false h]
    cases hq : a.toList == b.toList with
    | false => rfl
    | true =>
      rw [beq_iff_eq, ByteArray.toList_eq, ByteArray.toList_eq] at hq
      exact (h (by cases a; cases b; congr; exact Array.ext' hq)).elim

theorem tl_beq (a b : ByteArray) : (a.toList == b.toList) = decide (a = b) := by rw [← beq_toListBytes, ba_beq]

/-- the place of a key, and its value -/
def findI {α : Type _} : List (ByteArray × α) → ByteArray → Nat → Option (Nat × α)
  | [], _, _ => none
  | p :: l, k, i => if k = p.1 then some (i, p.2) else findI l k (i + 1)

theorem findI_find {α : Type _} (k : ByteArray) : ∀ (l : List (ByteArray × α)) (i : Nat), (findI l k i).map (·.2) = findM l k
  | [], _ => rfl
  | p :: l, i => by
    simp only [findI, findM]
    split
    · rfl
    · exact findI_find k l (i + 1)

theorem findI_lt {α : Type _} (k : ByteArray) : ∀ (l : List (ByteArray × α)) (i j : Nat) (v : α), findI l k i = some (j, v) → i ≤ j ∧ ∃ h : j - i < l.length, l[j - i] = (k, v)
  | [], _, _, _, h => by cases h
  | p :: l, i, j, v, h => by
    simp only [findI] at h
    split at h
    · rename_i e
      cases h
      refine ⟨Nat.le_refl _, by simp, ?_⟩
      simp [e]
    · obtain ⟨h1, h2, h3⟩ := findI_lt k l (i + 1) j v h
      refine ⟨by omega, by simp; omega, ?_⟩
      have : j - i = (j - (i + 1)) + 1 := by omega
      simp only [this, List.getElem_cons_succ]
      exact h3

theorem setM_found {α : Type _} (k : ByteArray) (v' : α) : ∀ (l : List (ByteArray × α)) (i j : Nat) (v : α), findI l k i = some (j, v) → setM l k v' = l.set (j - i) (k, v')
  | [], _, _, _, h => by cases h
  | p :: l, i, j, v, h => by
    simp only [findI] at h
    simp only [setM]
    split at h
    · rename_i e
      cases h
      rw [if_pos e]; simp
    · rename_i e
      obtain ⟨h1, _⟩ := findI_lt k l (i + 1) j v h
      rw [if_neg e, setM_found k v' l (i + 1) j v h]
      have : j - i = (j - (i + 1)) + 1 := by omega
      rw [this]; rfl

theorem setM_none {α : Type _} (k : ByteArray) (v' : α) : ∀ (l : List (ByteArray × α)) (i : Nat), findI l k i = none → setM l k v' = l ++ [(k, v')]
  | [], _, _ => rfl
  | p :: l, i, h => by
    simp only [findI] at h
    simp only [setM]
    split at h
    · cases h
    · rename_i e
      rw [if_neg e, setM_none k v' l (i + 1) h]; rfl

/-- entries have a list's keys -/
def Keyed {α : Type _} (es : List MapEntry) (l : List (ByteArray × α)) : Prop := ∃ hs : es.length = l.length, ∀ i (h : i < l.length), (es[i]'(by omega)).key = .string l[i].1

theorem findNow_spec {α : Type _} (k : ByteArray) : ∀ (es : List MapEntry) (l : List (ByteArray × α)) (i : Nat), Keyed es l →
    Instr.findNow .string (.string k) es i = some ((findI l k i).map fun p => (p.1, ((es[p.1 - i]?).map (·.val)).getD undef))
  | [], [], i, _ => rfl
  | [], p :: l, i, h => by obtain ⟨h, _⟩ := h; simp at h
  | e :: es, [], i, h => by obtain ⟨h, _⟩ := h; simp at h
  | e :: es, p :: l, i, h => by
    obtain ⟨h1, h2⟩ := h
    have hk := h2 0 (by simp)
    simp only [List.getElem_cons_zero] at hk
    simp only [Instr.findNow, hk, Instr.sameNow, ba_beq, findI]
    by_cases hq : k = p.1
    · rw [decide_eq_true hq, if_pos hq]
      simp
    · rw [decide_eq_false hq, if_neg hq]
      simp only
      rw [findNow_spec k es l (i + 1) ⟨by simpa using h1, fun j hj => by have := h2 (j + 1) (by simp; omega); simpa using this⟩]
      congr 1
      cases hf : findI l k (i + 1) with
      | none => rfl
      | some q =>
        obtain ⟨j, v⟩ := q
        obtain ⟨h3, _⟩ := findI_lt k l (i + 1) j v hf
        have : j - i = (j - (i + 1)) + 1 := by omega
        simp [this]

theorem checkKey_str {kt : TypeId} (hk : P.underlying kt = some .string) (e : Bool) (k : ByteArray) : (Instr.checkKey e 10000 kt (.string k)).run P w = .ok () w := by
  rw [show (10000 : Nat) = 9999 + 1 from rfl]
  unfold Instr.checkKey
  simp only [Sem.run_bind, run_underlying' hk, Result.andThen_ok]
  rfl

theorem findKey_str {α : Type _} {kt : TypeId} (hk : P.underlying kt = some .string) (k : ByteArray) (es : List MapEntry) (l : List (ByteArray × α)) (h : Keyed es l) :
    (Instr.findKey kt (.string k) es).run P w = .ok ((findI l k 0).map fun p => (p.1, ((es[p.1]?).map (·.val)).getD undef)) w := by
  simp [Instr.findKey, run_underlying' hk, findNow_spec k es l 0 h]

theorem mapRes_rel {a : AV} {v : Value} (ok b : Bool) (h : VRel M w loc a v) : VRel M w loc (mapRes ok a b) (if ok then .tuple #[v, .bool b] else v) := by
  cases ok with
  | false => exact h
  | true =>
    refine .tup _ _ rfl (fun i hi => ?_)
    match i, hi with
    | 0, _ => exact h
    | 1, _ => exact .bool _

theorem lookMM_elim {K : AV → Prop} {Z : Prop} (k : ByteArray) : ∀ (m : MM), lookMM m k K Z → match findM m.toList k with | some v => K v | none => Z
  | .nil, h => h
  | .typed E l, h => by
    simp only [lookMM] at h
    simp only [MM.toList, findM_map]
    cases hf : findM l k with
    | none => rw [hf] at h; exact h
    | some a => rw [hf] at h; exact E.ok a _ h
  | .put m k' v, h => by
    simp only [lookMM, tl_beq] at h
    simp only [MM.toList, findM_set]
    by_cases hq : k = k'
    · rw [decide_eq_true hq] at h
      rw [if_pos hq]; exact h
    · rw [decide_eq_false hq] at h
      rw [if_neg hq]; exact lookMM_elim k m h

theorem keyed_of {ents : Array MapEntry} {m : List (ByteArray × AV)} (hs : ents.size = m.length) (h : ∀ i (h : i < m.length), (ents[i]'(by omega)).key = .string m[i].1 ∧ VRel M w loc m[i].2 (ents[i]'(by omega)).val) : Keyed ents.toList m :=
  ⟨by simpa using hs, fun i hi => by have := (h i hi).1; simpa using this⟩

theorem alookup_sound {t : TypeId} {x k : AV} {ok : Bool} {v u : Value} (h : alookup P t x k ok H (fun v => K v H)) (hr : Rel M loc H w) (hv : VRel M w loc x v) (hu : VRel M w loc k u) :
    GoodV P M loc H w K ((Instr.lookup t v u ok).run P w) := by
  unfold alookup at h
  obtain ⟨et, het, hA⟩ := natP_elim h
  clear h
  obtain ⟨kt, h1, h2⟩ := strKey_spec het
  obtain ⟨z, hz, h⟩ := optP_elim hA
  clear hA
  obtain ⟨zv, hzr, hzv⟩ := zeroAV_run (w := w) (M := M) (loc := loc) hz
  split at h
  case h_2 => exact h.elim
  case h_1 k =>
  cases hu
  split at h
  · cases hv
    have e : (Instr.lookup t (.map none) (.string k) ok).run P w = .ok (if ok then .tuple #[zv, .bool false] else zv) w := by
      simp only [Instr.lookup, Sem.run_bind, run_underlying' h1, Result.andThen_ok, pure_bind, Sem.run_pure, checkKey_str h2, findKey_str (α := Unit) h2 k [] [] ⟨rfl, fun i hi => by cases hi⟩, findI, Option.map_none, hzr]
    rw [e]
    exact GoodV.pure hr (mapRes_rel ok false hzv) h
  · rename_i id
    cases hv with
    | map _ b hl =>
    split at h
    case h_2 => exact h.elim
    case h_1 m ho =>
    have hobj := hr.objs id _ ho
    rw [hl] at hobj
    obtain ⟨b', ents, clock, e1, -, -, h3, h4, h5⟩ := hobj
    cases e1
    have hk := keyed_of h4 h5
    have hg : (getObj b).run P w = .ok (.map ents clock) w := by simp [getObj, Sem.run, h3]
    have hh := lookMM_elim k m h
    rw [← findI_find k m.toList 0] at hh
    cases hf : findI m.toList k 0 with
    | none =>
      rw [hf] at hh
      have e : (Instr.lookup t (.map (some b)) (.string k) ok).run P w = .ok (if ok then .tuple #[zv, .bool false] else zv) w := by
        simp only [Instr.lookup, Sem.run_bind, run_underlying' h1, Result.andThen_ok, pure_bind, Sem.run_pure, hg, checkKey_str h2, findKey_str h2 k _ _ hk, hf, Option.map_none, hzr]
      rw [e]
      exact GoodV.pure hr (mapRes_rel ok false hzv) hh
    | some q =>
      obtain ⟨j, a⟩ := q
      rw [hf] at hh
      obtain ⟨-, hj, ha⟩ := findI_lt k _ 0 j a hf
      simp only [Nat.sub_zero] at hj ha
      have hv := (h5 j hj).2
      rw [ha] at hv
      have e : (Instr.lookup t (.map (some b)) (.string k) ok).run P w = .ok (if ok then .tuple #[(ents[j]'(by omega)).val, .bool true] else (ents[j]'(by omega)).val) w := by
        simp only [Instr.lookup, Sem.run_bind, run_underlying' h1, Result.andThen_ok, pure_bind, Sem.run_pure, hg, checkKey_str h2, findKey_str h2 k _ _ hk, hf, Option.map_some]
        rw [show ents.toList[j]? = some (ents[j]'(by omega)) by simp [h4, hj]]
        simp
      rw [e]
      exact GoodV.pure hr (mapRes_rel ok true hv) hh
  · exact h.elim

theorem amapUpdate_sound {t : TypeId} {x k y : AV} {K : List AObj → Prop} {v u z : Value} (h : amapUpdate P t x k y H K) (hr : Rel M loc H w) (hv : VRel M w loc x v) (hu : VRel M w loc k u) (hz : VRel M w loc y z) :
    ∃ w' H' M' loc', (Instr.mapUpdate t v u z).run P w = .ok () w' ∧ K H' ∧ Rel M' loc' H' w' ∧ Step M loc H w M' loc' H' w' := by
  unfold amapUpdate at h
  obtain ⟨et, het, hA⟩ := natP_elim h
  clear h
  have h := hA
  clear hA
  obtain ⟨kt, h1, h2⟩ := strKey_spec het
  split at h
  case h_2 => exact h.elim
  case h_1 k =>
  cases hu
  split at h
  case h_2 => exact h.elim
  case h_1 id =>
  cases hv with
  | map _ b hl =>
  split at h
  case h_2 => exact h.elim
  case h_1 m ho =>
  have hobj := hr.objs id _ ho
  rw [hl] at hobj
  obtain ⟨b', ents, clock, e1, hb1, hb2, h3, h4, h5⟩ := hobj
  cases e1
  have hk := keyed_of h4 h5
  have hg : (getObj b).run P w = .ok (.map ents clock) w := by simp [getObj, Sem.run, h3]
  have keep : ∀ {ob : Obj}, Keeps M w loc M (setBlk w b ob) loc → True := fun _ => trivial
  -- the block after the write
  have hset : ∀ (es' : Array MapEntry) (c : Nat), (setObj b (.map es' c)).run P w = .ok () (setBlk w b (.map es' c)) := by
    intro es' c
    simp [setObj, Sem.run, setBlk, h3]
  have fin : ∀ (es' : Array MapEntry) (c : Nat) (hs : es'.size = (setM m.toList k y).length),
      (∀ M' w', (∀ a v, VRel M w loc a v → VRel M' w' loc a v) → ∀ i (h : i < (setM m.toList k y).length), (es'[i]'(by omega)).key = .string (setM m.toList k y)[i].1 ∧ VRel M' w' loc (setM m.toList k y)[i].2 (es'[i]'(by omega)).val) →
      Rel M loc (H.set id (.mp (.put m k y))) (setBlk w b (.map es' c)) ∧ Step M loc H w M loc (H.set id (.mp (.put m k y))) (setBlk w b (.map es' c)) := by
    intro es' c hs hh
    refine hr.write id b (.mp m) (.mp (.put m k y)) (.map es' c) ho (by intro h; cases h) hl (fun cs T fr hc => by rw [h3] at hc; cases hc) ?_
    refine ⟨b, es', c, rfl, hb1, hb2, setBlk_same (cells_lt h3), hs, hh M _ (fun a v hav => hav.keeps ⟨fun c k' v' hi => ?_, fun c cs T fr hc => ?_, fun i l hl => hl⟩)⟩
    · obtain ⟨hi1, hi2⟩ := hi
      refine ⟨?_, hi2⟩
      by_cases hcb : c = b
      · subst hcb
        rw [World.cell?] at hi1
        simp only [h3] at hi1
        simp at hi1
      · rw [cell_of_heap (setBlk_other hcb)]; exact hi1
    · by_cases hcb : c = b
      · subst hcb; rw [h3] at hc; cases hc
      · exact ⟨cs, fr, by rw [setBlk_other hcb]; exact hc, rfl⟩
  cases hf : findI m.toList k 0 with
  | none =>
    have e2 := setM_none k y m.toList 0 hf
    have e : (Instr.mapUpdate t (.map (some b)) (.string k) z).run P w = .ok () (setBlk w b (.map (ents.push { key := .string k, val := z, born := clock }) (clock + 1))) := by
      simp only [Instr.mapUpdate, Sem.run_bind, run_underlying' h1, Result.andThen_ok, hg, checkKey_str h2, findKey_str h2 k _ _ hk, hf, Option.map_none, hset]
    have hw := fin (ents.push { key := .string k, val := z, born := clock }) (clock + 1) (by rw [e2]; simp [h4]) (fun M' w' hk' i hi => by
      simp only [e2]
      by_cases hil : i < m.toList.length
      · rw [Array.getElem_push_lt (by omega), List.getElem_append_left hil]
        exact ⟨(h5 i hil).1, hk' _ _ (h5 i hil).2⟩
      · have : i = m.toList.length := by rw [e2] at hi; simp at hi; omega
        subst this
        simp only [← h4, Array.getElem_push_eq]
        simp only [h4, List.getElem_concat_length]
        exact ⟨by first | rfl | trivial, hk' _ _ hz⟩)
    exact ⟨_, _, M, loc, e, h, hw.1, hw.2⟩
  | some q =>
    obtain ⟨j, a⟩ := q
    have e2 := setM_found k y m.toList 0 j a hf
    obtain ⟨-, hj, ha⟩ := findI_lt k _ 0 j a hf
    simp only [Nat.sub_zero] at hj ha e2
    have hj' : j < ents.size := by omega
    have hkey := (h5 j hj).1
    rw [ha] at hkey
    simp only at hkey
    have e : (Instr.mapUpdate t (.map (some b)) (.string k) z).run P w = .ok () (setBlk w b (.map (ents.modify j fun e => { e with key := .string k, val := z }) clock)) := by
      have hst : (Instr.keyThatStays (.string k) (.string k)).run P w = .ok (.string k) w := by
        simp [Instr.keyThatStays, Instr.sameBits, ba_beq]
      simp only [Instr.mapUpdate, Sem.run_bind, run_underlying' h1, Result.andThen_ok, hg, checkKey_str h2, findKey_str h2 k _ _ hk, hf, Option.map_some]
      rw [Array.getElem?_eq_getElem hj']
      simp only [Option.map_some, Option.getD_some, hkey, hst, Result.andThen_ok, hset]
    have hw := fin (ents.modify j fun e => { e with key := .string k, val := z }) clock (by rw [e2]; simp [h4]) (fun M' w' hk' i hi => by
      simp only [e2]
      have hil : i < m.toList.length := by rw [e2] at hi; simpa using hi
      by_cases hij : j = i
      · subst hij
        simp only [Array.getElem_modify, List.getElem_set_self, if_true]
        exact ⟨by first | rfl | trivial, hk' _ _ hz⟩
      · simp only [Array.getElem_modify, if_neg hij]
        rw [List.getElem_set_ne hij]
        exact ⟨(h5 i hil).1, hk' _ _ (h5 i hil).2⟩)
    exact ⟨_, _, M, loc, e, h, hw.1, hw.2⟩

theorem amakeMap_sound {t : TypeId} (h : K (.map H.length) (H ++ [.mp .nil])) (hr : Rel M loc H w) : GoodV P M loc H w K ((Instr.makeMap t none).run P w) := by
  have e : (Instr.makeMap t none).run P w = .ok (.map (some w.heap.size)) (w.alloc (.map #[] 0)) := by
    simp [Instr.makeMap, run_newObj]
  rw [e]
  have hn := hr.new (.map #[] 0) 0 (fun h => absurd h (Nat.lt_irrefl 0)) (.blk w.heap.size) (.mp .nil) (.inr rfl)
    ⟨w.heap.size, #[], 0, rfl, hr.base, by simp [Mem.grow], heap_alloc_new _ _, rfl, fun i hi => by cases hi⟩
  exact ⟨_, _, _, _, _, _, rfl, h, hn.1, .map _ _ (by simp [locSet]), hn.2⟩

/-! ### methods -/

theorem methodOf_spec {t : TypeId} {name : String} {f : FuncId} (h : methodOf P t name = some f) :
    ∃ i m pr d, P.info? t = some i ∧ i.methods.find? (·.name == name) = some m ∧ m.path = #[] ∧ m.func = some (f, pr) ∧ P.underlying t = some d ∧ (pr = true ↔ ∃ e, d = .pointer e) := by
  unfold methodOf at h
  split at h
  case h_2 => cases h
  case h_1 m hm =>
  obtain ⟨i, hi, hm⟩ := Option.bind_eq_some_iff.1 hm
  split at h
  · cases h
  · rename_i f' d hne hp hf hu
    cases h
    exact ⟨i, m, false, d, hi, hm, by simpa using hp, hf, hu, by simp; intro e he; exact hne e (by rw [he])⟩
  · rename_i f' e hp hf hu
    cases h
    exact ⟨i, m, true, .pointer e, hi, hm, by simpa using hp, hf, hu, by simp⟩
  · cases h

theorem method_run {t : TypeId} {name : String} {f : FuncId} (h : methodOf P t name = some f) (v : Value) (n : Nat) : (method (n + 1) t v name).run P w = .ok (f, v) w := by
  obtain ⟨i, m, pr, d, h1, h2, h3, h4, h5, h6⟩ := methodOf_spec h
  simp only [method, Sem.run_bind, run_typeInfo' h1, Result.andThen_ok, h2, h3, follow, pure_bind, h4]
  cases pr with
  | true =>
    obtain ⟨e, rfl⟩ := h6.1 rfl
    simp [receiverAt, run_underlying' h5, Place.get]
  | false =>
    have hd : ∀ e, d ≠ .pointer e := fun e he => by have := h6.2 ⟨e, he⟩; cases this
    cases d <;> first | exact absurd rfl (hd _) | simp [receiverAt, run_underlying' h5, Place.get]

theorem nilAhead_run {t : TypeId} {name : String} {f : FuncId} (h : methodOf P t name = some f) (v : Value) (n : Nat) : (nilAhead (n + 1) t v name).run P w = .ok (some false) w := by
  obtain ⟨i, m, pr, d, h1, h2, h3, h4, h5, h6⟩ := methodOf_spec h
  simp only [nilAhead, Sem.run_bind, run_typeInfo' h1, Result.andThen_ok, h2, h3, followBlind, pure_bind, h4]
  cases pr with
  | true => simp [followBlind]
  | false =>
    have hd : ∀ e, d ≠ .pointer e := fun e he => by have := h6.2 ⟨e, he⟩; cases this
    cases d <;> first | exact absurd rfl (hd _) | simp [run_underlying' h5, followBlind]

end
end Go.Ab
end

section
/- Append to a slice that may be written is sound. -/

set_option linter.unusedVariables false
set_option linter.unusedSimpArgs false
namespace Go.Ab
section
variable {P : Program} {M : Mem} {loc : Locs} {H : List AObj} {w : World} {K : AV → List AObj → Prop}

/-- an object gets another number -/
theorem Rel.move (hr : Rel M loc H w) (id : Nat) (o : AObj) (l : Loc) (hid : H[id]? = some o) (hg : o = .gone → False) (hl : loc id = some l) :
    Rel M (locSet loc H.length l) (H.set id .gone ++ [o]) w ∧ Step M loc H w M (locSet loc H.length l) (H.set id .gone ++ [o]) w := by
  have hlow : ∀ i, i < H.length → locSet loc H.length l i = loc i := fun i hi => by simp only [locSet]; rw [if_neg (Nat.ne_of_lt hi)]
  have hnew : locSet loc H.length l H.length = some l := by simp [locSet]
  have hk : Keeps M w loc M w (locSet loc H.length l) := ⟨fun _ _ _ h => h, fun _ cs _ fr h => ⟨cs, fr, h, rfl⟩, fun j x hx => by rw [hlow j (hr.lt hx)]; exact hx⟩
  have hget : ∀ (i : Nat) (q : AObj), (H.set id .gone ++ [o])[i]? = some q → (q = .gone) ∨ (i < H.length ∧ i ≠ id ∧ H[i]? = some q) ∨ (i = H.length ∧ q = o) := by
    intro i q hi
    by_cases h : i < H.length
    · rw [List.getElem?_append_left (by simpa using h), List.getElem?_set] at hi
      split at hi
      · split at hi
        · cases hi; exact .inl rfl
        · cases hi
      · rename_i e; exact .inr (.inl ⟨h, fun x => e x.symm, hi⟩)
    · rw [List.getElem?_append_right (by simpa using h)] at hi
      have hz : i - (H.set id AObj.gone).length = 0 := by
        rcases Nat.eq_zero_or_pos (i - (H.set id AObj.gone).length) with z | z
        · exact z
        · rw [List.getElem?_eq_none (by simp only [List.length_singleton]; omega)] at hi; cases hi
      rw [hz] at hi
      cases hi
      simp only [List.length_set] at hz
      exact .inr (.inr ⟨by omega, rfl⟩)
  refine ⟨⟨hr.base, hr.ext, fun i hi => ?_, ?_, ?_⟩, ⟨rfl, Nat.le_refl _, rfl, rfl, rfl, fun _ _ _ => ⟨rfl, rfl⟩, fun _ _ _ h => h, fun _ cs _ fr h => ⟨cs, fr, h, rfl⟩, ?_, hlow, by simp⟩⟩
  · have hi' : H.length + 1 ≤ i := by simpa using hi
    simp only [locSet]; rw [if_neg (by omega)]; exact hr.dom i (by omega)
  · intro i q hi
    rcases hget i q hi with rfl | ⟨h1, h2, h3⟩ | ⟨rfl, rfl⟩
    · trivial
    · rw [hlow i h1]; exact (hr.objs i q h3).keeps_far hk rfl (fun b hb => ⟨rfl, rfl⟩)
    · have := hr.objs id q hid
      rw [hl] at this
      rw [hnew]; exact this.keeps_far hk rfl (fun b hb => ⟨rfl, rfl⟩)
  · intro i j oi oj li lj c hi hj gi gj hli hlj bi bj
    rcases hget i oi hi with e | ⟨h1, h2, h3⟩ | ⟨e1, e2⟩
    · exact (gi e).elim
    · rw [hlow i h1] at hli
      rcases hget j oj hj with e | ⟨k1, k2, k3⟩ | ⟨f1, f2⟩
      · exact (gj e).elim
      · rw [hlow j k1] at hlj
        exact hr.inj i j oi oj li lj c h3 k3 gi gj hli hlj bi bj
      · subst f1 f2
        rw [hnew] at hlj; cases hlj
        exact (h2 (hr.inj i id oi _ li _ c h3 hid gi hg hli hl bi bj)).elim
    · subst e1 e2
      rw [hnew] at hli; cases hli
      rcases hget j oj hj with e | ⟨k1, k2, k3⟩ | ⟨f1, f2⟩
      · exact (gj e).elim
      · rw [hlow j k1] at hlj
        exact (k2 (hr.inj id j _ oj _ lj c hid k3 hg gj hl hlj bi bj).symm).elim
      · rw [f1]
  · intro c hc ⟨i, q, x, hi, hgq, hx, hb⟩
    rcases hget i q hi with e | ⟨h1, h2, h3⟩ | ⟨e1, e2⟩
    · exact (hgq e).elim
    · rw [hlow i h1] at hx; exact ⟨i, q, x, h3, hgq, hx, hb⟩
    · subst e1 e2; rw [hnew] at hx; cases hx; exact ⟨id, _, _, hid, hgq, hl, hb⟩

/-- where there is no room: the rows lie in a new row that may be written -/
theorem append_grow_arr {t tx ty e : TypeId} {i : TypeInfo} {z : Value} (ht : P.underlying t = some (.slice e)) (hi : P.info? e = some i) (hz : i.zero = some z) (hzs : z.cells.size = i.size) (hsz : 1 ≤ i.size)
    (hr : Rel M loc H w) {base : Option Addr} {sCap : Nat} {s s' : Seq} {vals vals' : Nat → Nat → Value} (hc : Cells M w loc s.toList.length i.size s.toList vals)
    (hold : (Builtin.firstCells i.size s.toList.length (.slice base s.toList.length sCap)).run P w.drew = .ok (flatVals s.toList.length i.size vals).toArray w.drew)
    {x : Value} (hs : Src P i.size tx x s'.toList.length (flatVals s'.toList.length i.size vals') w) (hc' : Cells M w loc s'.toList.length i.size s'.toList vals')
    (hg : sCap < s.toList.length + s'.toList.length) (hfit : (s.toList.length + s'.toList.length) * i.bytes ≤ 140737488351232) (h63 : s.toList.length + s'.toList.length ≤ 9223372036854775807)
    (hK : K (.msl i.size H.length 0 (s.toList.length + s'.toList.length)) (H ++ [.arr i.size (s.app s')])) :
    GoodV P M loc H w K ((Builtin.append_ #[t, tx] ty #[.slice base s.toList.length sCap, x]).run P w) := by
  rw [run_append_grow_src w t tx ty e i z ht hi hz base _ sCap _ hold x _ _ hs hg (by omega) (growslice_fits hg (by omega))]
  have hsame := drew_same w
  have hr' := (hr.same hsame).1
  have hkd := hsame.keeps M loc
  have hca := (hc.app hc').keeps hkd
  have hcap := Question.cut_ge (w := w) (n := s.toList.length + s'.toList.length) (o := sCap) (e := e)
  have hzc : (Builtin.zeroCells z.cells (grownCap w (s.toList.length + s'.toList.length) sCap e - (s.toList.length + s'.toList.length))).size = (grownCap w (s.toList.length + s'.toList.length) sCap e - (s.toList.length + s'.toList.length)) * i.size := by
    simp [Builtin.zeroCells, hzs]
  refine GoodV.same_first hsame hr ?_
  refine new_arr (w := w.drew) (T := e) hr' hsz (s := s.app s') (n := s.toList.length + s'.toList.length) hca _ hcap ?_ (grow_cells vals _ vals' hsz _) hK
  simp only [Array.size_append, List.size_toArray, List.length_append, flatVals_length, hzc]
  rw [← Nat.add_mul, ← Nat.add_mul]
  congr 1; omega

theorem aappendM_sound {ts : Array TypeId} {T : TypeId} {xs : List AV} {vs : Array Value} (h : aappendM P ts.toList xs H K) (hr : Rel M loc H w) (hv : VRels M w loc xs vs) :
    GoodV P M loc H w K ((Builtin.append_ ts T vs).run P w) := by
  unfold aappendM at h
  split at h
  case h_2 => exact h.elim
  case h_1 t t' sz id off n x hts =>
  have hts' : ts = #[t, t'] := extract2 _ _ _ hts
  subst hts'
  obtain ⟨hs, hv⟩ := hv
  have hv0 := hv 0 (by simp)
  have hv1 := hv 1 (by simp)
  simp only [List.getElem_cons_zero, List.getElem_cons_succ] at hv0 hv1
  have hvs : vs = #[vs[0]'(by simp at hs; omega), vs[1]'(by simp at hs; omega)] := by
    apply Array.ext
    · simpa using hs
    · intro i h1 h2
      have : i < 2 := by simpa using h2
      match i, this with
      | 0, _ => rfl
      | 1, _ => rfl
  generalize vs[0]'(by simp at hs; omega) = v0 at hv0 hvs
  generalize vs[1]'(by simp at hs; omega) = v1 at hv1 hvs
  subst hvs
  clear hv hs
  split at h
  case h_2 => exact h.elim
  case h_1 e hu hsk =>
  split at h
  case h_2 => exact h.elim
  case h_1 k by_ z hn hby hz =>
  obtain ⟨hb, hq1⟩ := chk_elim h
  clear h
  simp only [Bool.and_eq_true] at hb
  have hn1 := Nat.le_of_ble_eq_true hb.1.1.1.1
  have hksz := Nat.eq_of_beq_eq_true hb.1.1.1.2
  have hzl := Nat.eq_of_beq_eq_true hb.1.1.2
  have hby1 := Nat.le_of_ble_eq_true hb.1.2
  have hoff := Nat.eq_of_beq_eq_true hb.2
  subst hoff
  subst hksz
  obtain ⟨zv, hzrun, rfl, i, hi, hiz⟩ := zeroT_run hz w
  have hisz : i.size = k := by
    obtain ⟨i', hi', e'⟩ := sizeT_info hn
    rw [hi] at hi'; cases hi'; exact e'
  have hiby : i.bytes = by_ := by
    obtain ⟨i', hi', e'⟩ := bytesT_info hby
    rw [hi] at hi'; cases hi'; exact e'
  subst hisz
  subst hiby
  have hzs : zv.cells.size = i.size := by simpa using hzl
  obtain ⟨d, hu', hkind⟩ : ∃ d, P.underlying t' = some d ∧ ((∃ e', d = .slice e') ∨ d = .string) := by
    unfold srcKind at hsk
    split at hsk
    · rename_i e' hu'; exact ⟨_, hu', .inl ⟨_, rfl⟩⟩
    · rename_i hu'; exact ⟨_, hu', .inr rfl⟩
    · cases hsk
  split at hq1
  case h_2 => exact hq1.elim
  case h_1 sz' s ho =>
  obtain ⟨hb2, hq0⟩ := chk_elim hq1
  clear hq1
  have hsz' := Nat.eq_of_beq_eq_true hb2
  subst hsz'
  obtain ⟨s', hq2, hsrcs⟩ := appendedP_elim hr hn1 hq0 hv1 hu' hkind
  clear hq0
  obtain ⟨hone, hq3⟩ := onesP_elim hq2
  clear hq2
  obtain ⟨⟨hn2, hfit⟩, hK⟩ := needP_elim hq3
  clear hq3
  rw [Seq.len_eq] at hn2 hfit
  subst hn2
  obtain ⟨vals', hsrc, hc'⟩ := hsrcs hone
  have hsum : s.toList.length + s'.toList.length ≤ 140737488351232 := Nat.le_trans (Nat.le_mul_of_pos_right _ hby1) hfit
  rw [Seq.len_eq] at hK
  cases hv0 with
  | msl _ _ _ _ b cap hl hle hcb =>
  obtain ⟨cs, Tb, fr, hbase, hext, hbk, hsoftE, hds, hdz, hdc⟩ := obj_arr hr hl ho
  have hsoft := hsoftE.1
  have hfite : cap * i.size = cs.size := by
    obtain ⟨cs2, T2, fr2, e2, h2⟩ := hcb
    rw [hbk] at e2; cases e2
    rw [Nat.zero_add] at h2; exact h2
  have hfitb : cap * i.size ≤ cs.size := Nat.le_of_eq hfite
  rw [Nat.zero_mul]
  have hc : Cells M w loc s.toList.length i.size s.toList (fun i' j => (cs[i' * i.size + j]?).getD undef) := by
    refine ⟨rfl, hdz, fun a j ha hj => ?_⟩
    obtain ⟨v, hv1, hv2⟩ := hdc a j ha hj
    simp only [hv1, Option.getD_some]; exact hv2
  have hnl : (flatVals s'.toList.length i.size vals').length = s'.toList.length * i.size := flatVals_length _ _ _
  by_cases hroom : s.toList.length + s'.toList.length ≤ cap
  · -- in place
    have hle2 : (s.toList.length + s'.toList.length) * i.size ≤ cap * i.size := Nat.mul_le_mul_right _ hroom
    rw [Nat.add_mul] at hle2
    have hfit2 : 0 + s.toList.length * i.size + (flatVals s'.toList.length i.size vals').length ≤ cs.size := by rw [hnl]; omega
    rw [run_append_room_all t t' T e i hu hi b 0 s.toList.length cap v1 s'.toList.length _ hsrc hroom hbk hsoft hfit2]
    have hget := storeAll_get (flatVals s'.toList.length i.size vals') cs (0 + s.toList.length * i.size)
    generalize hcs1 : storeAll cs (0 + s.toList.length * i.size) (flatVals s'.toList.length i.size vals') = cs1 at hget ⊢
    have hsz1 : cs1.size = cs.size := by rw [← hcs1]; exact storeAll_size _ _ _
    have hlt := cells_lt hbk
    have hkk : Keeps M w loc M (setBlk w b (.cells cs1 Tb fr)) loc := by
      refine ⟨fun c q v hi' => ?_, fun c cs0 T0 fr0 hc0 => ?_, fun j x hx => hx⟩
      · obtain ⟨h1, h2⟩ := hi'
        have hcb' : c ≠ b := by
          rintro rfl
          rcases h2 with h2 | h2
          · omega
          · omega
        exact ⟨by rw [cell_of_heap (setBlk_other hcb')]; exact h1, h2⟩
      · by_cases hcb' : c = b
        · subst hcb'
          rw [hbk] at hc0; cases hc0
          exact ⟨cs1, fr, setBlk_same hlt, hsz1⟩
        · exact ⟨cs0, fr0, by rw [setBlk_other hcb']; exact hc0, rfl⟩
    have hca := (hc.app hc').keeps hkk
    have hlen2 : (s.app s').toList.length = s.toList.length + s'.toList.length := by rw [app_toList, List.length_append]
    obtain ⟨r1, r2⟩ := hr.write id b (.arr i.size s) (.arr i.size (s.app s')) (.cells cs1 Tb fr) ho (by intro h; cases h) hl
      (fun cs0 T0 fr0 hc0 => by rw [hbk] at hc0; cases hc0; exact ⟨cs1, fr, rfl, hsz1⟩)
      ⟨b, cs1, Tb, fr, rfl, hbase, hext, setBlk_same hlt, ⟨fun q hq => hsoft q (by omega), fun hz => by rw [hsz1]; exact hsoftE.2 hz⟩, by rw [hlen2, hsz1, Nat.add_mul]; omega, fun a ha => hca.each a ha, fun a j ha hj => by
        have hin : a < s.toList.length + s'.toList.length := by rw [← hlen2]; exact ha
        have hjn : j < i.size := by rw [← hca.each a ha]; exact hj
        have h9 := Nat.mul_le_mul_right i.size (show a + 1 ≤ s.toList.length + s'.toList.length from hin)
        rw [Nat.succ_mul] at h9
        refine ⟨_, ?_, hca.rel a j ha hj⟩
        rw [hget _ hfit2]
        by_cases hal : a < s.toList.length
        · have h8 := Nat.mul_le_mul_right i.size (show a + 1 ≤ s.toList.length from hal)
          rw [Nat.succ_mul] at h8
          rw [if_neg (by omega), if_pos hal]
          obtain ⟨v, hv1, _⟩ := hdc a j hal (by rw [hdz]; exact hjn)
          rw [hv1]; rfl
        · have h8 := Nat.mul_le_mul_right i.size (show s.toList.length ≤ a by omega)
          rw [if_pos (by rw [hnl]; rw [Nat.add_mul] at h9; omega), if_neg hal]
          have := flatVals_get (vals := vals') (n := s'.toList.length) (i := a - s.toList.length) (j := j) (sz := i.size) (by omega) hjn
          rw [← this]
          congr 1
          rw [Nat.sub_mul]; omega⟩
    obtain ⟨r3, r4⟩ := r1.move id (.arr i.size (s.app s')) (.blk b) (by rw [List.getElem?_set_self]; exact (List.getElem?_eq_some_iff.1 ho).1) (by intro h; cases h) hl
    simp only [List.length_set, List.set_set] at r3 r4
    have hg := VRel.msl (M := M) (w := setBlk w b (.cells cs1 Tb fr)) (loc := locSet loc H.length (.blk b)) i.size H.length 0 (s.toList.length + s'.toList.length) b cap (by simp [locSet]) hroom
      ⟨cs1, Tb, fr, setBlk_same hlt, by rw [Nat.zero_add, hsz1]; exact hfite⟩
    rw [Nat.zero_mul] at hg
    exact ⟨_, _, _, _, _, _, rfl, hK, r3, hg, r2.trans r4⟩
  · have hlen : (H.set id .gone).length = H.length := by simp
    refine GoodV.drop_first id hr ?_
    refine append_grow_arr (ty := T) hu hi hiz hzs hn1 (hr.drop id).1 hc ?_ hsrc hc' (by omega) hfit (by omega) (by rw [hlen]; exact hK)
    refine run_firstCells_some w.drew i.size _ _ _ _ _ (flatVals_length _ _ _) ?_
    intro j v hj
    have hjl : j < s.toList.length * i.size := by
      have := (List.getElem?_eq_some_iff.1 hj).1
      rwa [flatVals_length] at this
    have hi2 : j / i.size < s.toList.length := Nat.div_lt_of_lt_mul (by rwa [Nat.mul_comm] at hjl)
    have hm : j % i.size < i.size := Nat.mod_lt _ (by omega)
    have e2 : j / i.size * i.size + j % i.size = j := by rw [Nat.mul_comm]; exact Nat.div_add_mod j _
    have hg := flatVals_get (vals := (fun i' j => (cs[i' * i.size + j]?).getD undef)) hi2 hm
    rw [e2] at hg
    rw [hg] at hj
    cases hj
    obtain ⟨v, hv1, _⟩ := hdc (j / i.size) (j % i.size) hi2 (by rw [hdz]; exact hm)
    rw [e2] at hv1
    have hbk' : w.drew.heap[b]? = some (.cells cs Tb fr) := hbk
    rw [add_mk, Nat.zero_add, cell_eq hbk', hv1]; rfl

end
end Go.Ab
end

section
/- Append of a row's own elements in place, and clear, are sound; a row that may be written gets a token. -/

set_option linter.unusedVariables false
set_option linter.unusedSimpArgs false
namespace Go.Ab
section
variable {P : Program} {M : Mem} {loc : Locs} {H : List AObj} {w : World} {K : AV → List AObj → Prop}

/-- a row with other elements from a place on -/
theorem write_row (hr : Rel M loc H w) {id n b off : Nat} {d s : Seq} {vals' : Nat → Nat → Value} (ho : H[id]? = some (.arr n d)) (hl : loc id = some (.blk b)) (hn1 : 1 ≤ n) (hc' : Cells M w loc s.toList.length n s.toList vals')
    (hfit : off + s.toList.length ≤ d.toList.length) :
    ∃ (cs : Array Value) (T' : TypeId) (fr : Nat × Nat), w.heap[b]? = some (.cells cs T' fr) ∧ soft cs fr ∧ off * n + (flatVals s.toList.length n vals').length ≤ cs.size ∧
      Rel M loc (H.set id (.arr n (copied d off s))) (setBlk w b (.cells (storeAll cs (off * n) (flatVals s.toList.length n vals')) T' fr)) ∧
      Step M loc H w M loc (H.set id (.arr n (copied d off s))) (setBlk w b (.cells (storeAll cs (off * n) (flatVals s.toList.length n vals')) T' fr)) := by
  obtain ⟨cs, T', fr, h1, h2, hbk, hsoftE, hds, hdz, hdc⟩ := obj_arr hr hl ho
  have hsoft := hsoftE.1
  have hm1 : (off + s.toList.length) * n ≤ d.toList.length * n := Nat.mul_le_mul_right n hfit
  rw [Nat.add_mul] at hm1
  have hnl : (flatVals s.toList.length n vals').length = s.toList.length * n := flatVals_length _ _ _
  have hfit2 : off * n + (flatVals s.toList.length n vals').length ≤ cs.size := by rw [hnl]; omega
  have hlt := cells_lt hbk
  have hget := storeAll_get (flatVals s.toList.length n vals') cs (off * n)
  have hkeep : Keeps M w loc M (setBlk w b (.cells (storeAll cs (off * n) (flatVals s.toList.length n vals')) T' fr)) loc := by
    refine ⟨?_, ?_, fun _ _ h => h⟩
    · intro c k v hi
      by_cases e : c = b
      · subst e; rcases hi.2 with q | q <;> omega
      · exact ⟨by rw [cell_of_heap (setBlk_other e)]; exact hi.1, hi.2⟩
    · intro c ds T2 fr' hc2
      by_cases e : c = b
      · subst e; rw [hbk] at hc2; cases hc2
        exact ⟨_, fr, setBlk_same hlt, by rw [storeAll_size]⟩
      · exact ⟨ds, fr', by rw [setBlk_other e]; exact hc2, rfl⟩
  have hcl : (copied d off s).toList.length = d.toList.length := by
    simp only [copied, Seq.toList, List.length_append, List.length_take, List.length_drop]; omega
  have hcget : ∀ k (hk : k < (copied d off s).toList.length), (∃ h1 : off ≤ k, ∃ h2 : k - off < s.toList.length, (copied d off s).toList[k] = s.toList[k - off]) ∨
      ((k < off ∨ off + s.toList.length ≤ k) ∧ ∃ h : k < d.toList.length, (copied d off s).toList[k] = d.toList[k]) := by
    intro k hk
    have hkd : k < d.toList.length := by rw [← hcl]; exact hk
    have hg : (copied d off s).toList[k]? = some (copied d off s).toList[k] := List.getElem?_eq_getElem hk
    simp only [copied, Seq.toList] at hg ⊢
    by_cases c1 : k < off
    · right; refine ⟨.inl c1, hkd, ?_⟩
      rw [List.getElem?_append_left (by simp; omega), List.getElem?_take, if_pos c1, List.getElem?_eq_getElem hkd] at hg
      exact (Option.some.inj hg).symm
    · have hmn : min off d.toList.length = off := by omega
      rw [List.getElem?_append_right (by simp; omega)] at hg
      simp only [List.length_take, hmn] at hg
      by_cases c2 : k - off < s.toList.length
      · left; refine ⟨by omega, c2, ?_⟩
        rw [List.getElem?_append_left c2, List.getElem?_eq_getElem c2] at hg
        exact (Option.some.inj hg).symm
      · right; refine ⟨.inr (by omega), hkd, ?_⟩
        rw [List.getElem?_append_right (by omega), List.getElem?_drop] at hg
        rw [show off + s.toList.length + (k - off - s.toList.length) = k by omega, List.getElem?_eq_getElem hkd] at hg
        exact (Option.some.inj hg).symm
  have heach : ∀ k (hk : k < (copied d off s).toList.length), (copied d off s).toList[k].length = n := by
    intro k hk
    rcases hcget k hk with ⟨_, h2, e⟩ | ⟨_, h, e⟩
    · rw [e]; exact hc'.each _ h2
    · rw [e]; exact hdz k h
  have hfin : ∀ k j (hk : k < (copied d off s).toList.length) (hj : j < (copied d off s).toList[k].length),
      ∃ v, (storeAll cs (off * n) (flatVals s.toList.length n vals'))[k * n + j]? = some v ∧ VRel M (setBlk w b (.cells (storeAll cs (off * n) (flatVals s.toList.length n vals')) T' fr)) loc (copied d off s).toList[k][j] v := by
    intro k j hk hj
    have hjn : j < n := by rw [← heach k hk]; exact hj
    rcases hcget k hk with ⟨g1, g2, e⟩ | ⟨g1, g2, e⟩
    · have h8 := Nat.mul_le_mul_right n (show k - off + 1 ≤ s.toList.length from g2)
      rw [Nat.succ_mul, Nat.sub_mul] at h8
      have h9 := Nat.mul_le_mul_right n g1
      rw [hget _ hfit2, if_pos (by rw [hnl]; omega)]
      refine ⟨vals' (k - off) j, ?_, ?_⟩
      · have := flatVals_get (vals := vals') (n := s.toList.length) (i := k - off) (j := j) (sz := n) g2 hjn
        rw [← this]; congr 1; rw [Nat.sub_mul]; omega
      · have := hc'.rel (k - off) j g2 (by rw [← e]; exact hj)
        simp only [e]; exact this.keeps hkeep
    · obtain ⟨v, hv1, hv2⟩ := hdc k j g2 (by rw [← e]; exact hj)
      refine ⟨v, ?_, ?_⟩
      · rw [hget _ hfit2, if_neg ?_]
        · exact hv1
        · rw [hnl]
          rcases g1 with g1 | g1
          · have h8 := Nat.mul_le_mul_right n (show k + 1 ≤ off from g1)
            rw [Nat.succ_mul] at h8; omega
          · have h8 := Nat.mul_le_mul_right n g1
            rw [Nat.add_mul] at h8; omega
      · simp only [e]; exact hv2.keeps hkeep
  obtain ⟨r1, r2⟩ := hr.write id b (.arr n d) (.arr n (copied d off s)) (.cells (storeAll cs (off * n) (flatVals s.toList.length n vals')) T' fr) ho (by intro h; cases h) hl
    (fun ds T2 fr' hd => by rw [hbk] at hd; cases hd; exact ⟨_, fr, rfl, by rw [storeAll_size]⟩)
    ⟨b, _, T', fr, rfl, h1, h2, setBlk_same hlt, ⟨fun k hk => hsoft k (by rwa [storeAll_size] at hk), fun hz => by rw [storeAll_size]; exact hsoftE.2 hz⟩, by rw [storeAll_size, hcl]; exact hds, heach, hfin⟩
  exact ⟨cs, T', fr, hbk, hsoft, hfit2, r1, r2⟩

theorem aappendI_sound {ts : Array TypeId} {T : TypeId} {xs : List AV} {vs : Array Value} (h : aappendI P ts.toList xs H K) (hr : Rel M loc H w) (hv : VRels M w loc xs vs) :
    GoodV P M loc H w K ((Builtin.append_ ts T vs).run P w) := by
  unfold aappendI at h
  split at h
  case h_2 => exact h.elim
  case h_1 t t' sz id off len x hts =>
  have hts' : ts = #[t, t'] := extract2 _ _ _ hts
  subst hts'
  obtain ⟨hs, hv⟩ := hv
  have hv0 := hv 0 (by simp)
  have hv1 := hv 1 (by simp)
  simp only [List.getElem_cons_zero, List.getElem_cons_succ] at hv0 hv1
  have hvs : vs = #[vs[0]'(by simp at hs; omega), vs[1]'(by simp at hs; omega)] := by
    apply Array.ext
    · simpa using hs
    · intro i h1 h2
      have : i < 2 := by simpa using h2
      match i, this with
      | 0, _ => rfl
      | 1, _ => rfl
  generalize vs[0]'(by simp at hs; omega) = v0 at hv0 hvs
  generalize vs[1]'(by simp at hs; omega) = v1 at hv1 hvs
  subst hvs
  clear hv hs
  split at h
  case h_2 => exact h.elim
  case h_1 e sz' d hu hsk ho =>
  split at h
  case h_2 => exact h.elim
  case h_1 n hn =>
  obtain ⟨hb, hq1⟩ := chk_elim h
  clear h
  simp only [Bool.and_eq_true] at hb
  have e1 := Nat.eq_of_beq_eq_true hb.1.1
  have e2 := Nat.eq_of_beq_eq_true hb.1.2
  have hn1 := Nat.le_of_ble_eq_true hb.2
  subst e1
  subst e2
  obtain ⟨i, hi, hisz⟩ := sizeT_info hn
  subst hisz
  obtain ⟨dd, hu', hkind⟩ : ∃ d, P.underlying t' = some d ∧ ((∃ e', d = .slice e') ∨ d = .string) := by
    unfold srcKind at hsk
    split at hsk
    · rename_i e' hu'; exact ⟨_, hu', .inl ⟨_, rfl⟩⟩
    · rename_i hu'; exact ⟨_, hu', .inr rfl⟩
    · cases hsk
  obtain ⟨s, hq2, hsrcs⟩ := appendedP_elim hr hn1 hq1 hv1 hu' hkind
  clear hq1
  obtain ⟨hone, hq3⟩ := onesP_elim hq2
  clear hq2
  obtain ⟨hfit, hK⟩ := needP_elim hq3
  clear hq3
  rw [Seq.len_eq, Seq.len_eq] at hfit
  rw [Seq.len_eq] at hK
  obtain ⟨vals', hsrc, hc'⟩ := hsrcs hone
  cases hv0 with
  | msl _ _ _ _ b cap hl hle hcb =>
  obtain ⟨cs, T', fr, hbk, hsoft, hfit2, r1, r2⟩ := write_row hr (off := off + len) ho hl hn1 hc' (by omega)
  obtain ⟨cs2, T2, fr2, e2, h2⟩ := hcb
  rw [hbk] at e2; cases e2
  have hds : d.toList.length * i.size ≤ cs.size := by
    obtain ⟨cs3, T3, fr3, _, _, e3, _, h3, _⟩ := obj_arr hr hl ho
    rw [hbk] at e3; cases e3; exact h3
  have hroom : len + s.toList.length ≤ cap := by
    rw [← h2] at hds
    have := Nat.le_of_mul_le_mul_right hds (by omega)
    omega
  rw [Nat.add_mul] at hfit2
  rw [run_append_room_all t t' T e i hu hi b (off * i.size) len cap v1 s.toList.length _ hsrc hroom hbk hsoft hfit2]
  rw [← Nat.add_mul]
  have hlt := cells_lt hbk
  exact ⟨_, _, _, _, M, loc, rfl, hK, r1, .msl _ _ _ _ b cap hl (by omega) ⟨_, T', fr, setBlk_same hlt, by rw [storeAll_size]; exact h2⟩, r2⟩

theorem aclear_sound {ts : Array TypeId} {T : TypeId} {xs : List AV} {vs : Array Value} (h : aclear P ts.toList xs H K) (hr : Rel M loc H w) (hv : VRels M w loc xs vs) :
    GoodV P M loc H w K ((Builtin.clear_ ts T vs).run P w) := by
  unfold aclear at h
  split at h
  case h_2 => exact h.elim
  case h_1 t sz id off len hts =>
  have hts' : ts = #[t] := by
    obtain ⟨l⟩ := ts
    simp only at hts
    subst hts; rfl
  subst hts'
  obtain ⟨hs, hv⟩ := hv
  have hv0 := hv 0 (by simp)
  simp only [List.getElem_cons_zero] at hv0
  have hvs : vs = #[vs[0]'(by simp at hs; omega)] := by
    apply Array.ext
    · simpa using hs
    · intro i h1 h2
      have : i < 1 := by simpa using h2
      match i, this with
      | 0, _ => rfl
  generalize vs[0]'(by simp at hs; omega) = v0 at hv0 hvs
  subst hvs
  clear hv hs
  split at h
  case h_2 => exact h.elim
  case h_1 e sz' d hu ho =>
  split at h
  case h_2 => exact h.elim
  case h_1 n z hn hz =>
  obtain ⟨hb, hq1⟩ := chk_elim h
  clear h
  simp only [Bool.and_eq_true] at hb
  have e1 := Nat.eq_of_beq_eq_true hb.1.1.1.1
  have e2 := Nat.eq_of_beq_eq_true hb.1.1.1.2
  have hn1 := Nat.le_of_ble_eq_true hb.1.1.2
  have hzl := Nat.eq_of_beq_eq_true hb.1.2
  have hzo := hb.2
  subst e1
  subst e2
  obtain ⟨hfit, hK⟩ := needP_elim hq1
  rw [Seq.len_eq] at hfit
  obtain ⟨zv, hzrun, rfl, i, hi, hiz⟩ := zeroT_run hz w
  have hzs : zv.cells.size = n := by simpa using hzl
  have pair : VRel M w loc (.tup []) (.tuple #[]) := .tup _ _ rfl (fun i hi => by simp at hi)
  cases hv0 with
  | msl _ _ _ _ b cap hl hle hcb =>
  have hlen : (Seq.raw (List.replicate len (zv.cells.toList.map ofCell))).toList.length = len := by simp [Seq.toList]
  have hzcell : ∀ j (hj : j < zv.cells.size), VRel M w loc (ofCell zv.cells[j]) zv.cells[j]! := by
    intro j hj
    rw [getElem!_pos zv.cells j hj]
    exact vrel_cell _
  have hc' : Cells M w loc (Seq.raw (List.replicate len (zv.cells.toList.map ofCell))).toList.length n (Seq.raw (List.replicate len (zv.cells.toList.map ofCell))).toList (fun _ j => zv.cells[j]!) := by
    refine ⟨rfl, fun i hi => ?_, fun i j hi hj => ?_⟩
    · simp only [Seq.toList, List.getElem_replicate, List.length_map, Array.length_toList]; exact hzs
    · simp only [Seq.toList, List.getElem_replicate, List.length_map, Array.length_toList] at hj
      simp only [Seq.toList, List.getElem_replicate, List.getElem_map, Array.getElem_toList]
      exact hzcell j hj
  obtain ⟨cs, T', fr, hbk, hsoft, hfit2, r1, r2⟩ := write_row hr (off := off) ho hl hn1 hc' (by rw [hlen]; exact hfit)
  rw [hlen] at hfit2 r1 r2
  by_cases h0 : len = 0
  · subst h0
    have e : (Builtin.clear_ #[t] T #[.slice (some ⟨b, off * n, none⟩) 0 cap]).run P w = .ok (.tuple #[]) w := by simp [Builtin.clear_, run_underlying' hu]
    rw [e]
    have hf : flatVals 0 n (fun _ j => zv.cells[j]!) = [] := by simp [flatVals]
    rw [hf] at r1 r2
    simp only [storeAll, setBlk_self hbk] at r1 r2
    exact ⟨_, _, _, _, M, loc, rfl, hK, r1, pair, r2⟩
  · have hdone : True := trivial
    have hflat : flatVals len n (fun _ j => zv.cells[j]!) = (Builtin.zeroCells zv.cells len).toList := by
      simp only [flatVals, Builtin.zeroCells, Array.toList_map, Array.toList_range, hzs]
    rw [hflat] at hfit2 r1 r2
    have hst := run_storeAll P b (off * n) T' fr (Builtin.zeroCells zv.cells len).toList 0 cs w hbk hsoft (by omega) (by
      intro v hv
      simp only [Builtin.zeroCells, Array.toList_map, Array.toList_range, List.mem_map, List.mem_range] at hv
      obtain ⟨k, hk, rfl⟩ := hv
      have hp : 0 < zv.cells.size := by omega
      have hm : k % zv.cells.size < zv.cells.size := Nat.mod_lt _ hp
      refine oneCell_of (M := M) (w := w) (loc := loc) (a := ofCell zv.cells[k % zv.cells.size]) ?_ (hzcell _ hm)
      exact List.all_eq_true.1 hzo _ (List.mem_map.2 ⟨_, Array.getElem_mem_toList hm, rfl⟩))
    simp only [Nat.add_zero] at hst
    have e : (Builtin.clear_ #[t] T #[.slice (some ⟨b, off * n, none⟩) len cap]).run P w = .ok (.tuple #[]) (setBlk w b (.cells (storeAll cs (off * n) (Builtin.zeroCells zv.cells len).toList) T' fr)) := by
      obtain ⟨k, rfl⟩ := Nat.exists_eq_succ_of_ne_zero h0
      simp [Builtin.clear_, run_underlying' hu, hzrun, hst]
    rw [e]
    exact ⟨_, _, _, _, M, loc, rfl, hK, r1, .tup _ _ rfl (fun i hi => by simp at hi), r2⟩

end
end Go.Ab
end

section
/- A row's capacity, append of zeros, copy of a part, slices.overlaps are sound. -/

set_option linter.unusedVariables false
set_option linter.unusedSimpArgs false
namespace Go.Ab
section
variable {P : Program} {M : Mem} {loc : Locs} {H : List AObj} {w : World} {K : AV → List AObj → Prop}

theorem two_vals {xs : List AV} {vs : Array Value} {a b : AV} (h : VRels M w loc [a, b] vs) : ∃ u v, vs = #[u, v] ∧ VRel M w loc a u ∧ VRel M w loc b v := by
  obtain ⟨hs, hv⟩ := h
  have hv0 := hv 0 (by simp)
  have hv1 := hv 1 (by simp)
  simp only [List.getElem_cons_zero, List.getElem_cons_succ] at hv0 hv1
  refine ⟨vs[0]'(by simp at hs; omega), vs[1]'(by simp at hs; omega), ?_, hv0, hv1⟩
  apply Array.ext
  · simpa using hs
  · intro i h1 h2
    have : i < 2 := by simpa using h2
    match i, this with
    | 0, _ => rfl
    | 1, _ => rfl

theorem one_val {vs : Array Value} {a : AV} (h : VRels M w loc [a] vs) : ∃ u, vs = #[u] ∧ VRel M w loc a u := by
  obtain ⟨hs, hv⟩ := h
  have hv0 := hv 0 (by simp)
  simp only [List.getElem_cons_zero] at hv0
  refine ⟨vs[0]'(by simp at hs; omega), ?_, hv0⟩
  apply Array.ext
  · simpa using hs
  · intro i h1 h2
    have : i < 1 := by simpa using h2
    match i, this with
    | 0, _ => rfl

theorem VRels.two {a b : AV} {u v : Value} (h : VRel M w loc a u) (k : VRel M w loc b v) : VRels M w loc [a, b] #[u, v] := by
  refine ⟨rfl, fun i hi => ?_⟩
  have : i < 2 := by simpa using hi
  match i, this with
  | 0, _ => exact h
  | 1, _ => exact k

theorem acopyM_sound {ts : Array TypeId} {T : TypeId} {xs : List AV} {vs : Array Value} (h : acopyM P ts.toList xs H K) (hr : Rel M loc H w) (hv : VRels M w loc xs vs) :
    GoodV P M loc H w K ((Builtin.copy_ ts T vs).run P w) := by
  unfold acopyM at h
  split at h
  case h_2 => exact acopy_sound (T := T) h hr hv
  case h_1 sz id off len sz' id' off' len' =>
  obtain ⟨v0, v1, rfl, h0, h1⟩ := two_vals (xs := []) hv
  cases h0 with
  | msl _ _ _ _ b cap hl hle hc =>
  cases h1 with
  | msl _ _ _ _ b' cap' hl' hle' hc' =>
  have hmin : min len' len ≤ cap' := by omega
  have hg := acopy_sound (T := T) h hr (VRels.two (VRel.msl sz id off len b cap hl hle hc) (VRel.msl sz' id' off' (min len' len) b' cap' hl' hmin hc'))
  have e : (Builtin.copy_ ts T #[.slice (some ⟨b, off * sz, none⟩) len cap, .slice (some ⟨b', off' * sz', none⟩) len' cap']).run P w =
      (Builtin.copy_ ts T #[.slice (some ⟨b, off * sz, none⟩) len cap, .slice (some ⟨b', off' * sz', none⟩) (min len' len) cap']).run P w := by
    have : Nat.min (min len' len) len = Nat.min len' len := by
      show min (min len' len) len = min len' len
      omega
    unfold Builtin.copy_
    simp only [Builtin.lenOf, pure_bind, Builtin.firstCells]
    congr 1
    cases ts[0]? with
    | none => rfl
    | some t => simp [this]
  rw [e]; exact hg

theorem acap_sound {ts : Array TypeId} {T : TypeId} {xs : List AV} {vs : Array Value} (h : acap P ts.toList xs H K) (hr : Rel M loc H w) (hv : VRels M w loc xs vs) :
    GoodV P M loc H w K ((Builtin.cap_ ts T vs).run P w) := by
  unfold acap at h
  split at h
  case h_2 => exact h.elim
  case h_1 t sz id off len hts =>
  have hts' : ts = #[t] := by
    obtain ⟨l⟩ := ts
    simp only at hts
    subst hts; rfl
  subst hts'
  obtain ⟨v0, rfl, h0⟩ := one_val hv
  split at h
  case h_2 => exact h.elim
  case h_1 e sz' s hu ho =>
  obtain ⟨hb, hk⟩ := chk_elim h
  rw [Bool.and_eq_true] at hb
  have e1 := Nat.eq_of_beq_eq_true hb.1
  have hs1 := Nat.le_of_ble_eq_true hb.2
  subst e1
  cases h0 with
  | msl _ _ _ _ b cap hl hle hc =>
  have hro := hr.objs id _ ho
  obtain ⟨b', vs', T', fr', g1, g2, g3, g4, g5, g6, g7, g8⟩ := hro
  rw [hl] at g1; cases g1
  obtain ⟨cs, Tc, frc, c1, c2⟩ := hc
  rw [g4] at c1; cases c1
  have hcap : s.toList.length ≤ off + cap := by
    rw [← c2] at g6
    exact Nat.le_of_mul_le_mul_right g6 (show 0 < sz by omega)
  have hK := hk cap ⟨hle, by rw [Seq.len_eq]; exact hcap⟩
  rw [Seq.len_eq] at hK
  have hrun : (Builtin.cap_ #[t] T #[.slice (some ⟨b, off * sz, none⟩) len cap]).run P w = .ok (.int .i64 cap) w := by
    simp [Builtin.cap_, run_underlying' hu, goInt]
  rw [hrun]
  have hlen : (s.app (bads sz (off + cap - s.toList.length))).toList.length = off + cap := by
    simp [Seq.toList, bads]; omega
  obtain ⟨r1, r2⟩ := hr.respell id (.arr sz s) (.arr sz (s.app (bads sz (off + cap - s.toList.length)))) ho (by intro h; cases h) (by intro h; cases h) (fun _ => by
    rw [hl]
    refine ⟨b, vs', T', fr', rfl, g2, g3, g4, g5, by rw [hlen, c2]; exact Nat.le_refl _, fun i hi => ?_, fun i j hi hj => ?_⟩
    · simp only [Seq.toList, bads] at hi ⊢
      by_cases hi2 : i < s.toList.length
      · rw [List.getElem_append_left hi2]; exact g7 i hi2
      · rw [List.getElem_append_right (by omega)]; simp
    · simp only [Seq.toList, bads] at hi hj ⊢
      by_cases hi2 : i < s.toList.length
      · rw [List.getElem_append_left hi2] at hj
        obtain ⟨v, q1, q2⟩ := g8 i j hi2 hj
        refine ⟨v, q1, ?_⟩
        simp only [List.getElem_append_left hi2]
        exact q2
      · rw [List.getElem_append_right (by omega)] at hj
        have hj2 : j < sz := by simpa using hj
        have hi3 : i < off + cap := by rw [← hlen]; exact hi
        have h3 := Nat.mul_le_mul_right sz (show i + 1 ≤ off + cap from hi3)
        rw [Nat.succ_mul] at h3
        refine ⟨vs'[i * sz + j]'(by omega), Array.getElem?_eq_getElem (by omega), ?_⟩
        simp only [List.getElem_append_right (show s.toList.length ≤ i by omega), List.getElem_replicate]
        exact .bad _)
  obtain ⟨r3, r4⟩ := r1.ghost (.csz id sz (off + cap)) (by
    have hlt : id < (H.set id (.arr sz (s.app (bads sz (off + cap - s.toList.length))))).length := by
      rw [List.length_set]; exact (List.getElem?_eq_some_iff.1 ho).1
    refine ⟨rfl, b, vs', T', fr', ?_, g4, c2.symm⟩
    simp only [locSet]; rw [if_neg (Nat.ne_of_lt hlt)]; exact hl)
  exact ⟨_, _, _, _, _, _, rfl, hK, r3, .int _ _, r2.trans r4⟩

theorem capOf_spec (hr : Rel M loc H w) {sz id c : Nat} (h : capOf sz id H = some c) : ∃ b vs T fr, loc id = some (.blk b) ∧ w.heap[b]? = some (.cells vs T fr) ∧ vs.size = c * sz := by
  have key : ∀ (L : List AObj), (∀ o ∈ L, ∃ i : Nat, H[i]? = some o) → capOf sz id L = some c → ∃ b vs T fr, loc id = some (.blk b) ∧ w.heap[b]? = some (.cells vs T fr) ∧ vs.size = c * sz := by
    intro L
    induction L with
    | nil => intro _ h; cases h
    | cons o L ih =>
      intro hm h
      have hm' : ∀ o ∈ L, ∃ i : Nat, H[i]? = some o := fun o ho => hm o (List.mem_cons_of_mem _ ho)
      cases o with
      | csz id' sz' c' =>
        simp only [capOf] at h
        cases hq : (Nat.beq id' id && Nat.beq sz' sz) with
        | true =>
          rw [hq] at h
          simp only [cond_true, Option.some.injEq] at h
          have h9 := h
          clear h
          rw [Bool.and_eq_true] at hq
          have e1 := Nat.eq_of_beq_eq_true hq.1
          have e2 := Nat.eq_of_beq_eq_true hq.2
          subst e1 e2 h9
          obtain ⟨i, hi⟩ := hm _ (List.mem_cons_self ..)
          exact (hr.objs i _ hi).2
        | false => rw [hq] at h; exact ih hm' h
      | _ => exact ih hm' h
  exact key H (fun o ho => List.getElem?_of_mem ho) h

theorem aappendZ_sound {ts : Array TypeId} {T : TypeId} {xs : List AV} {vs : Array Value} (h : aappendZ P ts.toList xs H K) (hr : Rel M loc H w) (hv : VRels M w loc xs vs) :
    GoodV P M loc H w K ((Builtin.append_ ts T vs).run P w) := by
  unfold aappendZ at h
  split at h
  case h_2 => exact h.elim
  case h_1 t t' sz id off n kq m hts =>
  have hts' : ts = #[t, t'] := extract2 _ _ _ hts
  subst hts'
  obtain ⟨v0, v1, rfl, h0, h1⟩ := two_vals (xs := []) hv
  split at h
  case h_2 => exact h.elim
  case h_1 e kn sz' s c hu hu' ho hcap =>
  split at h
  case h_2 => exact h.elim
  case h_1 k by_ z hk hby hz =>
  obtain ⟨hb, h9⟩ := chk_elim h
  simp only [Bool.and_eq_true] at hb
  have hk1 := Nat.le_of_ble_eq_true hb.1.1.1.1
  have e1 := Nat.eq_of_beq_eq_true hb.1.1.1.2
  have e2 := Nat.eq_of_beq_eq_true hb.1.1.2
  have hzl := Nat.eq_of_beq_eq_true hb.1.2
  have hby1 := Nat.le_of_ble_eq_true hb.2
  subst e1
  subst e2
  obtain ⟨⟨hm0, hoff, hgrow, hfit⟩, hK⟩ := needP_elim h9
  rw [Seq.len_eq] at hoff
  cases h1
  obtain ⟨mm, rfl⟩ := Int.eq_ofNat_of_zero_le (Int.le_of_lt hm0)
  rw [Int.toNat_natCast] at hgrow hfit hK
  have hmm : 0 < mm := by omega
  obtain ⟨i, hi, hisz⟩ := sizeT_info hk
  obtain ⟨i2, hi2, hiby⟩ := bytesT_info hby
  rw [hi] at hi2; cases hi2
  subst hisz
  subst hiby
  obtain ⟨zv, hzrun, rfl, i3, hi3, hiz⟩ := zeroT_run hz w
  rw [hi] at hi3; cases hi3
  have hzs : zv.cells.size = i.size := by simpa using hzl
  cases h0 with
  | msl _ _ _ _ b cap hl hle hc =>
  obtain ⟨b2, vs2, T2, fr2, k1, k2, k3⟩ := capOf_spec hr hcap
  rw [hl] at k1; cases k1
  obtain ⟨cs, Tc, frc, c1, c2⟩ := hc
  rw [k2] at c1; cases c1
  have hce : off + cap = c := by
    rw [k3] at c2
    exact Nat.eq_of_mul_eq_mul_right (by omega) c2
  have hcn : cap < n + mm := by omega
  obtain ⟨cs', T', fr', q1, q2, q3, q4, q5, q6, q7⟩ := obj_arr hr hl ho
  rw [k2] at q3; cases q3
  have hlsub : (s.sub off (off + n)).toList.length = n := by rw [Seq.sub_toList]; simp; omega
  have hget : ∀ j (hj : j < (s.sub off (off + n)).toList.length), ∃ hj' : off + j < s.toList.length, (s.sub off (off + n)).toList[j] = s.toList[off + j] := by
    intro j hj
    have hj2 : off + j < s.toList.length := by omega
    refine ⟨hj2, ?_⟩
    have e5 : (s.sub off (off + n)).toList[j]? = some s.toList[off + j] := by
      rw [Seq.sub_toList, List.getElem?_drop, List.getElem?_take, if_pos (by omega), List.getElem?_eq_getElem hj2]
    rw [List.getElem?_eq_getElem hj] at e5
    exact Option.some.inj e5
  have hcl : Cells M w loc n i.size (s.sub off (off + n)).toList (fun a j => vs2.getD ((off + a) * i.size + j) undef) := by
    refine ⟨hlsub, fun a ha => ?_, fun a j ha hj => ?_⟩
    · obtain ⟨h1, h2⟩ := hget a ha
      rw [h2]; exact q6 _ h1
    · obtain ⟨h1, h2⟩ := hget a ha
      obtain ⟨v, w1, w2⟩ := q7 (off + a) j h1 (by rw [← h2]; exact hj)
      simp only [h2]
      rw [Array.getD_eq_getD_getElem?, w1]
      exact w2
  have hzc : Cells M w loc mm i.size (Seq.raw (List.replicate mm (zv.cells.toList.map ofCell))).toList (fun _ j => zv.cells[j]!) := by
    refine ⟨by simp [Seq.toList], fun a ha => ?_, fun a j ha hj => ?_⟩
    · simp only [Seq.toList, List.getElem_replicate, List.length_map, Array.length_toList]; exact hzs
    · simp only [Seq.toList, List.getElem_replicate, List.length_map, Array.length_toList] at hj
      simp only [Seq.toList, List.getElem_replicate, List.getElem_map, Array.getElem_toList]
      rw [getElem!_pos zv.cells j hj]
      exact vrel_cell _
  have hnc : n * i.size = (flatVals n i.size (fun a j => vs2.getD ((off + a) * i.size + j) undef)).length := (flatVals_length _ _ _).symm
  have hcellsget : ∀ j u, (flatVals n i.size (fun a j => vs2.getD ((off + a) * i.size + j) undef))[j]? = some u → w.cell? ⟨b, off * i.size + j, none⟩ = some u := by
    intro j u hj
    have hjl : j < n * i.size := by rw [hnc]; exact (List.getElem?_eq_some_iff.1 hj).1
    unfold flatVals at hj
    rw [List.getElem?_map, List.getElem?_range hjl] at hj
    simp only [Option.map_some, Option.some.injEq] at hj
    have hj4 : j / i.size < n := Nat.div_lt_of_lt_mul (by rwa [Nat.mul_comm] at hjl)
    have e3 : (off + j / i.size) * i.size + j % i.size = off * i.size + j := by
      rw [Nat.add_mul, Nat.add_assoc]; congr 1
      rw [Nat.mul_comm]; exact Nat.div_add_mod j i.size
    rw [e3] at hj
    have hle2 : (off + n) * i.size ≤ s.toList.length * i.size := Nat.mul_le_mul_right _ hoff
    rw [Nat.add_mul] at hle2
    have hlt : off * i.size + j < vs2.size := by omega
    rw [cell_eq k2, Array.getElem?_eq_getElem hlt]
    rw [← hj]
    simp [Array.getD, hlt]
  have hold : (Builtin.firstCells i.size n (.slice (some ⟨b, off * i.size, none⟩) n cap)).run P w.drew = .ok (flatVals n i.size (fun a j => vs2.getD ((off + a) * i.size + j) undef)).toArray w.drew :=
    run_firstCells_some w.drew i.size n ⟨b, off * i.size, none⟩ n cap _ (flatVals_length _ _ _) (fun j u hj => by
      rw [Addr.add_lit]; exact hcellsget j u hj)
  have hbig : ((n + mm : Nat) : Int) ≤ 9223372036854775807 := by
    have := Nat.mul_le_mul_left (n + mm) hby1
    omega
  have hmi : mm * i.bytes ≤ (n + mm) * i.bytes := Nat.mul_le_mul_right _ (by omega)
  rw [Lib.run_append_grow_zeros w t t' T e i zv kq kn hu hu' hi hiz (some ⟨b, off * i.size, none⟩) n cap _ hold mm hmm (by omega) hcn hbig (by omega) (growslice_fits hcn (by omega))]
  have hsame := drew_same w
  have hr' := (hr.same hsame).1
  have hkd := hsame.keeps M loc
  have hca := (hcl.app hzc).keeps hkd
  have hcapge := Question.cut_ge (w := w) (n := n + mm) (o := cap) (e := e)
  have hzflat : flatVals mm i.size (fun _ j => zv.cells[j]!) = (Builtin.zeroCells zv.cells mm).toList := by
    simp only [flatVals, Builtin.zeroCells, Array.toList_map, Array.toList_range, hzs]
  have hzcs : ∀ q, (Builtin.zeroCells zv.cells q).size = q * i.size := by intro q; simp [Builtin.zeroCells, hzs]
  refine GoodV.same_first hsame hr ?_
  refine new_arr (w := w.drew) (T := e) hr' (by omega) (s := (s.sub off (off + n)).app (.raw (List.replicate mm (zv.cells.toList.map ofCell)))) (n := n + mm) hca _ hcapge ?_ ?_ hK
  · simp only [Array.size_append, List.size_toArray, flatVals_length, hzcs]
    rw [← Nat.add_mul, ← Nat.add_mul]
    congr 1
    show n + mm + (grownCap w (n + mm) cap e - (n + mm)) = grownCap w (n + mm) cap e
    omega
  · have hgc := grow_cells (n := n) (sz := i.size) (fun a j => vs2.getD ((off + a) * i.size + j) undef) mm (fun _ j => zv.cells[j]!) (by omega) (Builtin.zeroCells zv.cells (grownCap w (n + mm) cap e - (n + mm)))
    rw [hzflat] at hgc
    have e9 : ((flatVals n i.size (fun a j => vs2.getD ((off + a) * i.size + j) undef)) ++ (Builtin.zeroCells zv.cells mm).toList).toArray = (flatVals n i.size (fun a j => vs2.getD ((off + a) * i.size + j) undef)).toArray ++ Builtin.zeroCells zv.cells mm := by
      apply Array.ext'; simp
    rw [e9] at hgc
    exact hgc

theorem aextern_sound {g : FuncId} {xs : List AV} {vs : Array Value} (h : aextern P g xs H K) (hr : Rel M loc H w) (hv : VRels M w loc xs vs) :
    ∃ r : Result Value, (callFunc g vs).run P w = r.andThen (fun v w' => .ok (.value v) w') ∧ GoodV P M loc H w K r := by
  unfold aextern at h
  split at h
  case h_2 => exact h.elim
  case h_1 szv s tip sz id off len =>
  obtain ⟨v0, v1, rfl, h0, h1⟩ := two_vals (xs := []) hv
  obtain ⟨hb, h⟩ := chk_elim h
  rw [Bool.and_eq_true, Bool.and_eq_true] at hb
  obtain ⟨⟨hsm, hsz⟩, hszv⟩ := hb
  have hsz1 : sz ≠ 1 := by
    intro e; subst e; simp at hsz
  obtain ⟨⟨fn, t, e, rs, hf, hname, hbody, hnext, hfind, hu, hsize⟩, hK⟩ := needP_elim h
  refine ⟨_, run_callFunc_extern hf hname hbody hnext hfind _ w, ?_⟩
  have fin : (Extern.SlicesOverlaps.overlaps #[t, t] rs #[v0, v1]).run P w = .ok (.bool false) w := by
    unfold sameSz at hsm
    split at hsm
    case h_2 => cases hsm
    case h_1 sz' d ho =>
    rw [Bool.and_eq_true] at hsm
    have hsm1 := Nat.eq_of_beq_eq_true hsm.1
    have hsm2 := Nat.le_of_ble_eq_true hsm.2
    subst hsm1
    cases h1 with
    | msl _ _ _ _ b cap hl hle hc =>
    obtain ⟨cs, T, fr, hd1, hd2, hbk, hsoftE, hds, hdz, hdc⟩ := obj_arr hr hl ho
    have hbig := hc
    obtain ⟨cs2, T2, fr2, e2, hc2⟩ := hc
    rw [hbk] at e2; cases e2
    have hzr : ∀ w : World, (Go.sizeOf e).run P w = .ok sz w := fun w => run_sizeOf' hsize w
    have hcoll : ∀ (a : Option Addr) (la ca : Nat), (∀ a', a = some a' → la ≠ 0 → a'.block ≠ b ∧ ∃ csA TA frA, w.heap[a'.block]? = some (.cells csA TA frA) ∧ csA.size ≠ 0) →
        (Extern.SlicesOverlaps.overlaps #[t, t] rs #[.slice a la ca, .slice (some ⟨b, off * sz, none⟩) len cap]).run P w = .ok (.bool false) w := by
      intro a la ca ha
      change Sem.run P (α := Value) (do
        let some t := (#[t, t] : Array TypeId)[0]? | stuck "slices.overlaps: no parameter types"
        let .slice elem ← underlying t | stuck "slices.overlaps: slice type expected"
        let size ← sizeOf elem
        match a, (some ⟨b, off * sz, none⟩ : Option Addr) with
        | some a, some b =>
          if la = 0 ∨ len = 0 ∨ size = 0 then pure (Value.bool false)
          else if a.block != b.block && (← frozen a) && (← frozen b) then unsupported .addressObserved
          else do
            if a.block != b.block then do
              noView a; noView b
              if ← mayBeOne a b then return Value.bool ((← choose (.extern "sameAddr.stringBytes" 2)) == 1)
            pure (Value.bool (a.block == b.block && a.off < b.off + len * size && b.off < a.off + la * size))
        | _, _ => pure (Value.bool false)) w = _
      cases a with
      | none => simp [run_underlying' hu, hzr]
      | some a =>
        by_cases hz : la = 0 ∨ len = 0 ∨ sz = 0
        · simp [run_underlying' hu, hzr, hz]
        · have hla : la ≠ 0 := fun e => hz (.inl e)
          have hlb : len ≠ 0 := fun e => hz (.inr (.inl e))
          obtain ⟨hne, csA, TA, frA, hA, hAs⟩ := ha a rfl hla
          have hb1 : off * sz < cs.size := by
            have := Nat.mul_le_mul_right sz (show off + 1 ≤ off + cap by omega)
            rw [hc2, Nat.succ_mul] at this
            omega
          have hfb : w.frozen? ⟨b, off * sz, none⟩ = false := by
            have := hsoftE.1 (off * sz) hb1
            simp only [World.frozen?, hbk]
            simpa using this
          have hfe : w.frozen? ⟨b, cs.size, none⟩ = false := by
            have := hsoftE.2 hsz1
            simp only [World.frozen?, hbk]
            simpa using this
          have hnb : (a.block != b) = true := by simpa using hne
          have hnb' : (a.block == b) = false := by simpa using hne
          have hsA : w.shape? a.block = some (TA, csA.size) := by simp [World.shape?, hA]
          have hsB : w.shape? b = some (T, cs.size) := by simp [World.shape?, hbk]
          have hA0 : ∃ k, csA.size = k + 1 := ⟨csA.size - 1, by omega⟩
          obtain ⟨kA, hkA⟩ := hA0
          have hB0 : ∃ k, cs.size = k + 1 := ⟨cs.size - 1, by omega⟩
          obtain ⟨kB, hkB⟩ := hB0
          rw [hkA] at hsA
          rw [hkB] at hsB hfe
          cases hfa : w.frozen? a <;> cases hfae : w.frozen? ⟨a.block, kA + 1, none⟩ <;>
            simp [run_underlying' hu, hzr, hz, hnb, hnb', frozen, noView, viewAt, mayBeOne, stringish, shape, Sem.run, hsA, hsB, hfa, hfb, hfe, hfae, hne]
    cases h0 with
    | slnil _ _ _ h1 h2 => exact hcoll none 0 0 (fun a' h => by cases h)
    | slz _ _ _ ad h1 hn h2 => exact hcoll (some ad) 0 0 (fun a' h h0 => absurd rfl h0)
    | sl _ _ _ b' o cap' vals hz h1 h2 hcap hnil hfull htok =>
      refine hcoll _ _ _ (fun a' h h0 => ?_)
      cases h
      have hl0 : 0 < s.toList.length := by omega
      have hszv2 : 0 < szv := by
        rw [Bool.or_eq_true] at hszv
        rcases hszv with h | h
        · have := Nat.eq_of_beq_eq_true h
          omega
        · cases s with
          | raw l => cases l with
            | nil => simp [Seq.toList] at hl0
            | cons _ _ => cases h
          | _ => cases h
      obtain ⟨i1, i2⟩ := h1 0 0 hl0 hszv2
      have hne : b' ≠ b := by
        rintro rfl
        rcases i2 with q | q <;> omega
      refine ⟨hne, ?_⟩
      unfold World.cell? at i1
      split at i1
      case h_2 => cases i1
      case h_1 csA TA frA hA =>
        refine ⟨csA, TA, frA, hA, fun h0 => ?_⟩
        simp only [Option.isSome_none, Bool.false_eq_true, if_false] at i1
        have := (Array.getElem?_eq_some_iff.1 i1).1
        omega
  rw [fin]
  exact GoodV.pure hr (.bool false) hK

end
end Go.Ab
end

section
/- Operations, regions and code: the abstract meaning is sound. -/

set_option linter.unusedVariables false
set_option linter.unusedSimpArgs false
namespace Go.Ab
section
variable {P : Program} {M : Mem} {loc : Locs} {H : List AObj} {w : World} {K : AV → List AObj → Prop}

theorem vrels_ev {s : Slots} {a : Act} (hs : SRel M w loc s a.tmps) (xs : Array Operand) : VRels M w loc (xs.toList.map (ev s)) (xs.map a.eval) := by
  refine ⟨by simp, fun i hi => ?_⟩
  simp only [List.getElem_map, Array.getElem_map, Array.getElem_toList]
  exact vrel_ev hs _

theorem VRels.append {xs ys : List AV} {vs us : Array Value} (h : VRels M w loc xs vs) (k : VRels M w loc ys us) : VRels M w loc (xs ++ ys) (vs ++ us) := by
  obtain ⟨h1, h2⟩ := h
  obtain ⟨k1, k2⟩ := k
  refine ⟨by simp [h1, k1], fun i hi => ?_⟩
  by_cases e : i < xs.length
  · rw [List.getElem_append_left e, Array.getElem_append_left (by omega)]; exact h2 i e
  · have := k2 (i - xs.length) (by simp at hi; omega)
    rw [List.getElem_append_right (by omega), Array.getElem_append_right (by omega)]
    simp only [h1]; exact this

theorem orelv_map {s : Slots} {a : Act} (hs : SRel M w loc s a.tmps) (x : Option Operand) : ORelV M w loc (x.map (ev s)) (x.map a.eval) := by
  cases x with
  | none => trivial
  | some x => exact vrel_ev hs x

theorem aop_sound0 {R : FuncId → List Ret} {mu : Bool} {s : Slots} {o : Oper} {a : Act} (h : aop P R mu s o.op H K) (ht : Tabs P M w) (hr : Rel M loc H w) (hs : SRel M w loc s a.tmps) {next : Act → World → Prop} {Q : Exit → Act → World → Prop}
    (hny : ∀ c f id, o.op = .call c → c.callee = .value f → ev s f = .yld id → False)
    (hnext : ∀ v av H' M' loc' w', K av H' → Rel M' loc' H' w' → VRel M' w' loc' av v → Step M loc H w M' loc' H' w' → next (a.put o.dst v) w') : o.wp P a w next Q := by
  obtain ⟨dst, op, type, pos, after, guard⟩ := o
  simp only at h hnext
  have fin : ∀ {r : Result Value} (hg : GoodV P M loc H w K r), (execOp a.eval ⟨dst, op, type, pos, after, guard⟩).run P w = r.andThen (fun v w' => .ok (.value v) w') →
      Oper.wp P ⟨dst, op, type, pos, after, guard⟩ a w next Q := by
    intro r hg he
    obtain ⟨v, w', av, H', M', loc', e, hK, r1, r2, r3⟩ := hg
    unfold Oper.wp
    rw [he, e]
    exact hnext v av H' M' loc' w' hK r1 r2 r3
  cases op with
  | move x => exact fin (GoodV.pure hr (vrel_ev hs x) h) rfl
  | assign x => exact fin (GoodV.pure hr (vrel_ev hs x) h) rfl
  | pick c x y =>
    simp only [aop] at h
    have hc := vrel_ev hs c
    split at h
    case h_2 => exact h.elim
    case h_1 t ht =>
    rw [ht] at hc
    generalize hq : a.eval c = q at hc
    cases hc
    cases t with
    | true => exact fin (GoodV.pure hr (vrel_ev hs x) h) (by simp [execOp, hq, asBool])
    | false => exact fin (GoodV.pure hr (vrel_ev hs y) h) (by simp [execOp, hq, asBool])
  | alloc t =>
    simp only [aop] at h
    split at h
    case h_2 => exact h.elim
    case h_1 cs hz => exact fin (aalloc_sound hz h hr) (by simp only [execOp, Sem.run_bind, Sem.run_pure])
  | box t x => exact fin (abox_sound (t := t) h hr (vrel_ev hs x)) (by simp only [execOp, Sem.run_bind, Sem.run_pure])
  | build t parts => exact fin (abuild_sound h hr hs) (by simp only [execOp, Sem.run_bind, Sem.run_pure])
  | buildSlice t n parts =>
    cases mu with
    | false => exact fin (abuildSlice_sound h hr hs) (by simp only [execOp, Sem.run_bind, Sem.run_pure])
    | true => exact fin (abuildM_sound h hr hs) (by simp only [execOp, Sem.run_bind, Sem.run_pure])
  | load t x => exact fin (aload_sound h hr (vrel_ev hs x)) (by simp only [execOp, Sem.run_bind, Sem.run_pure])
  | store t x y =>
    obtain ⟨w', H', M', loc', e, hK, r1, r2⟩ := astore_sound h hr (vrel_ev hs x) (vrel_ev hs y)
    have he : (execOp a.eval ⟨dst, .store t x y, type, pos, after, guard⟩).run P w = .ok .skip w' := by
      simp only [execOp, Sem.run_bind, e, Result.andThen_ok, Sem.run_pure]
    unfold Oper.wp
    rw [he]
    exact hnext undef .bad H' M' loc' w' hK r1 (.bad _) r2
  | nilCheck x =>
    simp only [aop] at h
    have hv := vrel_ev hs x
    have hgood : ∀ v, a.eval x = v → K (ev s x) H → (execOp a.eval ⟨dst, .nilCheck x, type, pos, after, guard⟩).run P w = .ok (.value v) w → Oper.wp P ⟨dst, .nilCheck x, type, pos, after, guard⟩ a w next Q := by
      intro v hq hK he
      have hv' := hv
      rw [hq] at hv'
      unfold Oper.wp
      rw [he]
      exact hnext v _ H M loc w hK hr hv' (Step.refl _ _ _ _)
    unfold anilCheck at h
    generalize hx : ev s x = X at h hv hgood
    generalize hq : a.eval x = q at hv hgood
    cases hv with
    | meth t n av v hv =>
      simp only at h
      obtain ⟨hc, hK⟩ := chk_elim h
      obtain ⟨f, hm⟩ := Option.isSome_iff_exists.1 hc
      refine hgood _ rfl hK ?_
      have hn : P.types.size + Made.depth = (P.types.size + 99) + 1 := rfl
      simp [execOp, hq, hn, nilAhead_run hm]
    | _ => simp only at h <;> first
      | exact h.elim
      | exact hgood _ rfl h (by simp only [execOp, hq]; rfl)
  | binOp bop t x y yt => exact fin (abin_sound (ox := x) (oy := y) h hr (vrel_ev hs x) (vrel_ev hs y)) (by simp only [execOp, Sem.run_bind, Sem.run_pure])
  | unOp uop t x => exact fin (aun_sound h hr (vrel_ev hs x)) (by simp only [execOp, Sem.run_bind, Sem.run_pure])
  | convert src dstT x =>
    cases mu with
    | false => exact fin (aconv_sound h hr (vrel_ev hs x)) (by simp only [execOp, Sem.run_bind, Sem.run_pure])
    | true => exact fin (aconvM_sound h hr (vrel_ev hs x)) (by simp only [execOp, Sem.run_bind, Sem.run_pure])
  | makeInterface t x =>
    simp only [aop] at h
    obtain ⟨hc, hK⟩ := chk_elim h
    refine fin (GoodV.pure hr (.iface t _ _ (vrel_ev hs x)) hK) ?_
    cases hu : P.underlying t with
    | none => rw [hu] at hc; cases hc
    | some d =>
      rw [hu] at hc
      cases d <;> first | exact absurd hc Bool.false_ne_true | simp [execOp, Instr.makeInterface, run_underlying' hu]
  | makeFunc fn first captured =>
    cases fn with
    | func f =>
      simp only [aop] at h
      obtain ⟨hc, hK⟩ := chk_elim h
      have hf : first = #[] := by simpa using hc
      subst hf
      obtain ⟨v1, v2⟩ := vrels_ev hs captured
      exact fin (GoodV.pure hr (.fn f _ _ v1 v2) hK) (by simp [execOp, Instr.makeFunc])
    | method name =>
      simp only [aop] at h
      obtain ⟨hc, hK⟩ := chk_elim h
      have hf : captured = #[] := by simpa using hc
      subst hf
      split at hK
      case h_2 => exact hK.elim
      case h_1 t v hl =>
      have v0 := vrels_ev hs first
      rw [hl] at v0
      obtain ⟨v1, v2⟩ := v0
      have v3 := v2 0 (by simp)
      simp only [List.getElem_cons_zero] at v3
      generalize hq : first.map a.eval = q at v1 v2 v3
      obtain ⟨u, hu⟩ : ∃ u, q = #[u] := ⟨q[0]'(by simp [v1]), by
        apply Array.ext
        · simp [v1]
        · intro i h1 h2
          have : i = 0 := by simpa using h2
          subst this; rfl⟩
      subst hu
      simp only [List.getElem_toArray, List.getElem_cons_zero] at v3
      cases v3 with
      | iface _ _ u hu => exact fin (GoodV.pure hr (.meth t name _ _ hu) hK) (by simp [execOp, Instr.makeFunc, hq])
    | _ => exact h.elim
  | makeMap t r =>
    cases r with
    | none => exact fin (amakeMap_sound (t := t) h hr) (by simp only [execOp, Sem.run_bind, Sem.run_pure, Option.map_none])
    | some r => exact h.elim
  | lookup t x k ok => exact fin (alookup_sound h hr (vrel_ev hs x) (vrel_ev hs k)) (by simp only [execOp, Sem.run_bind, Sem.run_pure])
  | mapUpdate t x k y =>
    obtain ⟨w', H', M', loc', e, hK, r1, r2⟩ := amapUpdate_sound h hr (vrel_ev hs x) (vrel_ev hs k) (vrel_ev hs y)
    have he : (execOp a.eval ⟨dst, .mapUpdate t x k y, type, pos, after, guard⟩).run P w = .ok .skip w' := by
      simp only [execOp, Sem.run_bind, e, Result.andThen_ok, Sem.run_pure]
    unfold Oper.wp
    rw [he]
    exact hnext undef .bad H' M' loc' w' hK r1 (.bad _) r2
  | makeSlice t l c => exact fin (amakeSlice_sound h hr (vrel_ev hs l) (vrel_ev hs c)) (by simp only [execOp, Sem.run_bind, Sem.run_pure])
  | slice t x lo hi mx => exact fin (asli_sound h hr (vrel_ev hs x) (orelv_map hs lo) (orelv_map hs hi) (orelv_map hs mx)) (by simp only [execOp, Sem.run_bind, Sem.run_pure])
  | fieldAddr t x f => exact fin (afieldAddr_sound h hr (vrel_ev hs x)) (by simp only [execOp, Sem.run_bind, Sem.run_pure])
  | field t x f => exact fin (afield_sound h hr (vrel_ev hs x)) (by simp only [execOp, Sem.run_bind, Sem.run_pure])
  | indexAddr t x i => exact fin (aindexAddr_sound h hr (vrel_ev hs x) (vrel_ev hs i)) (by simp only [execOp, Sem.run_bind, Sem.run_pure])
  | index t x i => exact fin (aindex_sound h hr (vrel_ev hs x) (vrel_ev hs i)) (by simp only [execOp, Sem.run_bind, Sem.run_pure])
  | extract x i => exact fin (aextract_sound h hr (vrel_ev hs x)) (by simp only [execOp, Sem.run_bind, Sem.run_pure])
  | typeAssert x xt asserted ok => exact fin (atypeAssert_sound (xt := xt) h hr (vrel_ev hs x)) (by simp only [execOp, Sem.run_bind, Sem.run_pure])
  | range t x => exact fin (arange_sound h hr (vrel_ev hs x)) (by simp only [execOp, Sem.run_bind, Sem.run_pure])
  | next x str => exact fin (anext_sound (T := type) h hr (vrel_ev hs x)) (by simp only [execOp, Sem.run_bind, Sem.run_pure])
  | call c =>
    simp only [aop, acall] at h
    obtain ⟨callee, args, argTypes⟩ := c
    have hargs := vrels_ev hs args
    cases callee with
    | builtin b =>
      simp only at h
      cases b <;> simp only [abuiltin] at h <;> first
        | exact h.elim
        | exact fin (alen_sound (T := type) h hr hargs) (by simp only [execOp, resolve, invoke, builtin, pure_bind, Sem.run_bind, Sem.run_pure])
        | exact fin (aclear_sound (T := type) h hr hargs) (by simp only [execOp, resolve, invoke, builtin, pure_bind, Sem.run_bind, Sem.run_pure])
        | (split at h
           · split at h
             · split at h
               · exact fin (aappendI_sound (T := type) h hr hargs) (by simp only [execOp, resolve, invoke, builtin, pure_bind, Sem.run_bind, Sem.run_pure])
               · exact fin (aappendM_sound (T := type) h hr hargs) (by simp only [execOp, resolve, invoke, builtin, pure_bind, Sem.run_bind, Sem.run_pure])
             · exact fin (aappendI_sound (T := type) h hr hargs) (by simp only [execOp, resolve, invoke, builtin, pure_bind, Sem.run_bind, Sem.run_pure])
             · exact fin (aappendZ_sound (T := type) h hr hargs) (by simp only [execOp, resolve, invoke, builtin, pure_bind, Sem.run_bind, Sem.run_pure])
             · exact fin (aappendM_sound (T := type) h hr hargs) (by simp only [execOp, resolve, invoke, builtin, pure_bind, Sem.run_bind, Sem.run_pure])
           · exact fin (aappend_sound (T := type) h hr hargs) (by simp only [execOp, resolve, invoke, builtin, pure_bind, Sem.run_bind, Sem.run_pure]))
        | exact fin (acap_sound (T := type) h hr hargs) (by simp only [execOp, resolve, invoke, builtin, pure_bind, Sem.run_bind, Sem.run_pure])
        | (split at h
           · exact fin (acopy_sound (T := type) h hr hargs) (by simp only [execOp, resolve, invoke, builtin, pure_bind, Sem.run_bind, Sem.run_pure])
           · exact fin (acopyM_sound (T := type) h hr hargs) (by simp only [execOp, resolve, invoke, builtin, pure_bind, Sem.run_bind, Sem.run_pure]))
        | exact fin (aminmax_sound (ts := argTypes) (T := type) h hr hargs) (by simp only [execOp, resolve, invoke, builtin, pure_bind, Sem.run_bind, Sem.run_pure])
    | value f =>
      simp only at h
      split at h
      case h_3 => exact h.elim
      case h_2 id hid => exact (hny _ _ _ rfl rfl hid).elim
      case h_1 g cap hg =>
      have hf := vrel_ev hs f
      rw [hg] at hf
      generalize hq : a.eval f = q at hf
      cases hf with
      | fn _ _ vs hvs hvr =>
      split at h
      case h_2 =>
        obtain ⟨hce, h⟩ := chk_elim h
        have hcap0 : cap = [] := by simpa using hce
        subst hcap0
        have hvs0 : vs = #[] := by
          apply Array.ext
          · simpa using hvs
          · intro i h1 h2; simp at h2
        subst hvs0
        obtain ⟨r, hrun, hgood⟩ := aextern_sound h hr hargs
        refine fin hgood ?_
        simp only [execOp, resolve, hq, Deferred.ofValue, pure_bind, invoke, Array.empty_append, Array.append_empty, hrun]
      rename_i hp
      have hspec := h
      have hall := hargs.append ⟨hvs, hvr⟩
      have hcalls := hspec M loc w _ ht hr hall
      unfold plainFn at hp
      split at hp
      case h_2 => cases hp
      case h_1 fn hfn =>
      rw [Bool.and_eq_true] at hp
      have hname : (fn.name == "runtime.NumGoroutine") = false := by simpa using hp.2
      have hbody : fn.body.isNone = false := by
        cases hb : fn.body with
        | none => rw [hb] at hp; simp at hp
        | some c => rfl
      have he : (execOp a.eval ⟨dst, .call ⟨.value f, args, argTypes⟩, type, pos, after, guard⟩).run P w = .ok (.enter g (args.map a.eval ++ vs)) w := by
        simp only [execOp, resolve, hq, Deferred.ofValue, pure_bind, invoke, callFunc, Sem.run_bind, run_program, Result.andThen_ok, hfn, hname, hbody, Bool.false_eq_true, if_false, Sem.run_pure, Array.empty_append]
      unfold Oper.wp
      rw [he]
      refine hcalls.mono fun e w' hh => ?_
      obtain ⟨v, r, H', M', loc', rfl, hK, r1, r2, r3⟩ := hh
      exact hnext v _ _ M' loc' w' (formed_elim hK) r1 r2 r3
    | invoke r n =>
      simp only at h
      split at h
      case h_2 => exact h.elim
      case h_1 t x hx =>
      obtain ⟨g, hm, h⟩ := natP_elim h
      obtain ⟨hp, hspec⟩ := chk_elim h
      have hf := vrel_ev hs r
      rw [hx] at hf
      generalize hq : a.eval r = q at hf
      cases hf with
      | iface _ _ u hu =>
      have hall := VRels.append (xs := [x]) (vs := #[u]) ⟨rfl, fun i hi => by
        have : i = 0 := by simpa using hi
        subst this; exact hu⟩ hargs
      have hcalls := hspec M loc w _ ht hr hall
      unfold plainFn at hp
      split at hp
      case h_2 => cases hp
      case h_1 fn hfn =>
      rw [Bool.and_eq_true] at hp
      have hname : (fn.name == "runtime.NumGoroutine") = false := by simpa using hp.2
      have hbody : fn.body.isNone = false := by
        cases hb : fn.body with
        | none => rw [hb] at hp; simp at hp
        | some c => rfl
      have hn : P.types.size + Made.depth = (P.types.size + 99) + 1 := rfl
      have he : (execOp a.eval ⟨dst, .call ⟨.invoke r n, args, argTypes⟩, type, pos, after, guard⟩).run P w = .ok (.enter g (#[u] ++ args.map a.eval)) w := by
        have hex : (#[Value.iface t u] ++ args.map a.eval).extract 1 (#[Value.iface t u] ++ args.map a.eval).size = args.map a.eval := by
          apply Array.ext
          · simp
          · intro i h1 h2
            simp only [Array.getElem_extract]
            rw [Array.getElem_append_right (by simp)]
            simp
        simp only [execOp, resolve, hq, pure_bind, invoke]
        rw [show (#[Value.iface t u] ++ args.map a.eval)[0]? = some (Value.iface t u) from by rw [Array.getElem?_append_left (by simp)]; rfl]
        simp only [hex, callMethod, callFunc, Sem.run_bind, run_program, Result.andThen_ok, hn, method_run hm, hfn, hname, hbody, Bool.false_eq_true, if_false, Sem.run_pure]
      unfold Oper.wp
      rw [he]
      refine hcalls.mono fun e w' hh => ?_
      obtain ⟨v, r, H', M', loc', rfl, hK, r1, r2, r3⟩ := hh
      exact hnext v _ _ M' loc' w' (formed_elim hK) r1 r2 r3
  | _ => exact h.elim

theorem callsW {ro : Option Nat} {k : Nat} {f : FuncId} {args : Array Value} {R : Ending → World → Prop} (h : Calls P f args w R) : CallsIn (FW ro) k P f args w R :=
  ⟨trivial, fun cs _ => let ⟨e, w', fr, r, s, x⟩ := h cs; ⟨e, w', fr, r, comesIn_wide.2 s, x⟩⟩

theorem roomW {ro : Option Nat} (n : Nat) : (FW ro).room n := fun _ h => by simp [FW] at h

theorem callsOfW {ro : Option Nat} {k : Nat} {f : FuncId} {args : Array Value} {R : Ending → World → Prop} (h : CallsIn (FW ro) k P f args w R) : Calls P f args w R :=
  fun cs => let ⟨e, w', fr, r, s, x⟩ := h.2 cs (roomW _); ⟨e, w', fr, r, ComesIn.comes s, x⟩

/-- what an operation does in a frame that is no round is what it does in any -/
theorem wpIn_of_wp {ro : Option Nat} {o : Oper} {a : Act} {next : Act → World → Prop} {Q : Exit → Act → World → Prop} (hd : ∀ c, o.op ≠ .defer c) (h : o.wp P a w next Q) : o.wpIn (FW ro) 0 P a w next Q := by
  refine ⟨fun _ _ => trivial, ?_⟩
  rw [Oper.semAt_eq _ _ _ hd]
  unfold Oper.wp at h
  generalize (execOp a.eval o).run P w = r at h
  cases r with
  | ok x w' =>
    cases x <;> simp only [Oper.upon, Oper.uponIn] at h ⊢ <;> first
      | exact h
      | exact ⟨fun h => by simp [FW] at h, callsW h⟩
      | exact ⟨fun h => by simp [FW] at h, fun c cs _ => let ⟨v, w', r, s⟩ := h c cs; ⟨v, w', r, stepsIn_wide.2 s⟩⟩
  | halt x w' => cases x <;> simp only [Oper.upon, Oper.uponIn] at h ⊢ <;> exact h

theorem aop_sound {R : FuncId → List Ret} {mu : Bool} {s : Slots} {ro : Option Nat} {o : Oper} {a : Act} (h : aop P R mu s o.op H K) (ht : Tabs P M w) (hr : Rel M loc H w) (hs : SRel M w loc s a.tmps) {next : Act → World → Prop} {Q : Exit → Act → World → Prop}
    (hnext : ∀ v av H' M' loc' w', K av H' → Rel M' loc' H' w' → VRel M' w' loc' av v → Step M loc H w M' loc' H' w' → next (a.put o.dst v) w') : o.wpIn (FW ro) 0 P a w next Q := by
  by_cases hy : ∃ c f id, o.op = .call c ∧ c.callee = .value f ∧ ev s f = .yld id
  · obtain ⟨c, f, id, h1, h2, h3⟩ := hy
    obtain ⟨dst, op, type, pos, after, guard⟩ := o
    obtain ⟨callee, args, argTypes⟩ := c
    simp only at h1 h2
    subst h1 h2
    simp only [aop, acall, h3] at h
    have hargs := vrels_ev hs args
    have hf := vrel_ev hs f
    rw [h3] at hf
    generalize hq : a.eval f = q at hf
    cases hf with
    | yld _ b hl =>
    obtain ⟨g, tmps, asg, body, hrun, hround⟩ := h M loc w _ b ht hr hargs hl
    refine ⟨fun _ _ => trivial, ?_⟩
    rw [Oper.semAt_eq _ _ _ (by intro c h; cases h)]
    have he : (execOp a.eval ⟨dst, .call ⟨.value f, args, argTypes⟩, type, pos, after, guard⟩).run P w = .ok (.round b g tmps asg body) w := by
      simp only [execOp, resolve, hq, Deferred.ofValue, pure_bind, invoke, Array.empty_append, hrun]
    rw [he]
    refine ⟨fun h => by simp [FW] at h, ?_⟩
    have hround' : RoundIn (FW ro) 0 P b g tmps asg body w _ := hround
    refine hround'.mono fun e w' hh => ?_
    obtain ⟨v, r, H', M', loc', rfl, hK, r1, r2, r3⟩ := hh
    exact hnext v _ _ M' loc' w' (formed_elim hK) r1 r2 r3
  · refine wpIn_of_wp (fun c hc => ?_) (aop_sound0 h ht hr hs (fun c f id h1 h2 h3 => hy ⟨c, f, id, h1, h2, h3⟩) hnext)
    rw [hc] at h
    exact h.elim

end
end Go.Ab
end

section
/- One operation with its guard; operations one behind the other. -/

set_option linter.unusedVariables false
set_option linter.unusedSimpArgs false
namespace Go.Ab
section
variable {ro : Option Nat} {P : Program} {M : Mem} {loc : Locs} {H : List AObj} {w : World}

theorem aput_elim {N : Nat} {s : Slots} {d : Option Tmp} {v : AV} {K : Slots → Prop} (h : aput N s d v K) {a : Act} {val : Value} (hs : SRel M w loc s a.tmps) (hN : a.tmps.size = N) (hv : VRel M w loc v val) :
    ∃ s', K s' ∧ SRel M w loc s' (a.put d val).tmps ∧ (a.put d val).tmps.size = N ∧ (a.put d val).defers = a.defers := by
  cases d with
  | none => exact ⟨s, h, hs, hN, rfl⟩
  | some d =>
    obtain ⟨hb, hK⟩ := chk_elim h
    have hlt : d < N := by simpa [Nat.blt_eq] using hb
    exact ⟨_, hK, hs.put (hN ▸ hlt) hv, by simp [Act.put, hN], rfl⟩

theorem yielded_of {ops : Array Oper} {s : Slots} {tmps : Array Value} (hs : SRel M w loc s tmps) {j d : Nat} {b : Bool} (hd : (ops[j]?).bind (·.dst) = some d) (hg : get s d = .bool b) (hlt : d < tmps.size) :
    yielded ops tmps j = some b := by
  have := hs d
  rw [hg] at this
  unfold yielded
  rw [hd]
  have he : tmps[d]? = some (tmps.getD d undef) := by
    rw [Array.getElem?_eq_getElem hlt]; simp [Array.getD, hlt]
  simp only [Option.bind_some, he]
  generalize tmps.getD d undef = q at this
  cases this
  rfl

theorem vrel_undef : VRel M w loc (.tup []) undef := .tup [] #[] rfl (fun i h => by simp at h)

/-- what was passed by yields nothing -/
theorem yielded_none {ops : Array Oper} {s : Slots} {tmps : Array Value} (hs : SRel M w loc s tmps) {j d : Nat} (hd : (ops[j]?).bind (·.dst) = some d) (hg : get s d = .tup []) :
    yielded ops tmps j = none := by
  have := hs d
  rw [hg] at this
  unfold yielded
  rw [hd]
  simp only [Option.bind_some]
  cases he : tmps[d]? with
  | none => rfl
  | some q =>
    have e : tmps.getD d undef = q := by rw [Array.getD_eq_getD_getElem?, he]; rfl
    rw [e] at this
    cases this
    rfl

theorem srel_know {s : Slots} {tmps : Array Value} (hs : SRel M w loc s tmps) {d : Nat} {b : Bool} (hg : get s d = .bool b) : SRel M w loc ((d, .bool b) :: s) tmps := by
  intro i
  simp only [get]
  cases h : Nat.beq d i with
  | true => have := Nat.eq_of_beq_eq_true h; subst this; have h2 := hs d; rw [hg] at h2; exact h2
  | false => exact hs i

theorem aoper_sound {cfg : Cfg} {ops : Array Oper} {s : Slots} {i : Nat} {o : Oper} {K : Slots → List AObj → Prop} {a : Act} {next : Act → World → Prop} {Q : Exit → Act → World → Prop}
    (h : aoper P cfg ops s o H K) (ho : ops[i]? = some o) (ht : Tabs P M w) (hr : Rel M loc H w) (hs : SRel M w loc s a.tmps) (hN : a.tmps.size = cfg.N)
    (hnext : ∀ a' s' H' M' loc' w', K s' H' → Rel M' loc' H' w' → SRel M' w' loc' s' a'.tmps → a'.tmps.size = cfg.N → a'.defers = a.defers → Step M loc H w M' loc' H' w' → next a' w') :
    wpOpIn (FW ro) 0 P ops Q i next a w := by
  have hrun : ∀ s, SRel M w loc s a.tmps → (aop P cfg.ret (match o.dst with | some d => cfg.mu d | none => false) s o.op H fun v H' => aput cfg.N s o.dst v fun s' => K s' H') → o.wpIn (FW ro) 0 P a w next Q := by
    intro s hs h
    refine aop_sound h ht hr hs fun v av H' M' loc' w' hK r1 r2 r3 => ?_
    have hs' := hs.keeps (r3.keeps hr)
    obtain ⟨s', h1, h2, h3, h4⟩ := aput_elim hK hs' hN r2
    exact hnext _ s' H' M' loc' w' h1 r1 h2 h3 h4 r3
  have hskip : ∀ s, SRel M w loc s a.tmps → (aput cfg.N s o.dst (.tup []) fun s' => K s' H) → next (a.put o.dst undef) w := by
    intro s hs h
    obtain ⟨s', h1, h2, h3, h4⟩ := aput_elim h hs hN vrel_undef
    exact hnext _ s' H M loc w h1 hr h2 h3 h4 (Step.refl _ _ _ _)
  unfold wpOpIn
  rw [ho]
  simp only
  unfold aoper at h
  simp only at h
  cases hg : o.guard with
  | none =>
    rw [hg] at h
    have : Region.wanted o (yielded ops a.tmps) = true := by simp [Region.wanted, hg]
    rw [if_pos this]
    exact (hrun s hs h)
  | some jw =>
    obtain ⟨j, want⟩ := jw
    rw [hg] at h
    simp only at h
    split at h
    case h_2 => exact h.elim
    case h_1 d hd =>
    split at h
    case h_3 => exact h.elim
    case h_2 hb =>
      have hw : Region.wanted o (yielded ops a.tmps) = false := by
        simp only [Region.wanted, hg, yielded_none hs hd hb]
        rfl
      rw [hw]
      exact ⟨fun _ _ => trivial, hskip _ hs h⟩
    case h_1 b hb =>
    obtain ⟨hlt, h⟩ := chk_elim h
    have hlt : d < cfg.N := by simpa [Nat.blt_eq] using hlt
    have hy := yielded_of hs hd hb (hN ▸ hlt)
    have hk := srel_know hs hb
    have hw : Region.wanted o (yielded ops a.tmps) = (b == want) := by
      simp only [Region.wanted, hg, hy]
      cases b <;> cases want <;> rfl
    rw [hw]
    cases b with
    | true =>
      simp only [condP] at h
      cases want with
      | true => exact (hrun _ hk h)
      | false => exact ⟨fun _ _ => trivial, hskip _ hk h⟩
    | false =>
      simp only [condP] at h
      cases want with
      | true => exact ⟨fun _ _ => trivial, hskip _ hk h⟩
      | false => exact (hrun _ hk h)

theorem aops_sound {cfg : Cfg} {ops : Array Oper} {Q : Exit → Act → World → Prop} : ∀ (l : List Nat) {M loc H w} (s : Slots) (a : Act) (K : Slots → List AObj → Prop), aops P cfg ops l s H K → Tabs P M w → Rel M loc H w → SRel M w loc s a.tmps → a.tmps.size = cfg.N →
    (∀ a' s' H' M' loc' w', K s' H' → Rel M' loc' H' w' → SRel M' w' loc' s' a'.tmps → a'.tmps.size = cfg.N → a'.defers = a.defers → Step M loc H w M' loc' H' w' → Q .normal a' w') → wpOpsIn (FW ro) 0 P ops Q l a w
  | [], M, loc, H, w, s, a, K, h, ht, hr, hs, hN, hq => hq a s H M loc w h hr hs hN rfl (Step.refl _ _ _ _)
  | i :: rest, M, loc, H, w, s, a, K, h, ht, hr, hs, hN, hq => by
    simp only [aops] at h
    rw [wpOpsIn_cons]
    split at h
    case h_2 => exact h.elim
    case h_1 o ho =>
    refine aoper_sound h ho ht hr hs hN fun a' s' H' M' loc' w' hK r1 r2 r3 r4 r5 => ?_
    exact aops_sound rest s' a' K hK (ht.step hr r5) r1 r2 r3 fun a2 s2 H2 M2 loc2 w2 k1 k2 k3 k4 k5 k6 => hq a2 s2 H2 M2 loc2 w2 k1 k2 k3 k4 (k5.trans r4) (r5.trans k6)

end
end Go.Ab
end

section
/- A region that draws its order: one order stands for all. -/

set_option linter.unusedVariables false
set_option linter.unusedSimpArgs false
namespace Go.Ab

/-- operations that act: they keep their places -/
def isX : Op → Bool
  | .assign _ | .alloc _ | .box .. | .store .. | .makeSlice .. | .range .. | .next .. | .typeAssert .. | .makeMap .. | .lookup .. | .mapUpdate .. => true
  | .call c => match c.callee with
    | .builtin .len | .builtin .min | .builtin .max => false
    | _ => true
  | _ => false

/-- operations that look at what may change -/
def isL : Op → Bool
  | .load .. => true
  | .call c => match c.callee with
    | .builtin .len => true
    | _ => false
  | _ => false

/-- ... or at how long a row is -/
def isS (mu : Bool) : Op → Bool
  | .slice .. => mu
  | _ => false

/-- ... or makes a row that may be written -/
def isC (mu : Bool) : Op → Bool
  | .convert .. | .buildSlice .. => mu
  | _ => false

def muOf (cfg : Cfg) (o : Oper) : Bool := match o.dst with | some d => cfg.mu d | none => false

def isXo (cfg : Cfg) (o : Oper) : Bool := isX o.op || isC (muOf cfg o) o.op

/-- an operation with one answer -/
def sureOp (P : Program) : Op → Bool
  | .binOp .eql t _ _ _ | .binOp .neq t _ _ _ => !slish P t
  | _ => true

def predsOf (o : Oper) : List Nat := o.after.toList.filterMap fun e => match Region.binds .any e with | true => some e.on | false => none

def befB (masks : List Nat) (j i : Nat) : Bool := (masks.getD i 0).testBit j

/-- two operations, the first one ahead in our order -/
def pairOk (P : Program) (cfg : Cfg) (ops : Array Oper) (masks : List Nat) (i j : Nat) (oi oj : Oper) : Bool :=
  !Nat.beq i j && !(predsOf oi).contains j && (!isXo cfg oi || befB masks i j) && (oi.apart ops oj || befB masks i j) &&
  (isXo cfg oi || (match oi.dst, oj.dst with | some d, some d' => !Nat.beq d d' | _, _ => true)) &&
  (isXo cfg oj || (match oj.dst with | some d => !(oi.looksAt ops).contains d | none => true))

def orderOk (P : Program) (cfg : Cfg) (ops : Array Oper) (masks : List Nat) : List Nat → Bool
  | [] => true
  | i :: r => (match ops[i]? with
    | some oi => (isXo cfg oi || (sureOp P oi.op && match oi.dst with | some d => !(oi.looksAt ops).contains d | none => false)) && r.all fun j => match ops[j]? with
      | some oj => pairOk P cfg ops masks i j oi oj
      | none => false
    | none => false) && orderOk P cfg ops masks r

def maskOk (ops : Array Oper) (masks : List Nat) (i : Nat) : Bool :=
  match ops[i]? with
  | some o => Nat.beq ((masks.getD i 0) ||| ((predsOf o).foldl (fun u p => u ||| (2 ^ p ||| masks.getD p 0)) 0)) ((predsOf o).foldl (fun u p => u ||| (2 ^ p ||| masks.getD p 0)) 0) &&
      (predsOf o).all fun p => Nat.blt p ops.size && !Nat.beq p i
  | none => false

def drawOk (P : Program) (cfg : Cfg) (ops : Array Oper) (masks : List Nat) (c : List Nat) : Bool :=
  Nat.beq c.length ops.size && ((List.range ops.size).all fun i => c.contains i) && ((List.range ops.size).all (maskOk ops masks)) &&
  orderOk P cfg ops masks c && P.follows .mixedOrders

/-- works a number out ahead -/
def force {α : Sort _} (x : Nat) (f : Nat → α) : α := Nat.rec (motive := fun _ => α) (f 0) (fun k _ => f (k + 1)) x

/-- the next operation that is due: one that does not act, or any -/
def nextOp (cfg : Cfg) (ops : Array Oper) (done : Nat) (any : Bool) : List Nat → Option Nat
  | [] => none
  | i :: r => match ops[i]? with
    | some o => bif !done.testBit i && ((any || !isXo cfg o) && (predsOf o).all (done.testBit ·)) then some i else nextOp cfg ops done any r
    | none => none

/-- our order, from its end: whatever does not act comes as soon as it may -/
def canonGo (cfg : Cfg) (ops : Array Oper) (all : List Nat) : Nat → Nat → List Nat → List Nat
  | 0, _, acc => acc
  | n + 1, done, acc => match nextOp cfg ops done false all with
    | some i => force (done ||| 2 ^ i) fun d => force i fun i' => canonGo cfg ops all n d (i' :: acc)
    | none => match nextOp cfg ops done true all with
      | some i => force (done ||| 2 ^ i) fun d => force i fun i' => canonGo cfg ops all n d (i' :: acc)
      | none => acc
def canon (cfg : Cfg) (ops : Array Oper) : List Nat := (canonGo cfg ops (List.range ops.size) ops.size 0 []).reverse

/-- what must come ahead of each, from the last one -/
def masksGo (ops : Array Oper) : List Nat → List Nat → List Nat
  | [], acc => acc
  | i :: r, acc => match ops[i]? with
    | some o => force ((predsOf o).foldl (fun u p => u ||| (2 ^ p ||| acc.getD (i - 1 - p) 0)) 0) fun m => masksGo ops r (m :: acc)
    | none => acc
def masksOf (ops : Array Oper) : List Nat := (masksGo ops (List.range ops.size) []).reverse

/-- an operation, done now, gives what its slot holds -/
def Pend (P : Program) (cfg : Cfg) (ops : Array Oper) (s : Slots) (H : List AObj) (j : Nat) : Prop :=
  match ops[j]? with
  | some o => match o.dst with
    | some d => match o.guard with
      | none => aop P cfg.ret (muOf cfg o) s o.op H fun v H' => v = get s d ∧ H' = H
      | some (g, want) => match (ops[g]?).bind (·.dst) with
        | some gd => match get s gd with
          | .bool b => match b, want with
            | true, true | false, false => aop P cfg.ret (muOf cfg o) s o.op H fun v H' => v = get s d ∧ H' = H
            | _, _ => get s d = .tup []
          | .tup [] => get s d = .tup []
          | _ => False
        | none => False
    | none => False
  | none => False

/-- what was looked at must still be so -/
def pendAll (P : Program) (cfg : Cfg) (ops : Array Oper) (masks : List Nat) (i : Nat) (s : Slots) (H : List AObj) : List Nat → Prop → Prop
  | [], A => A
  | j :: r, A => match befB masks j i with
    | true => pendAll P cfg ops masks i s H r A
    | false => Pend P cfg ops s H j ∧ pendAll P cfg ops masks i s H r A

def adrawL (P : Program) (cfg : Cfg) (ops : Array Oper) (masks : List Nat) : List Nat → List Nat → Slots → List AObj → (Slots → List AObj → Prop) → Prop
  | [], _, s, H, K => K s H
  | i :: r, log, s, H, K => match ops[i]? with
    | some o => match isXo cfg o with
      | true => aoper P cfg ops s o H fun s' H' => pendAll P cfg ops masks i s' H' log (adrawL P cfg ops masks r log s' H' K)
      | false => aoper P cfg ops s o H fun s' H' => adrawL P cfg ops masks r (match isL o.op || isS (muOf cfg o) o.op with | true => i :: log | false => log) s' H' K
    | none => False

def adraw (P : Program) (cfg : Cfg) (ops : Array Oper) (s : Slots) (H : List AObj) (K : Slots → List AObj → Prop) : Prop :=
  chk (drawOk P cfg ops (masksOf ops) (canon cfg ops)) (adrawL P cfg ops (masksOf ops) (canon cfg ops) [] s H K)

/-! ### an operation depends on its operands alone -/
section
variable {P : Program}

theorem aop_congr {R : FuncId → List Ret} {mu : Bool} {s s' : Slots} {o : Op} {H : List AObj} {K : AV → List AObj → Prop} (h : ∀ x ∈ o.operands, ev s x = ev s' x) (hk : aop P R mu s o H K) : aop P R mu s' o H K := by
  cases o with
  | move x => have e := h x (by simp [Op.operands]); simp only [aop, e] at hk ⊢; exact hk
  | assign x => have e := h x (by simp [Op.operands]); simp only [aop, e] at hk ⊢; exact hk
  | pick c x y =>
    have e1 := h c (by simp [Op.operands]); have e2 := h x (by simp [Op.operands]); have e3 := h y (by simp [Op.operands])
    simp only [aop, e1, e2, e3] at hk ⊢; exact hk
  | alloc t => exact hk
  | box t x => have e := h x (by simp [Op.operands]); simp only [aop, e] at hk ⊢; exact hk
  | build t parts =>
    have e : parts.toList.map (fun (i, x) => (i, ev s x)) = parts.toList.map (fun (i, x) => (i, ev s' x)) :=
      List.map_congr_left fun p hp => by
        have := h p.2 (by simp only [Op.operands, List.mem_toArray, List.mem_map]; exact ⟨p, hp, rfl⟩)
        simp only [this]
    simp only [aop, e] at hk ⊢; exact hk
  | buildSlice t n parts =>
    have e : parts.toList.map (fun (i, x) => (i, ev s x)) = parts.toList.map (fun (i, x) => (i, ev s' x)) :=
      List.map_congr_left fun p hp => by
        have := h p.2 (by simp only [Op.operands, List.mem_toArray, List.mem_map]; exact ⟨p, hp, rfl⟩)
        simp only [this]
    simp only [aop, e] at hk ⊢; exact hk
  | load t x => have e := h x (by simp [Op.operands]); simp only [aop, e] at hk ⊢; exact hk
  | store t x y =>
    have e1 := h x (by simp [Op.operands]); have e2 := h y (by simp [Op.operands])
    simp only [aop, e1, e2] at hk ⊢; exact hk
  | nilCheck x => have e := h x (by simp [Op.operands]); simp only [aop, e] at hk ⊢; exact hk
  | binOp op t x y yt =>
    have e1 := h x (by simp [Op.operands]); have e2 := h y (by simp [Op.operands])
    simp only [aop, e1, e2] at hk ⊢; exact hk
  | unOp op t x => have e := h x (by simp [Op.operands]); simp only [aop, e] at hk ⊢; exact hk
  | convert a b x => have e := h x (by simp [Op.operands]); simp only [aop, e] at hk ⊢; exact hk
  | makeInterface t x => have e := h x (by simp [Op.operands]); simp only [aop, e] at hk ⊢; exact hk
  | makeFunc fn first captured =>
    cases fn with
    | func f =>
      have e : captured.toList.map (ev s) = captured.toList.map (ev s') :=
        List.map_congr_left fun p hp => h p (by simp only [Op.operands, Array.mem_append]; exact .inr (by simpa using hp))
      simp only [aop, e] at hk ⊢; exact hk
    | method name =>
      have e : first.toList.map (ev s) = first.toList.map (ev s') :=
        List.map_congr_left fun p hp => h p (by simp only [Op.operands, Array.mem_append]; exact .inl (by simpa using hp))
      simp only [aop, e] at hk ⊢; exact hk
    | _ => exact hk.elim
  | makeMap t r =>
    cases r with
    | none => exact hk
    | some r => exact hk.elim
  | lookup t x k ok =>
    have e1 := h x (by simp [Op.operands]); have e2 := h k (by simp [Op.operands])
    simp only [aop, e1, e2] at hk ⊢; exact hk
  | mapUpdate t x k v =>
    have e1 := h x (by simp [Op.operands]); have e2 := h k (by simp [Op.operands]); have e3 := h v (by simp [Op.operands])
    simp only [aop, e1, e2, e3] at hk ⊢; exact hk
  | makeSlice t l c =>
    have e1 := h l (by simp [Op.operands]); have e2 := h c (by simp [Op.operands])
    simp only [aop, e1, e2] at hk ⊢; exact hk
  | slice t x lo hi mx =>
    have e0 := h x (by simp [Op.operands])
    have e1 : lo.map (ev s) = lo.map (ev s') := by
      cases lo with
      | none => rfl
      | some y => simp only [Option.map_some]; rw [h y (by simp [Op.operands])]
    have e2 : hi.map (ev s) = hi.map (ev s') := by
      cases hi with
      | none => rfl
      | some y => simp only [Option.map_some]; rw [h y (by simp [Op.operands])]
    have e3 : mx.map (ev s) = mx.map (ev s') := by
      cases mx with
      | none => rfl
      | some y => simp only [Option.map_some]; rw [h y (by simp [Op.operands])]
    simp only [aop, e0, e1, e2, e3] at hk ⊢; exact hk
  | fieldAddr t x f => have e := h x (by simp [Op.operands]); simp only [aop, e] at hk ⊢; exact hk
  | field t x f => have e := h x (by simp [Op.operands]); simp only [aop, e] at hk ⊢; exact hk
  | indexAddr t x i =>
    have e1 := h x (by simp [Op.operands]); have e2 := h i (by simp [Op.operands])
    simp only [aop, e1, e2] at hk ⊢; exact hk
  | index t x i =>
    have e1 := h x (by simp [Op.operands]); have e2 := h i (by simp [Op.operands])
    simp only [aop, e1, e2] at hk ⊢; exact hk
  | extract x i => have e := h x (by simp [Op.operands]); simp only [aop, e] at hk ⊢; exact hk
  | typeAssert x xt asserted ok => have e := h x (by simp [Op.operands]); simp only [aop, e] at hk ⊢; exact hk
  | range t x => have e := h x (by simp [Op.operands]); simp only [aop, e] at hk ⊢; exact hk
  | next x str => have e := h x (by simp [Op.operands]); simp only [aop, e] at hk ⊢; exact hk
  | call c =>
    obtain ⟨callee, args, ts⟩ := c
    have hargs : args.toList.map (ev s) = args.toList.map (ev s') :=
      List.map_congr_left fun p hp => h p (by simp only [Op.operands, Call.operands, Array.mem_append]; exact .inr (by simpa using hp))
    cases callee with
    | builtin b => simp only [aop, acall, hargs] at hk ⊢; exact hk
    | value f =>
      have e := h f (by simp [Op.operands, Call.operands])
      simp only [aop, acall, hargs, e] at hk ⊢; exact hk
    | invoke r n =>
      have e := h r (by simp [Op.operands, Call.operands])
      simp only [aop, acall, hargs, e] at hk ⊢; exact hk
  | _ => exact hk.elim

theorem chk_mono {b : Bool} {A B : Prop} (h : A → B) (hk : chk b A) : chk b B := by
  cases b with
  | true => exact h hk
  | false => exact hk.elim
theorem needP_mono {p A B : Prop} (h : A → B) (hk : needP p A) : needP p B := ⟨hk.1, fun hp => h (hk.2 hp)⟩
theorem optP_mono {α : Type 1} {o : Option α} {K K' : α → Prop} (h : ∀ a, K a → K' a) (hk : optP o K) : optP o K' := by
  cases o with
  | some a => exact h a hk
  | none => exact hk.elim

end

def Det (F : (AV → Prop) → Prop) : Prop := ∀ K, F K → ∃ v, F (fun x => x = v) ∧ K v

theorem Det.const (v : AV) : Det (fun K => K v) := fun K h => ⟨v, rfl, h⟩
theorem Det.chk {b : Bool} {F : (AV → Prop) → Prop} (h : Det F) : Det (fun K => Ab.chk b (F K)) := by
  intro K hk
  cases b with
  | true => exact h K hk
  | false => exact hk.elim
theorem Det.need {p : Prop} {F : (AV → Prop) → Prop} (h : Det F) : Det (fun K => needP p (F K)) := by
  intro K hk
  obtain ⟨v, h1, h2⟩ := h K (hk.2 hk.1)
  exact ⟨v, ⟨hk.1, fun _ => h1⟩, h2⟩
theorem Det.opt (o : Option AV) : Det (fun K => optP o K) := by
  intro K hk
  cases o with
  | some a => exact ⟨a, rfl, hk⟩
  | none => exact hk.elim
theorem Det.none : Det (fun _ => False) := fun K h => h.elim
theorem Det.cond {b : Bool} {u v : AV} : Det (fun K => condP b (K u) (K v)) := by
  intro K hk
  cases b with
  | true => exact ⟨u, rfl, hk⟩
  | false => exact ⟨v, rfl, hk⟩
theorem det_aload {P : Program} {t : TypeId} {v : AV} {H : List AObj} : Det (fun K => aload P t v H K) := by
  unfold aload
  repeat' (first
    | exact Det.none
    | exact Det.const _
    | exact Det.opt _
    | exact Det.cond
    | refine Det.need ?_
    | refine Det.chk ?_
    | split
    )
theorem det_abuild {P : Program} {t : TypeId} {parts : List (Nat × AV)} : Det (fun K => abuild P t parts K) := by
  unfold abuild
  repeat' (first
    | exact Det.none
    | exact Det.const _
    | exact Det.opt _
    | exact Det.cond
    | refine Det.need ?_
    | refine Det.chk ?_
    | split
    )
theorem det_abuildSlice {P : Program} {t : TypeId} {n : Nat} {parts : List (Nat × AV)} : Det (fun K => abuildSlice P t n parts K) := by
  unfold abuildSlice
  repeat' (first
    | exact Det.none
    | exact Det.const _
    | exact Det.opt _
    | exact Det.cond
    | refine Det.need ?_
    | refine Det.chk ?_
    | split
    )
theorem det_anilCheck {P : Program} {v : AV} : Det (fun K => anilCheck P v K) := by
  unfold anilCheck
  repeat' (first
    | exact Det.none
    | exact Det.const _
    | exact Det.opt _
    | exact Det.cond
    | refine Det.need ?_
    | refine Det.chk ?_
    | split
    )
theorem det_intOp {op : BinOp} {k : IntKind} {a b : Int} : Det (fun K => intOp op k a b K) := by
  unfold intOp
  repeat' (first
    | exact Det.none
    | exact Det.const _
    | exact Det.opt _
    | exact Det.cond
    | refine Det.need ?_
    | refine Det.chk ?_
    | split
    )
theorem det_shiftOp {op : BinOp} {k : IntKind} {a b : Int} : Det (fun K => shiftOp op k a b K) := by
  unfold shiftOp
  repeat' (first
    | exact Det.none
    | exact Det.const _
    | exact Det.opt _
    | exact Det.cond
    | refine Det.need ?_
    | refine Det.chk ?_
    | split
    )
theorem det_strOp {op : BinOp} {a b : ByteArray} : Det (fun K => strOp op a b K) := by
  unfold strOp
  repeat' (first
    | exact Det.none
    | exact Det.const _
    | exact Det.opt _
    | exact Det.cond
    | refine Det.need ?_
    | refine Det.chk ?_
    | split
    )
theorem det_aun {op : UnOp} {v : AV} : Det (fun K => aun op v K) := by
  unfold aun
  repeat' (first
    | exact Det.none
    | exact Det.const _
    | exact Det.opt _
    | exact Det.cond
    | refine Det.need ?_
    | refine Det.chk ?_
    | split
    )
theorem det_aconv {P : Program} {a b : TypeId} {v : AV} : Det (fun K => aconv P a b v K) := by
  unfold aconv
  repeat' (first
    | exact Det.none
    | exact Det.const _
    | exact Det.opt _
    | exact Det.cond
    | refine Det.need ?_
    | refine Det.chk ?_
    | split
    )
theorem det_asli {P : Program} {mu : Bool} {H : List AObj} {t : TypeId} {x : AV} {lo hi mx : Option AV} : Det (fun K => asli P mu H t x lo hi mx K) := by
  unfold asli
  repeat' (first
    | exact Det.none
    | exact Det.const _
    | exact Det.opt _
    | exact Det.cond
    | refine Det.need ?_
    | refine Det.chk ?_
    | split
    )
theorem det_afieldAddr {P : Program} {t : TypeId} {x : AV} {f : Nat} : Det (fun K => afieldAddr P t x f K) := by
  unfold afieldAddr
  repeat' (first
    | exact Det.none
    | exact Det.const _
    | exact Det.opt _
    | exact Det.cond
    | refine Det.need ?_
    | refine Det.chk ?_
    | split
    )
theorem det_afield {P : Program} {t : TypeId} {x : AV} {f : Nat} : Det (fun K => afield P t x f K) := by
  unfold afield
  repeat' (first
    | exact Det.none
    | exact Det.const _
    | exact Det.opt _
    | exact Det.cond
    | refine Det.need ?_
    | refine Det.chk ?_
    | split
    )
theorem det_aindexAddr {P : Program} {t : TypeId} {x i : AV} : Det (fun K => aindexAddr P t x i K) := by
  unfold aindexAddr
  repeat' (first
    | exact Det.none
    | exact Det.const _
    | exact Det.opt _
    | exact Det.cond
    | refine Det.need ?_
    | refine Det.chk ?_
    | split
    )
theorem det_aindex {P : Program} {t : TypeId} {x i : AV} : Det (fun K => aindex P t x i K) := by
  unfold aindex
  repeat' (first
    | exact Det.none
    | exact Det.const _
    | exact Det.opt _
    | exact Det.cond
    | refine Det.need ?_
    | refine Det.chk ?_
    | split
    )
theorem det_aextract {x : AV} {i : Nat} : Det (fun K => aextract x i K) := by
  unfold aextract
  repeat' (first
    | exact Det.none
    | exact Det.const _
    | exact Det.opt _
    | exact Det.cond
    | refine Det.need ?_
    | refine Det.chk ?_
    | split
    )
theorem det_alen {P : Program} {ts : List TypeId} {xs : List AV} {H : List AObj} : Det (fun K => alen P ts xs H K) := by
  unfold alen
  repeat' (first
    | exact Det.none
    | exact Det.const _
    | exact Det.opt _
    | exact Det.cond
    | refine Det.need ?_
    | refine Det.chk ?_
    | split
    )

theorem det_amm (mx : Bool) : ∀ (k : IntKind) (a : Int) (xs : List AV), Det (fun K => amm mx k a xs K)
  | k, a, [] => Det.const _
  | k, a, x :: xs => by
    cases x <;> first
      | exact det_amm mx k _ xs
      | exact Det.none

theorem det_aminmax {mx : Bool} {xs : List AV} : Det (fun K => aminmax mx xs K) := by
  unfold aminmax
  split
  · exact det_amm mx _ _ _
  · exact Det.none

theorem det_boolP {o : Option Bool} {f : Bool → AV} : Det (fun K => boolP o fun b => K (f b)) := by
  intro K h
  cases o with
  | none => exact h.elim
  | some b => exact ⟨f b, rfl, h⟩

theorem det_aeqAgg {P : Program} {t : TypeId} {xs ys : List AV} {f : Bool → AV} : Det (fun K => aeqAgg P t xs ys fun b => K (f b)) := by
  unfold aeqAgg
  split
  · exact Det.chk det_boolP
  · exact Det.chk det_boolP

theorem det_abin {P : Program} {op : BinOp} {t : TypeId} {x y : AV} (hs : (op = .eql ∨ op = .neq) → slish P t = false) : Det (fun K => abin P op t x y K) := by
  intro K h
  unfold abin at h ⊢
  split at h
  · split at h
    · exact det_shiftOp K h
    · exact Det.chk det_intOp K h
  · exact det_strOp K h
  · split at h
    · have hn := hs (.inl rfl)
      unfold aeq at h ⊢
      split at h <;> first
        | exact h.elim
        | (obtain ⟨c1, h⟩ := chk_elim h; rw [hn] at c1; cases c1)
        | exact (Det.chk (Det.const _)) K h
        | exact det_aeqAgg K h
    · have hn := hs (.inr rfl)
      unfold aeq at h ⊢
      split at h <;> first
        | exact h.elim
        | (obtain ⟨c1, h⟩ := chk_elim h; rw [hn] at c1; cases c1)
        | exact (Det.chk (Det.const _)) K h
        | exact det_aeqAgg K h
    · exact h.elim

theorem aop_pick {P : Program} {R : FuncId → List Ret} {mu : Bool} {s : Slots} {c x y : Operand} {H : List AObj} {K : AV → List AObj → Prop} :
    aop P R mu s (.pick c x y) H K = (match ev s c with | .bool t => condP t (K (ev s x) H) (K (ev s y) H) | _ => False) := rfl
theorem aop_makeInterface {P : Program} {R : FuncId → List Ret} {mu : Bool} {s : Slots} {t : TypeId} {x : Operand} {H : List AObj} {K : AV → List AObj → Prop} :
    aop P R mu s (.makeInterface t x) H K = chk (match P.underlying t with | some (.interface _) | none => false | _ => true) (K (.iface t (ev s x)) H) := rfl
theorem aop_makeFunc {P : Program} {R : FuncId → List Ret} {mu : Bool} {s : Slots} {f : FuncId} {first captured : Array Operand} {H : List AObj} {K : AV → List AObj → Prop} :
    aop P R mu s (.makeFunc (.func f) first captured) H K = chk first.isEmpty (K (.fn f (captured.toList.map (ev s))) H) := rfl

theorem aop_makeMeth {P : Program} {R : FuncId → List Ret} {mu : Bool} {s : Slots} {name : String} {first captured : Array Operand} {H : List AObj} {K : AV → List AObj → Prop} :
    aop P R mu s (.makeFunc (.method name) first captured) H K = chk captured.isEmpty (match first.toList.map (ev s) with | [.iface t v] => K (.meth t name v) H | _ => False) := rfl

/-- AN OPERATION THAT DOES NOT ACT HAS ONE ANSWER, and leaves the heap alone. -/
theorem aop_det {P : Program} {R : FuncId → List Ret} {mu : Bool} {s : Slots} {o : Op} {H : List AObj} {K : AV → List AObj → Prop} (hx : isX o = false) (hc : isC mu o = false) (hsure : sureOp P o = true) (h : aop P R mu s o H K) :
    ∃ v, aop P R mu s o H (fun v' H' => v' = v ∧ H' = H) ∧ K v H := by
  have lift : ∀ {F : (AV → Prop) → Prop}, Det F → F (fun v => K v H) → ∃ v, F (fun v' => v' = v ∧ H = H) ∧ K v H := by
    intro F hd hk
    obtain ⟨v, h1, h2⟩ := hd _ hk
    refine ⟨v, ?_, h2⟩
    have : (fun v' : AV => v' = v ∧ H = H) = fun v' => v' = v := by funext v'; simp
    rw [this]; exact h1
  cases o with
  | move x => exact ⟨_, ⟨rfl, rfl⟩, h⟩
  | pick c x y =>
    rw [aop_pick] at h
    split at h
    · rename_i t ht
      obtain ⟨v, h1, h2⟩ := lift (F := fun K => condP t (K (ev s x)) (K (ev s y))) Det.cond h
      refine ⟨v, ?_, h2⟩
      rw [aop_pick, ht]; exact h1
    · exact h.elim
  | build t parts => exact lift (F := fun K => abuild P t _ K) det_abuild h
  | buildSlice t n parts =>
    have hc' : mu = false := hc
    subst hc'
    exact lift (F := fun K => abuildSlice P t n _ K) det_abuildSlice h
  | load t x => exact lift (F := fun K => aload P t _ H K) det_aload h
  | nilCheck x => exact lift (F := fun K => anilCheck P _ K) det_anilCheck h
  | binOp op t x y yt =>
    refine lift (F := fun K => abin P op t _ _ K) (det_abin ?_) h
    rintro (rfl | rfl) <;> simpa [sureOp] using hsure
  | unOp op t x => exact lift (F := fun K => aun op _ K) det_aun h
  | convert a b x =>
    have hc' : mu = false := hc
    subst hc'
    exact lift (F := fun K => aconv P a b _ K) det_aconv h
  | makeInterface t x =>
    rw [aop_makeInterface] at h
    obtain ⟨v, h1, h2⟩ := lift (F := fun K => chk _ (K (.iface t (ev s x)))) (Det.chk (Det.const _)) h
    exact ⟨v, by rw [aop_makeInterface]; exact h1, h2⟩
  | makeFunc fn first captured =>
    cases fn with
    | func f =>
      rw [aop_makeFunc] at h
      obtain ⟨v, h1, h2⟩ := lift (F := fun K => chk first.isEmpty (K (.fn f (captured.toList.map (ev s))))) (Det.chk (Det.const _)) h
      exact ⟨v, by rw [aop_makeFunc]; exact h1, h2⟩
    | method name =>
      rw [aop_makeMeth] at h
      obtain ⟨v, h1, h2⟩ := lift (F := fun K => chk captured.isEmpty (match first.toList.map (ev s) with | [.iface t v] => K (.meth t name v) | _ => False)) (Det.chk (by
        split
        · exact Det.const _
        · exact Det.none)) h
      exact ⟨v, by rw [aop_makeMeth]; exact h1, h2⟩
    | _ => exact h.elim
  | slice t x lo hi mx => exact lift (F := fun K => asli P _ _ t _ _ _ _ K) det_asli h
  | fieldAddr t x f => exact lift (F := fun K => afieldAddr P t _ f K) det_afieldAddr h
  | field t x f => exact lift (F := fun K => afield P t _ f K) det_afield h
  | indexAddr t x i => exact lift (F := fun K => aindexAddr P t _ _ K) det_aindexAddr h
  | index t x i => exact lift (F := fun K => aindex P t _ _ K) det_aindex h
  | extract x i => exact lift (F := fun K => aextract _ i K) det_aextract h
  | call c =>
    obtain ⟨callee, args, ts⟩ := c
    cases callee with
    | builtin b =>
      cases b <;> simp only [isX, reduceCtorEq] at hx
      · exact lift (F := fun K => alen P _ _ H K) det_alen h
      · exact lift (F := fun K => aminmax true _ K) det_aminmax h
      · exact lift (F := fun K => aminmax false _ K) det_aminmax h
    | value f => cases hx
    | invoke r n => cases hx
  | assign x => cases hx
  | alloc t => cases hx
  | box t x => cases hx
  | store t x y => cases hx
  | makeSlice t l c => cases hx
  | range t x => cases hx
  | typeAssert x xt asserted ok => cases hx
  | next x str => cases hx
  | makeMap t r => cases hx
  | lookup t x k ok => cases hx
  | mapUpdate t x k v => cases hx
  | _ => exact h.elim

theorem asli_heap {P : Program} {H H2 : List AObj} {t : TypeId} {x : AV} {lo hi mx : Option AV} {K : AV → Prop} (h : asli P false H t x lo hi mx K) : asli P false H2 t x lo hi mx K := h

/-- ... and if it does not look at the heap either, it is the same in any heap. -/
theorem aop_indep {P : Program} {R : FuncId → List Ret} {mu : Bool} {s : Slots} {o : Op} {H H2 : List AObj} {u : AV} (hx : isX o = false) (hc : isC mu o = false) (hl : isL o = false) (hm : isS mu o = false) (h : aop P R mu s o H (fun v' H' => v' = u ∧ H' = H)) :
    aop P R mu s o H2 (fun v' H' => v' = u ∧ H' = H2) := by
  have e : (fun v' : AV => v' = u ∧ H = H) = fun v' => v' = u ∧ H2 = H2 := by funext v'; simp
  have conv : ∀ {F : (AV → Prop) → Prop}, F (fun v' => v' = u ∧ H = H) → F (fun v' => v' = u ∧ H2 = H2) := fun {F} hf => e ▸ hf
  cases o with
  | move x => exact ⟨h.1, rfl⟩
  | pick c x y =>
    rw [aop_pick] at h ⊢
    split at h
    · rename_i t ht
      cases t with
      | true => exact ⟨h.1, rfl⟩
      | false => exact ⟨h.1, rfl⟩
    · exact h.elim
  | build t parts => exact conv (F := fun K => abuild P t _ K) h
  | buildSlice t n parts =>
    have hc' : mu = false := hc
    subst hc'
    exact conv (F := fun K => abuildSlice P t n _ K) h
  | load t x => cases hl
  | nilCheck x => exact conv (F := fun K => anilCheck P _ K) h
  | binOp op t x y yt => exact conv (F := fun K => abin P op t _ _ K) h
  | unOp op t x => exact conv (F := fun K => aun op _ K) h
  | convert a b x =>
    have hc' : mu = false := hc
    subst hc'
    exact conv (F := fun K => aconv P a b _ K) h
  | makeInterface t x =>
    rw [aop_makeInterface] at h ⊢
    obtain ⟨c1, h⟩ := chk_elim h
    rw [c1]; exact ⟨h.1, rfl⟩
  | makeFunc fn first captured =>
    cases fn with
    | func f =>
      rw [aop_makeFunc] at h ⊢
      obtain ⟨c1, h⟩ := chk_elim h
      rw [c1]; exact ⟨h.1, rfl⟩
    | method name =>
      rw [aop_makeMeth] at h ⊢
      obtain ⟨c1, h⟩ := chk_elim h
      rw [c1]
      split at h
      · exact ⟨h.1, rfl⟩
      · exact h.elim
    | _ => exact h.elim
  | slice t x lo hi mx =>
    have hm' : mu = false := hm
    subst hm'
    have h1 : asli P false H t (ev s x) (lo.map (ev s)) (hi.map (ev s)) (mx.map (ev s)) (fun v' => v' = u ∧ H = H) := h
    rw [e] at h1
    exact asli_heap (H2 := H2) h1
  | fieldAddr t x f => exact conv (F := fun K => afieldAddr P t _ f K) h
  | field t x f => exact conv (F := fun K => afield P t _ f K) h
  | indexAddr t x i => exact conv (F := fun K => aindexAddr P t _ _ K) h
  | index t x i => exact conv (F := fun K => aindex P t _ _ K) h
  | extract x i => exact conv (F := fun K => aextract _ i K) h
  | call c =>
    obtain ⟨callee, args, ts⟩ := c
    cases callee with
    | builtin b =>
      cases b <;> simp only [isX, isL, reduceCtorEq] at hx hl
      · exact conv (F := fun K => aminmax true _ K) h
      · exact conv (F := fun K => aminmax false _ K) h
    | value f => cases hx
    | invoke r n => cases hx
  | assign x => cases hx
  | alloc t => cases hx
  | box t x => cases hx
  | store t x y => cases hx
  | makeSlice t l c => cases hx
  | range t x => cases hx
  | typeAssert x xt asserted ok => cases hx
  | next x str => cases hx
  | makeMap t r => cases hx
  | lookup t x k ok => cases hx
  | mapUpdate t x k v => cases hx
  | _ => exact h.elim

/-! ### one order stands for all -/
section
variable {P : Program} {cfg : Cfg} {ops : Array Oper} {masks : List Nat}

structure PairOk (P : Program) (cfg : Cfg) (ops : Array Oper) (masks : List Nat) (i j : Nat) (oi oj : Oper) : Prop where
  ne : i ≠ j
  pred : j ∉ predsOf oi
  x : isXo cfg oi = true → befB masks i j = true
  apart : oi.apart ops oj = true ∨ befB masks i j = true
  dst : isXo cfg oi = false → ∀ d, oi.dst = some d → oj.dst ≠ some d
  war : isXo cfg oj = false → ∀ d, oj.dst = some d → d ∉ oi.looksAt ops

theorem pairOk_spec {i j : Nat} {oi oj : Oper} (h : pairOk P cfg ops masks i j oi oj = true) : PairOk P cfg ops masks i j oi oj := by
  unfold pairOk at h
  simp only [Bool.and_eq_true] at h
  obtain ⟨⟨⟨⟨⟨h1, h2⟩, h3⟩, h4⟩, h5⟩, h6⟩ := h
  refine ⟨?_, ?_, ?_, ?_, ?_, ?_⟩
  · rintro rfl; simp at h1
  · simpa using h2
  · intro hx; simpa [hx] using h3
  · simpa using h4
  · intro hx d hd hd'
    rw [hx, hd, hd'] at h5
    simp at h5
  · intro hx d hd
    rw [hx, hd] at h6
    simpa using h6

theorem orderOk_spec : ∀ {c : List Nat}, orderOk P cfg ops masks c = true → ∀ l1 i l2, c = l1 ++ i :: l2 →
    ∃ oi, ops[i]? = some oi ∧ (isXo cfg oi = false → sureOp P oi.op = true ∧ ∃ d, oi.dst = some d ∧ d ∉ oi.looksAt ops) ∧ ∀ j ∈ l2, ∃ oj, ops[j]? = some oj ∧ PairOk P cfg ops masks i j oi oj
  | [], _, l1, i, l2, e => by simp at e
  | k :: r, h, l1, i, l2, e => by
    simp only [orderOk, Bool.and_eq_true] at h
    cases l1 with
    | nil =>
      simp only [List.nil_append, List.cons.injEq] at e
      obtain ⟨rfl, rfl⟩ := e
      have h1 := h.1
      split at h1
      case h_2 => cases h1
      case h_1 oi hoi =>
      rw [Bool.and_eq_true] at h1
      refine ⟨oi, hoi, ?_, ?_⟩
      · intro hx
        have h2 := h1.1
        rw [hx, Bool.false_or, Bool.and_eq_true] at h2
        refine ⟨h2.1, ?_⟩
        have h3 := h2.2
        split at h3
        · rename_i d hd; exact ⟨d, hd, by simpa using h3⟩
        · cases h3
      · intro j hj
        have := List.all_eq_true.1 h1.2 j hj
        split at this
        · rename_i oj hoj; exact ⟨oj, hoj, pairOk_spec this⟩
        · cases this
    | cons a l1 =>
      simp only [List.cons_append, List.cons.injEq] at e
      exact orderOk_spec h.2 l1 i l2 e.2

theorem maskOk_spec {i j : Nat} {o : Oper} (h : maskOk ops masks i = true) (ho : ops[i]? = some o) (hb : befB masks j i = true) : j ∈ predsOf o ∨ ∃ p ∈ predsOf o, befB masks j p = true := by
  unfold maskOk at h
  rw [ho] at h
  simp only [Bool.and_eq_true] at h
  have h1 := Nat.eq_of_beq_eq_true h.1
  have h2 : ((predsOf o).foldl (fun u p => u ||| (2 ^ p ||| masks.getD p 0)) 0).testBit j = true := by
    rw [← h1, Nat.testBit_or]
    simp only [befB] at hb
    rw [hb]; rfl
  have key : ∀ (l : List Nat) (u : Nat), (l.foldl (fun u p => u ||| (2 ^ p ||| masks.getD p 0)) u).testBit j = true → u.testBit j = true ∨ j ∈ l ∨ ∃ p ∈ l, befB masks j p = true := by
    intro l
    induction l with
    | nil => intro u h; exact .inl h
    | cons p l ih =>
      intro u h
      rw [List.foldl_cons] at h
      rcases ih _ h with h | h | ⟨q, hq, h⟩
      · rw [Nat.testBit_or, Nat.testBit_or, Bool.or_eq_true, Bool.or_eq_true] at h
        rcases h with h | h | h
        · exact .inl h
        · rw [Nat.testBit_two_pow] at h
          have : p = j := by simpa using h
          subst this
          exact .inr (.inl (by simp))
        · exact .inr (.inr ⟨p, by simp, h⟩)
      · exact .inr (.inl (by simp [h]))
      · exact .inr (.inr ⟨q, by simp [hq], h⟩)
  rcases key _ _ h2 with h | h | h
  · simp at h
  · exact .inl h
  · exact .inr h

theorem Pend_congr {s s' : Slots} {H : List AObj} {j : Nat} (h : ∀ o, ops[j]? = some o → (∀ d ∈ o.looksAt ops, get s' d = get s d) ∧ ∀ d, o.dst = some d → get s' d = get s d) (hp : Pend P cfg ops s H j) : Pend P cfg ops s' H j := by
  unfold Pend at hp ⊢
  split at hp
  case h_2 => exact hp.elim
  case h_1 o ho =>
  obtain ⟨h1, h2⟩ := h o ho
  split at hp
  case h_2 => exact hp.elim
  case h_1 d hd =>
  rw [h2 d hd]
  have hops : ∀ x ∈ o.op.operands, ev s x = ev s' x := by
    intro x hx
    cases x with
    | tmp t =>
      refine (h1 t ?_).symm
      simp only [Oper.looksAt, List.mem_append, List.mem_filterMap]
      exact .inl ⟨.tmp t, by simpa using hx, rfl⟩
    | _ => rfl
  cases hg : o.guard with
  | none =>
    rw [hg] at hp
    exact aop_congr hops hp
  | some jw =>
    obtain ⟨g, want⟩ := jw
    rw [hg] at hp
    simp only at hp ⊢
    split at hp
    case h_2 => exact hp.elim
    case h_1 gd hgd =>
    have hgd' : get s' gd = get s gd := h1 gd (by
      simp only [Oper.looksAt, List.mem_append]
      right; rw [hg]; simp [hgd])
    simp only [hgd']
    split at hp
    case h_3 => exact hp.elim
    case h_2 hb => exact hp
    case h_1 b hb =>
    split at hp
    · exact aop_congr hops hp
    · exact aop_congr hops hp
    · exact hp

theorem Pend_heap {s : Slots} {H H2 : List AObj} {j : Nat} {o : Oper} (ho : ops[j]? = some o) (hx : isXo cfg o = false) (hl : isL o.op = false) (hm : isS (muOf cfg o) o.op = false) (hp : Pend P cfg ops s H j) : Pend P cfg ops s H2 j := by
  unfold Pend at hp ⊢
  rw [ho] at hp ⊢
  simp only at hp ⊢
  split at hp
  case h_2 => exact hp.elim
  case h_1 d hd =>
  split at hp
  · exact aop_indep (Bool.or_eq_false_iff.1 hx).1 (Bool.or_eq_false_iff.1 hx).2 hl hm hp
  · split at hp
    case h_2 => exact hp.elim
    case h_1 gd hgd =>
    split at hp
    case h_3 => exact hp.elim
    case h_2 hb => exact hp
    case h_1 b hb =>
    split at hp
    · exact aop_indep (Bool.or_eq_false_iff.1 hx).1 (Bool.or_eq_false_iff.1 hx).2 hl hm hp
    · exact aop_indep (Bool.or_eq_false_iff.1 hx).1 (Bool.or_eq_false_iff.1 hx).2 hl hm hp
    · exact hp

theorem pendAll_elim {i : Nat} {s : Slots} {H : List AObj} : ∀ {log : List Nat} {A : Prop}, pendAll P cfg ops masks i s H log A → (∀ j ∈ log, befB masks j i = false → Pend P cfg ops s H j) ∧ A
  | [], A, h => ⟨fun j hj => by simp at hj, h⟩
  | j :: r, A, h => by
    simp only [pendAll] at h
    split at h
    · rename_i hb
      obtain ⟨h1, h2⟩ := pendAll_elim h
      refine ⟨fun k hk hbk => ?_, h2⟩
      rcases List.mem_cons.1 hk with rfl | hk
      · rw [hb] at hbk; cases hbk
      · exact h1 k hk hbk
    · obtain ⟨h1, h2⟩ := pendAll_elim h.2
      refine ⟨fun k hk hbk => ?_, h2⟩
      rcases List.mem_cons.1 hk with rfl | hk
      · exact h.1
      · exact h1 k hk hbk

/-- what an operation that does not act makes of the slots -/
theorem aoper_sure {s : Slots} {H : List AObj} {o : Oper} {j : Nat} {K : Slots → List AObj → Prop} {d : Nat} (ho : ops[j]? = some o) (hx : isXo cfg o = false) (hs : sureOp P o.op = true) (hd : o.dst = some d) (hself : d ∉ o.looksAt ops)
    (h : aoper P cfg ops s o H K) : ∃ s', K s' H ∧ (∀ i, i ≠ d → get s' i = get s i) ∧ Pend P cfg ops s' H j ∧ d < cfg.N := by
  have hops : ∀ s', (∀ i, i ≠ d → get s' i = get s i) → ∀ x ∈ o.op.operands, ev s x = ev s' x := by
    intro s' hs' x hx
    cases x with
    | tmp t =>
      refine (hs' t ?_).symm
      rintro rfl
      refine hself ?_
      simp only [Oper.looksAt, List.mem_append, List.mem_filterMap]
      exact .inl ⟨.tmp t, by simpa using hx, rfl⟩
    | _ => rfl
  have getd : ∀ (s1 : Slots) v, get ((d, v) :: s1) d = v := by intro s1 v; simp [get]
  have getne : ∀ (s1 : Slots) v i, i ≠ d → get ((d, v) :: s1) i = get s1 i := by
    intro s1 v i hi
    simp only [get]
    cases hb : Nat.beq d i with
    | true => exact absurd (Nat.eq_of_beq_eq_true hb).symm hi
    | false => rfl
  have hrun : ∀ s1, (∀ i, get s1 i = get s i) → aop P cfg.ret (muOf cfg o) s1 o.op H (fun v H' => aput cfg.N s1 o.dst v fun s' => K s' H') →
      ∃ s' v, s' = (d, v) :: s1 ∧ K s' H ∧ aop P cfg.ret (muOf cfg o) s' o.op H (fun v' H' => v' = get s' d ∧ H' = H) ∧ d < cfg.N := by
    intro s1 he h
    obtain ⟨v, h1, h2⟩ := aop_det (Bool.or_eq_false_iff.1 hx).1 (Bool.or_eq_false_iff.1 hx).2 hs h
    rw [hd] at h2
    obtain ⟨hb, hK⟩ := chk_elim h2
    refine ⟨_, v, rfl, hK, ?_, by simpa [Nat.blt_eq] using hb⟩
    rw [getd]
    refine aop_congr (s := s1) ?_ h1
    intro x hxx
    have h3 := hops s1 (fun i _ => he i) x hxx
    have h4 := hops ((d, v) :: s1) (fun i hi => by rw [getne _ _ _ hi]; exact he i) x hxx
    rw [← h3, ← h4]
  have hskip : ∀ s1, aput cfg.N s1 o.dst (.tup []) (fun s' => K s' H) → K ((d, .tup []) :: s1) H ∧ d < cfg.N := by
    intro s1 h
    rw [hd] at h
    obtain ⟨hb, hK⟩ := chk_elim h
    exact ⟨hK, by simpa [Nat.blt_eq] using hb⟩
  unfold aoper at h
  simp only at h
  unfold Pend
  rw [ho]
  simp only [hd]
  cases hg : o.guard with
  | none =>
    rw [hg] at h
    obtain ⟨s', v, rfl, h1, h2, h3⟩ := hrun s (fun _ => rfl) h
    exact ⟨_, h1, getne s v, h2, h3⟩
  | some jw =>
    obtain ⟨g, want⟩ := jw
    rw [hg] at h
    simp only at h
    split at h
    case h_2 => exact h.elim
    case h_1 gd hgd =>
    split at h
    case h_3 => exact h.elim
    case h_2 hb =>
      have hgne : gd ≠ d := by
        rintro rfl
        refine hself ?_
        simp only [Oper.looksAt, List.mem_append]
        right; rw [hg]; simp [hgd]
      obtain ⟨h1, h3⟩ := hskip _ h
      refine ⟨_, h1, getne s (.tup []), ?_, h3⟩
      simp only [hgd]
      rw [getne _ _ _ hgne, hb]
      exact getd _ _
    case h_1 b hb =>
    obtain ⟨hlt, h⟩ := chk_elim h
    have hgne : gd ≠ d := by
      rintro rfl
      refine hself ?_
      simp only [Oper.looksAt, List.mem_append]
      right; rw [hg]; simp [hgd]
    have hknow : ∀ i, get ((gd, .bool b) :: s) i = get s i := by
      intro i
      simp only [get]
      cases hq : Nat.beq gd i with
      | true => have := Nat.eq_of_beq_eq_true hq; subst this; exact hb.symm
      | false => rfl
    have hs1 : ∀ v i, i ≠ d → get ((d, v) :: (gd, .bool b) :: s) i = get s i := fun v i hi => by rw [getne _ _ _ hi]; exact hknow i
    have hgv : ∀ v, get ((d, v) :: (gd, .bool b) :: s) gd = .bool b := fun v => by rw [hs1 v gd hgne]; exact hb
    simp only [hgd]
    cases b with
    | true =>
      simp only [condP] at h
      cases want with
      | true =>
        obtain ⟨s', v, rfl, h1, h2, h3⟩ := hrun _ hknow h
        refine ⟨_, h1, hs1 v, ?_, h3⟩
        rw [hgv]; exact h2
      | false =>
        obtain ⟨h1, h3⟩ := hskip _ h
        refine ⟨_, h1, hs1 (.tup []), ?_, h3⟩
        rw [hgv]; exact getd _ _
    | false =>
      simp only [condP] at h
      cases want with
      | true =>
        obtain ⟨h1, h3⟩ := hskip _ h
        refine ⟨_, h1, hs1 (.tup []), ?_, h3⟩
        rw [hgv]; exact getd _ _
      | false =>
        obtain ⟨s', v, rfl, h1, h2, h3⟩ := hrun _ hknow h
        refine ⟨_, h1, hs1 v, ?_, h3⟩
        rw [hgv]; exact h2

end
end Go.Ab
end

section
/- A region that draws its order: the simulation. -/

set_option linter.unusedVariables false
set_option linter.unusedSimpArgs false
namespace Go.Ab
section
variable {ro : Option Nat} {P : Program} {cfg : Cfg} {ops : Array Oper} {masks : List Nat} {c : List Nat} {K : Slots → List AObj → Prop} {M0 : Mem} {loc0 : Locs} {H0 : List AObj} {w0 : World} {D0 : List Deferred}

def Li (listed : Array Bool) (i : Nat) : Bool := listed.getD i false

structure Inv (P : Program) (cfg : Cfg) (ops : Array Oper) (masks : List Nat) (c : List Nat) (K : Slots → List AObj → Prop) (M0 : Mem) (loc0 : Locs) (H0 : List AObj) (w0 : World) (D0 : List Deferred)
    (listed : Array Bool) (c1 c2 : List Nat) (s : Slots) (H : List AObj) (M : Mem) (loc : Locs) (a : Act) (w : World) : Prop where
  split : c = c1 ++ c2
  sz : listed.size = ops.size
  unl : ∀ i ∈ c2, Li listed i = false
  lx : ∀ i ∈ c1, ∀ o, ops[i]? = some o → isXo cfg o = true → Li listed i = true
  cl : ∀ i j, Li listed i = true → befB masks j i = true → Li listed j = true
  log : ∃ log, (∀ i ∈ c1, ∀ o, ops[i]? = some o → (isL o.op || isS (muOf cfg o) o.op) = true → i ∈ log) ∧ adrawL P cfg ops masks c2 log s H K
  rel : Rel M loc H w
  step : Step M0 loc0 H0 w0 M loc H w
  slots : ∀ d, (∃ i ∈ c1, Li listed i = false ∧ ∃ o, ops[i]? = some o ∧ o.dst = some d) ∨ VRel M w loc (get s d) (a.tmps.getD d undef)
  pend : ∀ i ∈ c1, Li listed i = false → Pend P cfg ops s H i
  bnd : ∀ i ∈ c1, Li listed i = false → ∀ o d, ops[i]? = some o → o.dst = some d → d < cfg.N
  size : a.tmps.size = cfg.N
  defers : a.defers = D0
  start : Rel M0 loc0 H0 w0 ∧ Tabs P M0 w0

/-- what is known of our order -/
structure Good (P : Program) (cfg : Cfg) (ops : Array Oper) (masks : List Nat) (c : List Nat) : Prop where
  order : orderOk P cfg ops masks c = true
  all : ∀ i, i < ops.size → i ∈ c
  mask : ∀ i, i < ops.size → maskOk ops masks i = true

theorem Good.pair (h : Good P cfg ops masks c) {l1 i l2 j oi oj} (e : c = l1 ++ i :: l2) (hj : j ∈ l2) (hi : ops[i]? = some oi) (ho : ops[j]? = some oj) : PairOk P cfg ops masks i j oi oj := by
  obtain ⟨oi', h1, _, h2⟩ := orderOk_spec h.order l1 i l2 e
  rw [hi] at h1; cases h1
  obtain ⟨oj', h3, h4⟩ := h2 j hj
  rw [ho] at h3; cases h3
  exact h4

theorem Good.op (h : Good P cfg ops masks c) {i} (hi : i ∈ c) : ∃ o, ops[i]? = some o ∧ (isXo cfg o = false → sureOp P o.op = true ∧ ∃ d, o.dst = some d ∧ d ∉ o.looksAt ops) := by
  obtain ⟨l1, l2, e⟩ := List.append_of_mem hi
  obtain ⟨o, h1, h2, _⟩ := orderOk_spec h.order l1 i l2 e
  exact ⟨o, h1, h2⟩

theorem Good.self (h : Good P cfg ops masks c) {l1 i l2} (e : c = l1 ++ i :: l2) : i ∉ l2 ∧ i ∉ l1 := by
  constructor
  · intro hm
    obtain ⟨o, ho, _⟩ := h.op (show i ∈ c by rw [e]; simp)
    exact (h.pair e hm ho ho).ne rfl
  · intro hm
    obtain ⟨k1, k2, e2⟩ := List.append_of_mem hm
    obtain ⟨o, ho, _⟩ := h.op (show i ∈ c by rw [e]; simp)
    have e3 : c = k1 ++ i :: (k2 ++ i :: l2) := by rw [e, e2]; simp
    exact (h.pair e3 (by simp) ho ho).ne rfl

/-- two members: the one or the other is ahead -/
theorem two_of {c : List Nat} {i j : Nat} (hi : i ∈ c) (hj : j ∈ c) (hne : i ≠ j) : (∃ l1 l2, c = l1 ++ i :: l2 ∧ j ∈ l2) ∨ (∃ l1 l2, c = l1 ++ j :: l2 ∧ i ∈ l2) := by
  obtain ⟨l1, l2, e⟩ := List.append_of_mem hi
  rw [e] at hj
  rcases List.mem_append.1 hj with h | h
  · right
    obtain ⟨k1, k2, e2⟩ := List.append_of_mem h
    exact ⟨k1, k2 ++ i :: l2, by rw [e, e2]; simp, by simp⟩
  · left
    rcases List.mem_cons.1 h with h | h
    · exact (hne h.symm).elim
    · exact ⟨l1, l2, e, h⟩

/-- an operation that does not act is taken in ahead of its time -/
theorem Inv.absorb (hg : Good P cfg ops masks c) {listed c1 j r s H M loc a w} (h : Inv P cfg ops masks c K M0 loc0 H0 w0 D0 listed c1 (j :: r) s H M loc a w) {o : Oper} (ho : ops[j]? = some o) (hx : isXo cfg o = false) :
    ∃ s', Inv P cfg ops masks c K M0 loc0 H0 w0 D0 listed (c1 ++ [j]) r s' H M loc a w := by
  obtain ⟨o', ho', hs⟩ := hg.op (show j ∈ c by rw [h.split]; simp)
  rw [ho] at ho'; cases ho'
  obtain ⟨hsure, d, hd, hself⟩ := hs hx
  obtain ⟨log, hlog, hk⟩ := h.log
  simp only [adrawL] at hk
  rw [ho] at hk
  simp only at hk
  rw [hx] at hk
  simp only at hk
  obtain ⟨s', hK, hget, hp, hlt⟩ := aoper_sure ho hx hsure hd hself hk
  refine ⟨s', ⟨by rw [h.split]; simp, h.sz, fun i hi => h.unl i (by simp [hi]), ?_, h.cl, ?_, h.rel, h.step, ?_, ?_, ?_, h.size, h.defers, h.start⟩⟩
  · intro i hi o2 ho2 hx2
    rcases List.mem_append.1 hi with hi | hi
    · exact h.lx i hi o2 ho2 hx2
    · simp only [List.mem_singleton] at hi
      subst hi
      rw [ho] at ho2; cases ho2; rw [hx] at hx2; cases hx2
  · refine ⟨_, ?_, hK⟩
    intro i hi o2 ho2 hl2
    rcases List.mem_append.1 hi with hi | hi
    · have := hlog i hi o2 ho2 hl2
      cases (isL o.op || isS (muOf cfg o) o.op) <;> simp [this]
    · simp only [List.mem_singleton] at hi
      subst hi
      rw [ho] at ho2; cases ho2; rw [hl2]; simp
  · intro q
    by_cases e : q = d
    · subst e
      exact .inl ⟨j, by simp, h.unl j (by simp), o, ho, hd⟩
    · rcases h.slots q with ⟨i, hi, rest⟩ | hv
      · exact .inl ⟨i, by simp [hi], rest⟩
      · right; rw [hget q e]; exact hv
  · intro i hi hl
    rcases List.mem_append.1 hi with hi | hi
    · have hpi := h.pend i hi hl
      refine Pend_congr (fun oi hoi => ?_) hpi
      obtain ⟨k1, k2, e2⟩ := List.append_of_mem hi
      have e3 : c = k1 ++ i :: (k2 ++ j :: r) := by rw [h.split, e2]; simp
      have hpair := hg.pair e3 (show j ∈ k2 ++ j :: r by simp) hoi ho
      have hxi : isXo cfg oi = false := by
        cases hq : isXo cfg oi with
        | false => rfl
        | true => have := h.lx i hi oi hoi hq; rw [hl] at this; cases this
      refine ⟨fun q hq => hget q ?_, fun q hq => hget q ?_⟩
      · rintro rfl; exact hpair.war hx _ hd hq
      · rintro rfl; exact hpair.dst hxi _ hq hd
    · simp only [List.mem_singleton] at hi
      subst hi; exact hp
  · intro i hi hl o2 d2 ho2 hd2
    rcases List.mem_append.1 hi with hi | hi
    · exact h.bnd i hi hl o2 d2 ho2 hd2
    · simp only [List.mem_singleton] at hi
      subst hi
      rw [ho] at ho2; cases ho2; rw [hd] at hd2; cases hd2; exact hlt

/-- the slots, with those masked that the machine has not written yet -/
def maskS (s : Slots) (ds : List Nat) : Slots := ds.map (fun d => (d, AV.bad)) ++ s

theorem get_mask (s : Slots) (i : Nat) : ∀ ds : List Nat, get (maskS s ds) i = if i ∈ ds then .bad else get s i
  | [] => by simp [maskS]
  | d :: r => by
    have ih := get_mask s i r
    simp only [maskS, List.map_cons, List.cons_append, get]
    cases hb : Nat.beq d i with
    | true => have := Nat.eq_of_beq_eq_true hb; subst this; simp
    | false =>
      have hne : i ≠ d := fun e => by subst e; simp at hb
      simp only [cond_false]
      rw [show (List.map (fun d => (d, AV.bad)) r ++ s) = maskS s r from rfl, ih]
      simp [hne]

/-- the slots that are owed -/
def owed (ops : Array Oper) (listed : Array Bool) (c1 : List Nat) : List Nat :=
  c1.filterMap fun i => if Li listed i then none else (ops[i]?).bind (·.dst)

theorem mem_owed {listed : Array Bool} {c1 : List Nat} {d : Nat} : d ∈ owed ops listed c1 ↔ ∃ i ∈ c1, Li listed i = false ∧ ∃ o, ops[i]? = some o ∧ o.dst = some d := by
  unfold owed
  rw [List.mem_filterMap]
  constructor
  · rintro ⟨i, hi, h⟩
    cases hl : Li listed i with
    | true => rw [hl] at h; simp at h
    | false =>
      rw [hl] at h
      simp only [Bool.false_eq_true, if_false] at h
      cases ho : ops[i]? with
      | none => rw [ho] at h; simp at h
      | some o => rw [ho] at h; exact ⟨i, hi, hl, o, ho, by simpa using h⟩
  · rintro ⟨i, hi, hl, o, ho, hd⟩
    exact ⟨i, hi, by simp [hl, ho, hd]⟩

theorem Inv.srel {listed c1 c2 s H M loc a w} (h : Inv P cfg ops masks c K M0 loc0 H0 w0 D0 listed c1 c2 s H M loc a w) : SRel M w loc (maskS s (owed ops listed c1)) a.tmps := by
  intro d
  rw [get_mask]
  split
  · exact .bad _
  · rename_i hn
    rcases h.slots d with ho | hv
    · exact (hn (mem_owed.2 ho)).elim
    · exact hv

/-- what an operation that is due looks at is not owed -/
theorem Inv.looks (hg : Good P cfg ops masks c) {listed c1 c2 s H M loc a w} (h : Inv P cfg ops masks c K M0 loc0 H0 w0 D0 listed c1 c2 s H M loc a w) {i : Nat} {o : Oper} (hi : i ∈ c) (ho : ops[i]? = some o)
    (hready : ∀ j, befB masks j i = true → Li listed j = true) (hself : isXo cfg o = false → ∀ d, o.dst = some d → d ∉ o.looksAt ops) (hahead : i ∈ c1 ∨ ∃ r, c2 = i :: r) :
    ∀ d ∈ o.looksAt ops, d ∉ owed ops listed c1 := by
  intro d hd hm
  obtain ⟨j, hj, hlj, oj, hoj, hdj⟩ := mem_owed.1 hm
  have hjx : isXo cfg oj = false := by
    cases hq : isXo cfg oj with
    | false => rfl
    | true => have := h.lx j hj oj hoj hq; rw [hlj] at this; cases this
  by_cases e : i = j
  · subst e
    rw [ho] at hoj; cases hoj
    exact hself hjx d hdj hd
  · have hjc : j ∈ c := by rw [h.split]; simp [hj]
    rcases two_of hi hjc e with ⟨l1, l2, e1, hm2⟩ | ⟨l1, l2, e1, hm2⟩
    · -- i ahead of j
      have hp := hg.pair e1 hm2 ho hoj
      exact hp.war hjx d hdj hd
    · have hp := hg.pair e1 hm2 hoj ho
      rcases hp.apart with hap | hb
      · exact (Oper.apart_spec hap).1 d hdj hd
      · have := hready j hb; rw [hlj] at this; cases this

theorem Li_set {listed : Array Bool} {i j : Nat} (hi : i < listed.size) : Li (listed.setIfInBounds i true) j = if j = i then true else Li listed j := by
  unfold Li
  simp only [Array.getD_eq_getD_getElem?, Array.getElem?_setIfInBounds]
  by_cases e : i = j
  · subst e; simp [hi]
  · rw [if_neg e, if_neg (fun x => e x.symm)]

theorem ev_mask {s : Slots} {ds : List Nat} {o : Oper} (h : ∀ d ∈ o.looksAt ops, d ∉ ds) : ∀ x ∈ o.op.operands, ev s x = ev (maskS s ds) x := by
  intro x hx
  cases x with
  | tmp t =>
    simp only [ev]
    rw [get_mask, if_neg]
    refine h t ?_
    simp only [Oper.looksAt, List.mem_append, List.mem_filterMap]
    exact .inl ⟨.tmp t, by simpa using hx, rfl⟩
  | _ => rfl

theorem guard_slot {o : Oper} {g gd : Nat} {want : Bool} (hg : o.guard = some (g, want)) (hgd : (ops[g]?).bind (·.dst) = some gd) : gd ∈ o.looksAt ops := by
  simp only [Oper.looksAt, List.mem_append]
  right; rw [hg]; simp [hgd]

/-- the closure, when an operation that is due is done -/
theorem Inv.cl' {listed : Array Bool} {i : Nat} (hi : i < listed.size) (hcl : ∀ i j, Li listed i = true → befB masks j i = true → Li listed j = true) (hready : ∀ j, befB masks j i = true → Li listed j = true) :
    ∀ k j, Li (listed.setIfInBounds i true) k = true → befB masks j k = true → Li (listed.setIfInBounds i true) j = true := by
  intro k j hk hb
  rw [Li_set hi] at hk ⊢
  split
  · rfl
  · by_cases e : k = i
    · subst e; exact hready j hb
    · rw [if_neg e] at hk; exact hcl k j hk hb

/-- AN OPERATION THAT WAS TAKEN IN AHEAD IS DONE. -/
theorem Inv.stepA (hg : Good P cfg ops masks c) {listed c1 c2 s H M loc a w} (h : Inv P cfg ops masks c K M0 loc0 H0 w0 D0 listed c1 c2 s H M loc a w) {i : Nat} {o : Oper} (hi : i ∈ c1) (ho : ops[i]? = some o) (hl : Li listed i = false)
    (hlt : i < ops.size) (hready : ∀ j, befB masks j i = true → Li listed j = true) {next : Act → World → Prop} {Q : Exit → Act → World → Prop}
    (hnext : ∀ a' w', (∃ M' loc', Inv P cfg ops masks c K M0 loc0 H0 w0 D0 (listed.setIfInBounds i true) c1 c2 s H M' loc' a' w') → next a' w') : wpOpIn (FW ro) 0 P ops Q i next a w := by
  have hic : i ∈ c := by rw [h.split]; simp [hi]
  have hx : isXo cfg o = false := by
    cases hq : isXo cfg o with
    | false => rfl
    | true => have := h.lx i hi o ho hq; rw [hl] at this; cases this
  obtain ⟨o', ho', hs⟩ := hg.op hic
  rw [ho] at ho'; cases ho'
  obtain ⟨hsure, d, hd, hself⟩ := hs hx
  have hlook := h.looks hg hic ho hready (fun _ d' hd' => by rw [hd] at hd'; cases hd'; exact hself) (.inl hi)
  have hsr := h.srel
  have hps := h.pend i hi hl
  have hsz : i < listed.size := by rw [h.sz]; exact hlt
  -- the frame behind it
  have hdlt : d < a.tmps.size := by rw [h.size]; exact h.bnd i hi hl o d ho hd
  have hdone : ∀ v w' M' loc', Rel M' loc' H w' → VRel M' w' loc' (get s d) v → Step M loc H w M' loc' H w' →
      Inv P cfg ops masks c K M0 loc0 H0 w0 D0 (listed.setIfInBounds i true) c1 c2 s H M' loc' (a.put o.dst v) w' := by
    intro v w' M' loc' r1 r2 r3
    refine ⟨h.split, by simp [h.sz], ?_, ?_, Inv.cl' hsz h.cl hready, h.log, r1, h.step.trans r3, ?_, ?_, ?_, by simp [Act.put, hd, h.size], by simp [Act.put, hd, h.defers], h.start⟩
    · intro j hj
      rw [Li_set hsz, if_neg]
      · exact h.unl j hj
      · rintro rfl
        obtain ⟨l1, l2, e1⟩ := List.append_of_mem hi
        exact (hg.self (l1 := l1) (i := j) (l2 := l2 ++ c2) (by rw [h.split, e1]; simp)).1 (by simp [hj])
    · intro j hj oj hoj hxj
      rw [Li_set hsz]
      split
      · rfl
      · exact h.lx j hj oj hoj hxj
    · intro q
      by_cases e : q = d
      · subst e
        right
        have : (a.put o.dst v).tmps.getD q undef = v := by simp [Act.put, hd, Array.getD, hdlt]
        rw [this]; exact r2
      · have hsame : (a.put o.dst v).tmps.getD q undef = a.tmps.getD q undef := by
          simp only [Act.put, hd, Array.getD_eq_getD_getElem?, Array.getElem?_setIfInBounds]
          rw [if_neg (fun x => e x.symm)]
        rw [hsame]
        rcases h.slots q with ⟨j, hj, hlj, oj, hoj, hdj⟩ | hv
        · left
          refine ⟨j, hj, ?_, oj, hoj, hdj⟩
          rw [Li_set hsz, if_neg]
          · exact hlj
          · rintro rfl; rw [ho] at hoj; cases hoj; rw [hd] at hdj; cases hdj; exact e rfl
        · exact .inr (hv.keeps (r3.keeps h.rel))
    · intro j hj hlj
      rw [Li_set hsz] at hlj
      split at hlj
      · cases hlj
      · exact h.pend j hj hlj
    · intro j hj hlj
      rw [Li_set hsz] at hlj
      split at hlj
      · cases hlj
      · exact h.bnd j hj hlj
  have hrunv : aop P cfg.ret (muOf cfg o) s o.op H (fun v H' => v = get s d ∧ H' = H) → o.wpIn (FW ro) 0 P a w next Q := by
    intro hop
    refine aop_sound (aop_congr (ev_mask hlook) hop) (h.start.2.step h.start.1 h.step) h.rel hsr fun v av H' M' loc' w' hK r1 r2 r3 => ?_
    obtain ⟨rfl, rfl⟩ := hK
    exact hnext _ _ ⟨M', loc', hdone v w' M' loc' r1 r2 r3⟩
  have hskipv : get s d = .tup [] → next (a.put o.dst undef) w := by
    intro hb
    exact hnext _ _ ⟨M, loc, hdone undef w M loc h.rel (by rw [hb]; exact vrel_undef) (Step.refl _ _ _ _)⟩
  unfold wpOpIn
  rw [ho]
  simp only
  unfold Pend at hps
  rw [ho] at hps
  simp only [hd] at hps
  cases hgd : o.guard with
  | none =>
    rw [hgd] at hps
    have : Region.wanted o (yielded ops a.tmps) = true := by simp [Region.wanted, hgd]
    rw [if_pos this]
    exact (hrunv hps)
  | some jw =>
    obtain ⟨g, want⟩ := jw
    rw [hgd] at hps
    simp only at hps
    split at hps
    case h_2 => exact hps.elim
    case h_1 gd hgdd =>
    split at hps
    case h_3 => exact hps.elim
    case h_2 hb =>
      have hmask : get (maskS s (owed ops listed c1)) gd = .tup [] := by
        rw [get_mask, if_neg (hlook gd (guard_slot hgd hgdd))]; exact hb
      have hw : Region.wanted o (yielded ops a.tmps) = false := by
        simp only [Region.wanted, hgd, yielded_none hsr hgdd hmask]
        rfl
      rw [hw]
      exact ⟨fun _ _ => trivial, hskipv hps⟩
    case h_1 b hb =>
    have hmask : get (maskS s (owed ops listed c1)) gd = .bool b := by
      rw [get_mask, if_neg (hlook gd (guard_slot hgd hgdd))]; exact hb
    have hglt : gd < a.tmps.size := by
      rcases Nat.lt_or_ge gd a.tmps.size with q | q
      · exact q
      · have := hsr gd
        rw [hmask] at this
        have e : a.tmps.getD gd undef = undef := by simp [Array.getD, Nat.not_lt.2 q]
        rw [e] at this
        unfold undef at this
        cases this
    have hy := yielded_of hsr hgdd hmask hglt
    have hw : Region.wanted o (yielded ops a.tmps) = (b == want) := by
      simp only [Region.wanted, hgd, hy]
      cases b <;> cases want <;> rfl
    rw [hw]
    cases b with
    | true =>
      cases want with
      | true => exact (hrunv hps)
      | false => exact ⟨fun _ _ => trivial, hskipv hps⟩
    | false =>
      cases want with
      | true => exact ⟨fun _ _ => trivial, hskipv hps⟩
      | false => exact (hrunv hps)

/-- AN OPERATION THAT ACTS IS DONE: it is the next one of our order. -/
theorem Inv.stepB (hg : Good P cfg ops masks c) {listed c1 r s H M loc a w} {i : Nat} (h : Inv P cfg ops masks c K M0 loc0 H0 w0 D0 listed c1 (i :: r) s H M loc a w) {o : Oper} (ho : ops[i]? = some o) (hx : isXo cfg o = true)
    (hlt : i < ops.size) (hready : ∀ j, befB masks j i = true → Li listed j = true) {next : Act → World → Prop} {Q : Exit → Act → World → Prop}
    (hnext : ∀ a' w', (∃ s' H' M' loc', Inv P cfg ops masks c K M0 loc0 H0 w0 D0 (listed.setIfInBounds i true) (c1 ++ [i]) r s' H' M' loc' a' w') → next a' w') : wpOpIn (FW ro) 0 P ops Q i next a w := by
  have hic : i ∈ c := by rw [h.split]; simp
  have hlook := h.looks hg hic ho hready (fun hx' => by rw [hx] at hx'; cases hx') (.inr ⟨r, rfl⟩)
  have hsr := h.srel
  have hsz : i < listed.size := by rw [h.sz]; exact hlt
  obtain ⟨log, hlog, hk⟩ := h.log
  simp only [adrawL] at hk
  rw [ho] at hk
  simp only at hk
  rw [hx] at hk
  simp only at hk
  -- what is so behind it
  have hdone : ∀ s1 s' v w' H' M' loc', (∀ q, get s1 q = get s q) → (o.dst = none ∧ s' = s1 ∨ ∃ d, o.dst = some d ∧ d < cfg.N ∧ ∃ av, s' = (d, av) :: s1 ∧ VRel M' w' loc' av v) → Rel M' loc' H' w' → Step M loc H w M' loc' H' w' →
      pendAll P cfg ops masks i s' H' log (adrawL P cfg ops masks r log s' H' K) →
      Inv P cfg ops masks c K M0 loc0 H0 w0 D0 (listed.setIfInBounds i true) (c1 ++ [i]) r s' H' M' loc' (a.put o.dst v) w' := by
    intro s1 s' v w' H' M' loc' hs1 hs' r1 r3 hp
    obtain ⟨hp1, hp2⟩ := pendAll_elim hp
    have hget : ∀ q, o.dst ≠ some q → get s' q = get s q := by
      intro q hq
      rcases hs' with ⟨_, rfl⟩ | ⟨d, hd, _, av, rfl, _⟩
      · exact hs1 q
      · simp only [get]
        cases hb : Nat.beq d q with
        | true => have := Nat.eq_of_beq_eq_true hb; subst this; exact (hq hd).elim
        | false => exact hs1 q
    have htm : ∀ q, o.dst ≠ some q → (a.put o.dst v).tmps.getD q undef = a.tmps.getD q undef := by
      intro q hq
      cases hd : o.dst with
      | none => rfl
      | some d =>
        simp only [Act.put, Array.getD_eq_getD_getElem?, Array.getElem?_setIfInBounds]
        rw [if_neg (fun e => by subst e; exact hq hd)]
    refine ⟨by rw [h.split]; simp, by simp [h.sz], ?_, ?_, Inv.cl' hsz h.cl hready, ⟨log, ?_, hp2⟩, r1, h.step.trans r3, ?_, ?_, ?_, ?_, ?_, h.start⟩
    · intro j hj
      rw [Li_set hsz, if_neg]
      · exact h.unl j (by simp [hj])
      · rintro rfl
        exact (hg.self (l1 := c1) (i := j) (l2 := r) h.split).1 hj
    · intro j hj oj hoj hxj
      rw [Li_set hsz]
      split
      · rfl
      · rename_i hne
        rcases List.mem_append.1 hj with hj | hj
        · exact h.lx j hj oj hoj hxj
        · simp only [List.mem_singleton] at hj; exact (hne hj).elim
    · intro j hj oj hoj hlj
      rcases List.mem_append.1 hj with hj | hj
      · exact hlog j hj oj hoj hlj
      · simp only [List.mem_singleton] at hj
        subst hj
        rw [ho] at hoj; cases hoj
        exfalso
        cases hop : o.op <;> simp [hop, isXo, isX, isC, isL, isS] at hx hlj
        split at hlj <;> simp_all
    · intro q
      by_cases hq : o.dst = some q
      · right
        rcases hs' with ⟨hn, _⟩ | ⟨d, hd, hdN, av, rfl, hv⟩
        · rw [hn] at hq; cases hq
        · rw [hd] at hq; cases hq
          have e1 : get ((q, av) :: s1) q = av := by simp [get]
          have e2 : (a.put o.dst v).tmps.getD q undef = v := by
            have : q < a.tmps.size := by rw [h.size]; exact hdN
            simp [Act.put, hd, Array.getD, this]
          rw [e1, e2]; exact hv
      · rw [hget q hq, htm q hq]
        rcases h.slots q with ⟨j, hj, hlj, oj, hoj, hdj⟩ | hv
        · left
          refine ⟨j, by simp [hj], ?_, oj, hoj, hdj⟩
          rw [Li_set hsz, if_neg]
          · exact hlj
          · rintro rfl; rw [ho] at hoj; cases hoj; exact hq hdj
        · exact .inr (hv.keeps (r3.keeps h.rel))
    · intro j hj hlj
      rw [Li_set hsz] at hlj
      split at hlj
      · cases hlj
      · rename_i hne
        rcases List.mem_append.1 hj with hj | hj
        · have hjb : befB masks j i = false := by
            cases hq : befB masks j i with
            | false => rfl
            | true => have := hready j hq; rw [hlj] at this; cases this
          obtain ⟨oj, hoj, _⟩ := hg.op (show j ∈ c by rw [h.split]; simp [hj])
          have hxj : isXo cfg oj = false := by
            cases hq : isXo cfg oj with
            | false => rfl
            | true => have := h.lx j hj oj hoj hq; rw [hlj] at this; cases this
          cases hlo : (isL oj.op || isS (muOf cfg oj) oj.op) with
          | true => exact hp1 j (hlog j hj oj hoj hlo) hjb
          | false =>
            rw [Bool.or_eq_false_iff] at hlo
            refine Pend_heap hoj hxj hlo.1 hlo.2 (Pend_congr (fun oj' hoj' => ?_) (h.pend j hj hlj))
            rw [hoj] at hoj'; cases hoj'
            obtain ⟨k1, k2, e2⟩ := List.append_of_mem hj
            have e3 : c = k1 ++ j :: (k2 ++ i :: r) := by rw [h.split, e2]; simp
            have hpair := hg.pair e3 (show i ∈ k2 ++ i :: r by simp) hoj ho
            have hap : oj.apart ops o = true := by
              rcases hpair.apart with q | q
              · exact q
              · rw [hjb] at q; cases q
            have hsp := Oper.apart_spec hap
            exact ⟨fun q hq => hget q (fun e => hsp.2.2 q e hq), fun q hq => hget q (hsp.2.1 q hq)⟩
        · simp only [List.mem_singleton] at hj; exact (hne hj).elim
    · intro j hj hlj oj d hoj hdj
      rw [Li_set hsz] at hlj
      split at hlj
      · cases hlj
      · rename_i hne
        rcases List.mem_append.1 hj with hj | hj
        · exact h.bnd j hj hlj oj d hoj hdj
        · simp only [List.mem_singleton] at hj; exact (hne hj).elim
    · cases hd : o.dst <;> simp [Act.put, h.size]
    · cases hd : o.dst <;> simp [Act.put, h.defers]
  have hrunv : ∀ s1, (∀ q, get s1 q = get s q) → aop P cfg.ret (muOf cfg o) s1 o.op H (fun v H' => aput cfg.N s1 o.dst v fun s' => pendAll P cfg ops masks i s' H' log (adrawL P cfg ops masks r log s' H' K)) → o.wpIn (FW ro) 0 P a w next Q := by
    intro s1 hs1 hop
    have he : ∀ x ∈ o.op.operands, ev s1 x = ev (maskS s (owed ops listed c1)) x := by
      intro x hx'
      rw [← ev_mask hlook x hx']
      cases x with
      | tmp t => exact hs1 t
      | _ => rfl
    refine aop_sound (aop_congr he hop) (h.start.2.step h.start.1 h.step) h.rel hsr fun v av H' M' loc' w' hK r1 r2 r3 => ?_
    refine hnext _ _ ?_
    cases hd : o.dst with
    | none =>
      rw [hd] at hK
      have := hdone s1 s1 v w' H' M' loc' hs1 (.inl ⟨hd, rfl⟩) r1 r3 hK
      rw [hd] at this
      exact ⟨s1, H', M', loc', this⟩
    | some d =>
      rw [hd] at hK
      obtain ⟨hb, hK⟩ := chk_elim hK
      have := hdone s1 _ v w' H' M' loc' hs1 (.inr ⟨d, hd, by simpa [Nat.blt_eq] using hb, av, rfl, r2⟩) r1 r3 hK
      rw [hd] at this
      exact ⟨_, H', M', loc', this⟩
  have hskipv : ∀ s1, (∀ q, get s1 q = get s q) → aput cfg.N s1 o.dst (.tup []) (fun s' => pendAll P cfg ops masks i s' H log (adrawL P cfg ops masks r log s' H K)) → next (a.put o.dst undef) w := by
    intro s1 hs1 hK
    refine hnext _ _ ?_
    cases hd : o.dst with
    | none =>
      rw [hd] at hK
      have := hdone s1 s1 undef w H M loc hs1 (.inl ⟨hd, rfl⟩) h.rel (Step.refl _ _ _ _) hK
      rw [hd] at this
      exact ⟨s1, H, M, loc, this⟩
    | some d =>
      rw [hd] at hK
      obtain ⟨hb, hK⟩ := chk_elim hK
      have := hdone s1 _ undef w H M loc hs1 (.inr ⟨d, hd, by simpa [Nat.blt_eq] using hb, .tup [], rfl, vrel_undef⟩) h.rel (Step.refl _ _ _ _) hK
      rw [hd] at this
      exact ⟨_, H, M, loc, this⟩
  unfold wpOpIn
  rw [ho]
  simp only
  unfold aoper at hk
  simp only at hk
  cases hgd : o.guard with
  | none =>
    rw [hgd] at hk
    have : Region.wanted o (yielded ops a.tmps) = true := by simp [Region.wanted, hgd]
    rw [if_pos this]
    exact (hrunv s (fun _ => rfl) hk)
  | some jw =>
    obtain ⟨g, want⟩ := jw
    rw [hgd] at hk
    simp only at hk
    split at hk
    case h_2 => exact hk.elim
    case h_1 gd hgdd =>
    split at hk
    case h_3 => exact hk.elim
    case h_2 hb =>
      have hmask : get (maskS s (owed ops listed c1)) gd = .tup [] := by
        rw [get_mask, if_neg (hlook gd (guard_slot hgd hgdd))]; exact hb
      have hw : Region.wanted o (yielded ops a.tmps) = false := by
        simp only [Region.wanted, hgd, yielded_none hsr hgdd hmask]
        rfl
      rw [hw]
      exact ⟨fun _ _ => trivial, hskipv s (fun _ => rfl) hk⟩
    case h_1 b hb =>
    obtain ⟨hglt, hk⟩ := chk_elim hk
    have hglt : gd < cfg.N := by simpa [Nat.blt_eq] using hglt
    have hmask : get (maskS s (owed ops listed c1)) gd = .bool b := by
      rw [get_mask, if_neg (hlook gd (guard_slot hgd hgdd))]; exact hb
    have hy := yielded_of hsr hgdd hmask (by rw [h.size]; exact hglt)
    have hknow : ∀ q, get ((gd, .bool b) :: s) q = get s q := by
      intro q
      simp only [get]
      cases hq : Nat.beq gd q with
      | true => have := Nat.eq_of_beq_eq_true hq; subst this; exact hb.symm
      | false => rfl
    have hw : Region.wanted o (yielded ops a.tmps) = (b == want) := by
      simp only [Region.wanted, hgd, hy]
      cases b <;> cases want <;> rfl
    rw [hw]
    cases b with
    | true =>
      simp only [condP] at hk
      cases want with
      | true => exact (hrunv _ hknow hk)
      | false => exact ⟨fun _ _ => trivial, hskipv _ hknow hk⟩
    | false =>
      simp only [condP] at hk
      cases want with
      | true => exact ⟨fun _ _ => trivial, hskipv _ hknow hk⟩
      | false => exact (hrunv _ hknow hk)

/-- ONE STEP, whichever operation is due. -/
theorem Inv.step1 (hg : Good P cfg ops masks c) {listed : Array Bool} {a : Act} {w : World} {i : Nat} (hlt : i < ops.size) (hl : Li listed i = false) (hready : ∀ j, befB masks j i = true → Li listed j = true) {next : Act → World → Prop} {Q : Exit → Act → World → Prop}
    (hnext : ∀ a' w', (∃ c1 c2 s' H' M' loc', Inv P cfg ops masks c K M0 loc0 H0 w0 D0 (listed.setIfInBounds i true) c1 c2 s' H' M' loc' a' w') → next a' w') :
    ∀ (n : Nat) (c1 c2 : List Nat) s H M loc, c2.length = n → Inv P cfg ops masks c K M0 loc0 H0 w0 D0 listed c1 c2 s H M loc a w → wpOpIn (FW ro) 0 P ops Q i next a w
  | 0, c1, c2, s, H, M, loc, hn, h => by
    have hc2 : c2 = [] := List.length_eq_zero_iff.1 hn
    subst hc2
    have hi : i ∈ c1 := by have := hg.all i hlt; rw [h.split] at this; simpa using this
    obtain ⟨o, ho, _⟩ := hg.op (hg.all i hlt)
    exact h.stepA hg hi ho hl hlt hready fun a' w' ⟨M', loc', hI⟩ => hnext a' w' ⟨_, _, _, _, M', loc', hI⟩
  | n + 1, c1, [], s, H, M, loc, hn, h => by simp at hn
  | n + 1, c1, j :: r, s, H, M, loc, hn, h => by
    obtain ⟨o, ho, _⟩ := hg.op (hg.all i hlt)
    by_cases hi : i ∈ c1
    · exact h.stepA hg hi ho hl hlt hready fun a' w' ⟨M', loc', hI⟩ => hnext a' w' ⟨_, _, _, _, M', loc', hI⟩
    · obtain ⟨oj, hoj, _⟩ := hg.op (show j ∈ c by rw [h.split]; simp)
      cases hxj : isXo cfg oj with
      | false =>
        obtain ⟨s', h'⟩ := h.absorb hg hoj hxj
        exact Inv.step1 hg hlt hl hready hnext n _ r s' H M loc (by simpa using hn) h'
      | true =>
        by_cases e : i = j
        · subst e
          rw [ho] at hoj; cases hoj
          exact h.stepB hg ho hxj hlt hready fun a' w' ⟨s', H', M', loc', hI⟩ => hnext a' w' ⟨_, _, _, _, M', loc', hI⟩
        · have hir : i ∈ r := by
            have := hg.all i hlt
            rw [h.split] at this
            rcases List.mem_append.1 this with q | q
            · exact (hi q).elim
            · rcases List.mem_cons.1 q with q | q
              · exact (e q).elim
              · exact q
          have hp := hg.pair (l1 := c1) (i := j) (l2 := r) h.split hir hoj ho
          have h1 := hready j (hp.x hxj)
          rw [h.unl j (by simp)] at h1; cases h1

/-- when all is done -/
theorem Inv.finish (hg : Good P cfg ops masks c) : ∀ (n : Nat) {listed c1} (c2 : List Nat) {s H M loc a w}, c2.length = n → Inv P cfg ops masks c K M0 loc0 H0 w0 D0 listed c1 c2 s H M loc a w → (∀ i, i < ops.size → Li listed i = true) →
    c2 = [] ∧ K s H ∧ SRel M w loc s a.tmps
  | _, listed, c1, [], s, H, M, loc, a, w, hn, h, hall => by
    obtain ⟨log, _, hk⟩ := h.log
    refine ⟨rfl, hk, fun d => ?_⟩
    rcases h.slots d with ⟨i, hi, hl, o, ho, _⟩ | hv
    · have : i < ops.size := (Array.getElem?_eq_some_iff.1 ho).1
      rw [hall i this] at hl; cases hl
    · exact hv
  | _, listed, c1, j :: r, s, H, M, loc, a, w, hn, h, hall => by
    obtain ⟨o, ho, _⟩ := hg.op (show j ∈ c by rw [h.split]; simp)
    have hlt : j < ops.size := (Array.getElem?_eq_some_iff.1 ho).1
    have := h.unl j (by simp)
    rw [hall j hlt] at this; cases this

theorem mem_preds {o : Oper} {p : Nat} : p ∈ predsOf o ↔ ∃ e ∈ o.after, Region.binds .any e = true ∧ e.on = p := by
  unfold predsOf
  rw [List.mem_filterMap]
  constructor
  · rintro ⟨e, he, h⟩
    cases hb : Region.binds .any e with
    | true => rw [hb] at h; exact ⟨e, by simpa using he, hb, by simpa using h⟩
    | false => rw [hb] at h; cases h
  · rintro ⟨e, he, hb, rfl⟩
    exact ⟨e, by simpa using he, by simp [hb]⟩

theorem pred_lt (hg : Good P cfg ops masks c) {o : Oper} {j p : Nat} (ho : ops[j]? = some o) (hp : p ∈ predsOf o) : p < ops.size ∧ p ≠ j := by
  have hlt : j < ops.size := (Array.getElem?_eq_some_iff.1 ho).1
  have := hg.mask j hlt
  unfold maskOk at this
  rw [ho] at this
  simp only [Bool.and_eq_true] at this
  have := List.all_eq_true.1 this.2 _ hp
  rw [Bool.and_eq_true] at this
  refine ⟨by simpa [Nat.blt_eq] using this.1, ?_⟩
  rintro rfl
  simp at this

theorem self_pred (hg : Good P cfg ops masks c) {o : Oper} {j : Nat} (ho : ops[j]? = some o) (hj : j ∈ c) : j ∉ predsOf o :=
  fun h => (pred_lt hg ho h).2 rfl

/-- if not all is done, something is due -/
theorem Inv.some_ready (hg : Good P cfg ops masks c) {listed : Array Bool} (hsz : listed.size = ops.size) (hnil : Region.ready .any ops listed = []) : ∀ i, i < ops.size → Li listed i = true := by
  -- the first of our order that is not done
  have key : ∀ (l1 l2 : List Nat), c = l1 ++ l2 → (∀ i ∈ l1, Li listed i = true) → ∀ i ∈ l2, Li listed i = true := by
    intro l1 l2
    induction l2 generalizing l1 with
    | nil => intro _ _ i hi; simp at hi
    | cons j r ih =>
      intro e hall
      have hj : Li listed j = true := by
        cases hq : Li listed j with
        | true => rfl
        | false =>
          exfalso
          obtain ⟨o, ho, _⟩ := hg.op (show j ∈ c by rw [e]; simp)
          have hlt : j < ops.size := (Array.getElem?_eq_some_iff.1 ho).1
          have hm : j ∈ Region.ready .any ops listed := by
            unfold Region.ready
            rw [List.mem_filter]
            refine ⟨by simpa using hlt, ?_⟩
            rw [Bool.and_eq_true]
            constructor
            · have : listed.getD j true = false := by
                unfold Li at hq
                rw [Array.getD_eq_getD_getElem?, Array.getElem?_eq_getElem (by omega)] at hq ⊢
                exact hq
              rw [this]; rfl
            · rw [ho]
              simp only [Option.map_some, Option.getD_some]
              rw [Array.all_eq_true_iff_forall_mem]
              intro ed hed
              cases hb : Region.binds .any ed with
              | false => rfl
              | true =>
                simp only [Bool.not_true, Bool.false_or]
                have hp : ed.on ∈ predsOf o := mem_preds.2 ⟨ed, hed, hb, rfl⟩
                have hplt : ed.on < ops.size := (pred_lt hg ho hp).1
                have hpc := hg.all _ hplt
                rw [e] at hpc
                rcases List.mem_append.1 hpc with q | q
                · exact hall _ q
                · rcases List.mem_cons.1 q with q | q
                  · -- itself
                    obtain ⟨l, l', e'⟩ : ∃ l l', c = l ++ j :: l' := ⟨l1, r, e⟩
                    have := hg.mask j hlt
                    exfalso
                    exact (self_pred hg ho (by rw [e]; simp) (q ▸ hp)).elim
                  · obtain ⟨op, hop, _⟩ := hg.op (hg.all _ hplt)
                    have := (hg.pair (l1 := l1) (i := j) (l2 := r) e q ho hop).pred
                    exact (this hp).elim
          rw [hnil] at hm; simp at hm
      intro i hi
      rcases List.mem_cons.1 hi with rfl | hi
      · exact hj
      · exact ih (l1 ++ [j]) (by rw [e]; simp) (fun k hk => by
          rcases List.mem_append.1 hk with q | q
          · exact hall k q
          · simp only [List.mem_singleton] at q; subst q; exact hj) i hi
  intro i hi
  exact key [] c rfl (fun _ h => by simp at h) i (hg.all i hi)

theorem filter_less {p p' : Nat → Bool} : ∀ (l : List Nat), (∀ x, p' x = true → p x = true) → (∃ x ∈ l, p x = true ∧ p' x = false) → (l.filter p').length < (l.filter p).length
  | [], _, ⟨x, hx, _⟩ => by simp at hx
  | y :: r, h, hex => by
    have hle : ∀ (r : List Nat), (r.filter p').length ≤ (r.filter p).length := by
      intro r
      induction r with
      | nil => simp
      | cons z r ih =>
        rw [List.filter_cons, List.filter_cons]
        cases h1 : p' z with
        | true => simp [h z h1, ih]
        | false => cases p z <;> simp <;> omega
    rw [List.filter_cons, List.filter_cons]
    obtain ⟨x, hx, h1, h2⟩ := hex
    rcases List.mem_cons.1 hx with rfl | hx
    · rw [h1, h2]
      have := hle r
      simp; omega
    · have ih := filter_less r h ⟨x, hx, h1, h2⟩
      cases h3 : p' y with
      | true => simp [h y h3, ih]
      | false => cases p y <;> simp <;> omega

def leftN (ops : Array Oper) (listed : Array Bool) : Nat := ((List.range ops.size).filter fun i => !Li listed i).length

theorem Inv.any (hg : Good P cfg ops masks c) {Q : Exit → Act → World → Prop} (hQ : ∀ s H M loc a w, K s H → Rel M loc H w → SRel M w loc s a.tmps → a.tmps.size = cfg.N → a.defers = D0 → Step M0 loc0 H0 w0 M loc H w → Q .normal a w) :
    ∀ (fuel : Nat) (listed : Array Bool) (a : Act) (w : World), leftN ops listed ≤ fuel → (∃ c1 c2 s H M loc, Inv P cfg ops masks c K M0 loc0 H0 w0 D0 listed c1 c2 s H M loc a w) → wpAnyIn (FW ro) 0 P .any ops Q fuel listed a w := by
  have hend : ∀ (listed : Array Bool) (a : Act) (w : World), (∃ c1 c2 s H M loc, Inv P cfg ops masks c K M0 loc0 H0 w0 D0 listed c1 c2 s H M loc a w) → Region.ready .any ops listed = [] → Q .normal a w := by
    rintro listed a w ⟨c1, c2, s, H, M, loc, h⟩ hnil
    obtain ⟨_, hK, hs⟩ := h.finish hg _ _ rfl (Inv.some_ready hg h.sz hnil)
    exact hQ s H M loc a w hK h.rel hs h.size h.defers h.step
  intro fuel
  induction fuel with
  | zero =>
    rintro listed a w hl ⟨c1, c2, s, H, M, loc, h⟩
    have hall : ∀ i, i < ops.size → Li listed i = true := by
      intro i hi
      cases hq : Li listed i with
      | true => rfl
      | false =>
        exfalso
        have hm : i ∈ (List.range ops.size).filter fun i => !Li listed i := by simp [hi, hq]
        have := List.length_pos_of_mem hm
        unfold leftN at hl
        omega
    have hnil : Region.ready .any ops listed = [] := by
      rw [List.eq_nil_iff_forall_not_mem]
      intro i hm
      rw [mem_ready] at hm
      obtain ⟨h2, o, ho, _⟩ := hm
      have hlt : i < ops.size := (Array.getElem?_eq_some_iff.1 ho).1
      have := hall i hlt
      unfold Li at this
      rw [Array.getD_eq_getD_getElem?, Array.getElem?_eq_getElem (by rw [h.sz]; exact hlt)] at this h2
      simp at this h2
      rw [this] at h2; cases h2
    exact ⟨hnil, hend listed a w ⟨c1, c2, s, H, M, loc, h⟩ hnil⟩
  | succ fuel ih =>
    rintro listed a w hl ⟨c1, c2, s, H, M, loc, h⟩
    refine ⟨hend listed a w ⟨c1, c2, s, H, M, loc, h⟩, ?_⟩
    intro i hm
    have hm' := hm
    rw [mem_ready] at hm'
    obtain ⟨h2, o', ho', hedge⟩ := hm'
    have hlt : i < ops.size := (Array.getElem?_eq_some_iff.1 ho').1
    have hsz : i < listed.size := by rw [h.sz]; exact hlt
    have hli : Li listed i = false := by
      unfold Li
      rw [Array.getD_eq_getD_getElem?, Array.getElem?_eq_getElem hsz] at h2 ⊢
      exact h2
    obtain ⟨o, ho, _⟩ := hg.op (hg.all i hlt)
    have hpre : ∀ p ∈ predsOf o, Li listed p = true := by
      intro p hp
      obtain ⟨e, he, hb, rfl⟩ := mem_preds.1 hp
      rw [ho] at ho'; cases ho'
      exact hedge e he hb
    have hready : ∀ j, befB masks j i = true → Li listed j = true := by
      intro j hb
      rcases maskOk_spec (hg.mask i hlt) ho hb with hp | ⟨p, hp, hb2⟩
      · exact hpre j hp
      · exact h.cl p j (hpre p hp) hb2
    refine Inv.step1 hg hlt hli hready (fun a' w' hI => ih _ a' w' ?_ hI) _ c1 c2 s H M loc rfl h
    have : leftN ops (listed.setIfInBounds i true) < leftN ops listed := by
      refine filter_less _ (fun x hx => ?_) ⟨i, by simpa using hlt, by simp [hli], by rw [Li_set hsz]; simp⟩
      rw [Li_set hsz] at hx
      split at hx
      · simp at hx
      · exact hx
    omega

theorem adraw_sound {id : Nat} {s : Slots} {H : List AObj} {M : Mem} {loc : Locs} {a : Act} {w : World} {Q : Exit → Act → World → Prop} (h : adraw P cfg ops s H K) (ht : Tabs P M w) (hr : Rel M loc H w) (hs : SRel M w loc s a.tmps) (hN : a.tmps.size = cfg.N)
    (hQ : ∀ a' s' H' M' loc' w', K s' H' → Rel M' loc' H' w' → SRel M' w' loc' s' a'.tmps → a'.tmps.size = cfg.N → a'.defers = a.defers → Step M loc H w M' loc' H' w' → Q .normal a' w') : (Code.region id ops true).wpIn (FW ro) 0 P Q a w := by
  unfold adraw at h
  generalize canon cfg ops = c at h
  generalize masksOf ops = m at h
  obtain ⟨hok, hk⟩ := chk_elim h
  unfold drawOk at hok
  simp only [Bool.and_eq_true] at hok
  obtain ⟨⟨⟨⟨h1, h2⟩, h3⟩, h4⟩, h5⟩ := hok
  have hg : Good P cfg ops m c := by
    refine ⟨h4, fun i hi => ?_, fun i hi => ?_⟩
    · have := List.all_eq_true.1 h2 i (by simpa using hi)
      simpa using this
    · exact List.all_eq_true.1 h3 i (by simpa using hi)
  refine wpIn_region_any h5 ?_
  have hsame : SameMem w { w with drawn := w.drawn + 1 } := ⟨rfl, rfl, rfl, rfl⟩
  obtain ⟨r1, r2⟩ := hr.same hsame
  have hli : ∀ i, Li (Array.replicate ops.size false) i = false := by
    intro i; unfold Li; simp only [Array.getD_eq_getD_getElem?, Array.getElem?_replicate]; split <;> rfl
  refine Inv.any (K := K) (cfg := cfg) (M0 := M) (loc0 := loc) (H0 := H) (w0 := w) (D0 := a.defers) hg (fun s' H' M' loc' a' w' k1 k2 k3 k4 k5 k6 => hQ a' s' H' M' loc' w' k1 k2 k3 k4 k5 k6) ops.size _ a _ ?_ ?_
  · unfold leftN
    have := List.length_filter_le (fun i => !Li (Array.replicate ops.size false) i) (List.range ops.size)
    simpa using this
  · refine ⟨[], c, s, H, M, loc, ?_⟩
    exact { split := rfl, sz := by simp, unl := fun i _ => hli i, lx := fun i hi => absurd hi (by simp), cl := (fun i j hi => by rw [hli] at hi; cases hi), log := ⟨[], fun i hi => absurd hi (by simp), hk⟩,
            rel := r1, step := r2, slots := fun d => .inr ((hs d).keeps (hsame.keeps M loc)), pend := fun i hi => absurd hi (by simp), bnd := fun i hi => absurd hi (by simp), size := hN, defers := rfl, start := ⟨hr, ht⟩ }

end
end Go.Ab
end

section
/- Code: the abstract weakest precondition, and that it is sound. -/

set_option linter.unusedVariables false
set_option linter.unusedSimpArgs false
namespace Go.Ab

abbrev AQ := Exit → Slots → List AObj → Prop

def okExit : Exit → Prop
  | .panic _ | .outgrown => False
  | _ => True

/-- the marks of ranges over functions among the deferred calls -/
def marksOf (l : List Nat) : List Deferred := l.map fun D => { target := .collected D, args := #[] }

def okD (dm : Nat) (loc : Locs) (H : List AObj) (w : World) (ds : List Deferred) : Prop :=
  dm ≤ w.heap.size ∧ ∃ l : List Nat, l.Nodup ∧ ds = marksOf l ∧ ∀ D ∈ l, dm ≤ D ∧ w.heap[D]? = some (.deferred (some [])) ∧ ¬ Owned loc H D

theorem okD.step {dm n : Nat} {M M' : Mem} {loc loc' : Locs} {H H' : List AObj} {w w' : World} {ds : List Deferred} (h : okD dm loc H w ds) (hs : StepN n M loc H w M' loc' H' w') : okD dm loc' H' w' ds := by
  obtain ⟨h0, l, h1, h2, h3⟩ := h
  refine ⟨Nat.le_trans h0 hs.size, l, h1, h2, fun D hD => ?_⟩
  obtain ⟨k1, k2, k3⟩ := h3 D hD
  have hlt := cells_lt k2
  exact ⟨k1, by rw [(hs.keep D hlt k3).1]; exact k2, fun ho => k3 (hs.own D hlt ho)⟩

theorem okD.nil {loc : Locs} {H : List AObj} {w : World} : okD w.heap.size loc H w [] := ⟨Nat.le_refl _, [], List.nodup_nil, rfl, fun D h => by simp at h⟩

def QC (N n dm : Nat) (M : Mem) (loc : Locs) (H : List AObj) (w : World) (Q : AQ) : Exit → Act → World → Prop := fun e a' w' =>
  ∃ s' H' M' loc', okExit e ∧ Q e s' H' ∧ Rel M' loc' H' w' ∧ SRel M' w' loc' s' a'.tmps ∧ a'.tmps.size = N ∧ okD dm loc' H' w' a'.defers ∧ StepN n M loc H w M' loc' H' w'

/-- what a piece of code does in a frame of a kind, whatever memory and frame stand to the abstract ones -/
def AWPr (ro : Option Nat) (P : Program) (N n : Nat) (c : Code) (s : Slots) (H : List AObj) (Q : AQ) : Prop :=
  ∀ M loc w a, n ≤ H.length → Rel M loc H w → SRel M w loc s a.tmps → a.tmps.size = N → ∀ dm, okD dm loc H w a.defers → Tabs P M w → c.wpIn (FW ro) 0 P (QC N n dm M loc H w Q) a w

/-- .. in a function's frame -/
abbrev AWP (P : Program) (N n : Nat) (c : Code) (s : Slots) (H : List AObj) (Q : AQ) : Prop := AWPr none P N n c s H Q
/-- .. in any frame, a round's too -/
def AWPR (P : Program) (N n : Nat) (c : Code) (s : Slots) (H : List AObj) (Q : AQ) : Prop := ∀ ro, AWPr ro P N n c s H Q

theorem QC.mono {N n dm M loc H w Q Q'} (h : ∀ e s H, Q e s H → Q' e s H) {e a w'} (hq : QC N n dm M loc H w Q e a w') : QC N n dm M loc H w Q' e a w' := by
  obtain ⟨s', H', M', loc', h1, h2, rest⟩ := hq
  exact ⟨s', H', M', loc', h1, h _ _ _ h2, rest⟩

theorem AWP.mono {ro P N n c s H Q Q'} (h : AWPr ro P N n c s H Q) (hq : ∀ e s H, Q e s H → Q' e s H) : AWPr ro P N n c s H Q' :=
  fun M loc w a h0 h1 h2 h3 dm h4 ht => wpIn_mono (h M loc w a h0 h1 h2 h3 dm h4 ht) fun e a w => QC.mono hq

theorem AWP.sub {ro P N n c s s' H Q} (h : AWPr ro P N n c s' H Q) (hs : ∀ d, get s' d = get s d ∨ get s' d = .bad) : AWPr ro P N n c s H Q :=
  fun M loc w a h0 h1 h2 h3 dm h4 ht => h M loc w a h0 h1 (h2.sub hs) h3 dm h4 ht

theorem QC.step {N n m dm M loc H w M1 loc1 H1 w1 Q} (hst : StepN n M loc H w M1 loc1 H1 w1) (hnm : n ≤ m) {e a w'} (hq : QC N m dm M1 loc1 H1 w1 Q e a w') : QC N n dm M loc H w Q e a w' := by
  obtain ⟨s', H', M', loc', h1, h2, h3, h4, h5, h6, h7⟩ := hq
  exact ⟨s', H', M', loc', h1, h2, h3, h4, h5, h6, hst.trans h7 hnm⟩

theorem exitTo_len {id : Nat} : ∀ {k k' : List Item}, exitTo id k = some k' → k'.length ≤ k.length
  | [], _, h => by simp [exitTo] at h
  | x :: k, k', h => by
    cases x <;> simp only [exitTo] at h <;> first
      | (have := exitTo_len h; simp; omega)
      | (split at h
         · cases h; simp
         · have := exitTo_len h; simp; omega)

theorem findLabel_shape : ∀ {c : Code} {l : Nat} {r : Code}, findLabel c l = some r → r = .skip ∨ ∃ a b, r = .seq a b := by
  intro c l r h
  cases c with
  | seq a b =>
    simp only [findLabel] at h
    split at h
    · cases h; exact .inr ⟨_, _, rfl⟩
    · rename_i hn
      exact findLabel_shape h
  | label l' =>
    simp only [findLabel] at h
    split at h
    · cases h; exact .inl rfl
    · cases h
  | _ => simp [findLabel] at h

theorem gotoIn_shape {l : Nat} {x : Item} {k0 : List Item} : ∀ {k k' : List Item}, gotoIn l k = some k' → k.length ≤ k0.length → (∀ r, x = .code r → r ≠ .skip ∧ ∀ a b, r ≠ .seq a b) → k' ≠ x :: k0
  | [], _, h, _, _ => by simp [gotoIn] at h
  | y :: k, k', h, hl, hx => by
    have rec_ : gotoIn l k = some k' → k' ≠ x :: k0 := fun h => gotoIn_shape h (by simp at hl; omega) hx
    cases y <;> simp only [gotoIn] at h <;> first
      | exact rec_ h
      | (split at h
         · rename_i rest hr
           cases h
           intro e
           injection e with e1 e2
           rcases findLabel_shape hr with rfl | ⟨a, b, rfl⟩
           · exact (hx _ e1.symm).1 rfl
           · exact (hx _ e1.symm).2 a b rfl
         · exact rec_ h)

theorem steps_same {P : Program} {m1 m2 t : Machine} (hst : step P m1 = step P m2) (hne : t ≠ m1) (h : Steps P m1 t) : Steps P m2 t := by
  obtain ⟨n, hn⟩ := h
  cases n with
  | zero => simp [runN] at hn; exact (hne hn.symm).elim
  | succ n => exact ⟨n + 1, by simp only [runN] at hn ⊢; rw [← hst]; exact hn⟩

theorem lone_todo {fr fr' : Frame} {cs cs' : List Frame} {w w' : World} (h : lone fr cs w = lone fr' cs' w') : fr = fr' := by
  simp only [lone, Machine.mk.injEq] at h
  have := h.2.1
  simp at this
  exact this.1

theorem stepsW {ro : Option Nat} {P : Program} {m m' : Machine} : StepsIn (Machine.fenced P (FW ro)) P m m' ↔ Steps P m m' := stepsIn_wide

theorem lone_todoR {fr fr' : Frame} {cs cs' : List Frame} {w w' : World} (h : lone fr cs w = lone fr' cs' w') : fr = fr' := lone_todo h

theorem atR_todo {b : Frame} {a a' : Act} {k k' : List Item} (h : b.atR a k = b.atR a' k') : k = k' := by
  have := congrArg Frame.todo h
  simpa [Frame.atR] using this

theorem wpIn_loop_unfold {ro : Option Nat} {P : Program} {c : Code} {Q : Exit → Act → World → Prop} {a : Act} {w : World} (hno : ∀ a w, ¬ Q .outgrown a w) (h : c.wpIn (FW ro) 0 P (Exit.then ((Code.loop c).wpIn (FW ro) 0 P Q) Q) a w) : (Code.loop c).wpIn (FW ro) 0 P Q a w := by
  intro b k cs hro hb hr
  have h0 : (lone (b.atR a (.code (.loop c) :: k)) cs w).fenced P (FW ro) := fenced_calm hb hr rfl
  obtain ⟨e, a₁, w₁, hq, harr⟩ := h b (.inLoop c :: k) cs hro hb hr
  cases e with
  | normal =>
    obtain ⟨e₂, a₂, w₂, hq₂, harr₂⟩ := hq b k cs hro hb hr
    refine ⟨e₂, a₂, w₂, hq₂, ?_⟩
    have hstep : step P (lone (b.atR a₁ (.code (.loop c) :: k)) cs w₁) = step P (lone (b.atR a₁ (.inLoop c :: k)) cs w₁) := by
      rw [stepR_loop, stepR_inLoop]
    refine ArrivesIn.of_steps (.head h0 stepR_loop harr) ?_
    have same : ∀ {m : Machine}, m ≠ lone (b.atR a₁ (.code (.loop c) :: k)) cs w₁ → StepsIn (Machine.fenced P (FW ro)) P (lone (b.atR a₁ (.code (.loop c) :: k)) cs w₁) m →
        StepsIn (Machine.fenced P (FW ro)) P (lone (b.atR a₁ (.inLoop c :: k)) cs w₁) m := fun hne hA => stepsW.2 (steps_same hstep hne (stepsW.1 hA))
    cases e₂ with
    | normal => exact same (fun h => by
          have := congrArg List.length (atR_todo (lone_todo h))
          simp at this) harr₂
    | exit id =>
      refine ⟨fun k' hk => same (fun h => ?_) (harr₂.1 k' hk), fun hr' hk => ?_⟩
      · have h1 := congrArg List.length (atR_todo (lone_todo h))
        have h2 := exitTo_len hk
        simp at h1; omega
      · obtain ⟨k₁, g1, g2⟩ := harr₂.2 hr' hk
        exact ⟨k₁, g1, same (fun h => by have := atR_todo (lone_todo h); simp at this) g2⟩
    | goto l =>
      refine ⟨fun k' hk => same (fun h => ?_) (harr₂.1 k' hk), fun hr' hk => ?_⟩
      · have h1 := atR_todo (lone_todo h)
        exact gotoIn_shape (k0 := k) hk (Nat.le_refl _) (fun r hr => by cases hr; exact ⟨by simp, by simp⟩) h1
      · obtain ⟨k₁, g1, g2⟩ := harr₂.2 hr' hk
        exact ⟨k₁, g1, same (fun h => by have := atR_todo (lone_todo h); simp at this) g2⟩
    | ret =>
      refine ⟨fun hn => ?_, fun hn => ?_⟩
      · obtain ⟨todo, hs⟩ := harr₂.1 hn
        refine ⟨todo, same (fun h => ?_) hs⟩
        have := congrArg Frame.mode (lone_todo h)
        simp only [Frame.atR] at this
        cases this
      · obtain ⟨k₁, hs⟩ := harr₂.2 hn
        exact ⟨k₁, same (fun h => by have := atR_todo (lone_todo h); simp at this) hs⟩
    | panic ch =>
      obtain ⟨todo, hs⟩ := harr₂
      refine ⟨todo, same (fun h => ?_) hs⟩
      have := congrArg Frame.mode (lone_todo h)
      simp only [Frame.atR] at this
      cases this
    | outgrown => exact (hno _ _ hq₂).elim
  | exit id => exact ⟨_, a₁, w₁, hq, .of_steps (.one h0 stepR_loop) (.pass (x := .inLoop c) rfl (fun _ _ => .inl (by simp)) harr)⟩
  | goto l => exact ⟨_, a₁, w₁, hq, .of_steps (.one h0 stepR_loop) (.pass (x := .inLoop c) rfl (fun _ _ => .inl (by simp)) harr)⟩
  | ret => exact ⟨_, a₁, w₁, hq, .of_steps (.one h0 stepR_loop) (.pass (x := .inLoop c) rfl (fun _ _ => .inl (by simp)) harr)⟩
  | panic ch => exact ⟨_, a₁, w₁, hq, .of_steps (.one h0 stepR_loop) (.pass (x := .inLoop c) rfl (fun _ _ => .inl (by simp)) harr)⟩
  | outgrown => exact ⟨_, a₁, w₁, hq, .of_steps (.one h0 stepR_loop) (.pass (x := .inLoop c) rfl (fun _ _ => .inl (by simp)) harr)⟩

theorem AWP.loop {ro : Option Nat} {P : Program} {N n : Nat} {c : Code} {s : Slots} {H : List AObj} {Q : AQ}
    (h : AWPr ro P N n c s H (fun e s' H' => match e with | .normal => AWPr ro P N n (.loop c) s' H' Q | e => Q e s' H')) : AWPr ro P N n (.loop c) s H Q := by
  intro M loc w a h0 h1 h2 h3 dm h4 ht
  refine wpIn_loop_unfold (fun a w hq => by obtain ⟨_, _, _, _, hk, _⟩ := hq; exact hk) ?_
  refine wpIn_mono (h M loc w a h0 h1 h2 h3 dm h4 ht) fun e a' w' hq => ?_
  obtain ⟨s', H', M', loc', hk, hQ, r1, r2, r3, r4, r5⟩ := hq
  cases e with
  | normal => exact wpIn_mono (hQ M' loc' w' a' r5.len r1 r2 r3 dm r4 (ht.step h1 r5)) fun e a w => QC.step r5 (Nat.le_refl _)
  | exit id => exact ⟨s', H', M', loc', hk, hQ, r1, r2, r3, r4, r5⟩
  | goto l => exact ⟨s', H', M', loc', hk, hQ, r1, r2, r3, r4, r5⟩
  | ret => exact ⟨s', H', M', loc', hk, hQ, r1, r2, r3, r4, r5⟩
  | panic c => exact hk.elim
  | outgrown => exact hk.elim

/-! ### code inside a scope, from a label on -/

theorem step_inScope {P : Program} {b : Frame} {a : Act} {k : List Item} {cs : List Frame} {w : World} {B : Code} : step P (lone (b.atR a (.inScope B :: k)) cs w) = .next (lone (b.atR a k) cs w) :=
  step_lone_go (by simp [stepG, stepG.exec, Frame.atR])

theorem step_scope {P : Program} {b : Frame} {a : Act} {k : List Item} {cs : List Frame} {w : World} {B : Code} : step P (lone (b.atR a (.code (.scope B) :: k)) cs w) = .next (lone (b.atR a (.code B :: .inScope B :: k)) cs w) :=
  step_lone_go (by simp [stepG, stepG.exec, Frame.atR])

def scopedWp (ro : Option Nat) (P : Program) (B c : Code) (Q : Exit → Act → World → Prop) (a : Act) (w : World) : Prop :=
  ∀ (b : Frame) (k : List Item) (cs : List Frame), b.roundOf = ro → ∃ e a' w', Q e a' w' ∧ ArrivesIn (Machine.fenced P (FW ro)) P (lone (b.atR a (.code c :: .inScope B :: k)) cs w) b k cs e a' w'

theorem scopedWp.mono {ro : Option Nat} {P : Program} {B c : Code} {Q Q' : Exit → Act → World → Prop} {a : Act} {w : World} (h : scopedWp ro P B c Q a w) (hq : ∀ e a w, Q e a w → Q' e a w) : scopedWp ro P B c Q' a w :=
  fun b k cs hro => let ⟨e, a', w', q, r⟩ := h b k cs hro; ⟨e, a', w', hq _ _ _ q, r⟩

theorem scoped_of_wp {ro : Option Nat} {P : Program} {B c : Code} {Q : Exit → Act → World → Prop} {a : Act} {w : World}
    (h : c.wpIn (FW ro) 0 P (fun e a' w' => match e with
      | .goto l => (match findLabel B l with | some r => scopedWp ro P B r Q a' w' | none => Q (.goto l) a' w')
      | e => Q e a' w') a w) : scopedWp ro P B c Q a w := by
  intro b k cs hro
  obtain ⟨e, a₁, w₁, hq, harr⟩ := h b (.inScope B :: k) cs hro trivial (roomW _)
  cases e with
  | normal => exact ⟨.normal, a₁, w₁, hq, StepsIn.trans harr (stepsW.2 (.one step_inScope))⟩
  | exit id =>
    have hx : exitTo id (.inScope B :: k) = exitTo id k := by simp [exitTo]
    exact ⟨.exit id, a₁, w₁, hq, fun k' hk => harr.1 k' (by rw [hx]; exact hk), fun hr hk => harr.2 hr (by rw [hx]; exact hk)⟩
  | goto l =>
    simp only at hq
    split at hq
    · rename_i r hr
      obtain ⟨e₂, a₂, w₂, hq₂, harr₂⟩ := hq b k cs hro
      exact ⟨e₂, a₂, w₂, hq₂, .of_steps (harr.1 _ (by simp [gotoIn, hr])) harr₂⟩
    · rename_i hr
      have hx : gotoIn l (.inScope B :: k) = gotoIn l k := by simp [gotoIn, hr]
      exact ⟨.goto l, a₁, w₁, hq, fun k' hk => harr.1 k' (by rw [hx]; exact hk), fun hr' hk => harr.2 hr' (by rw [hx]; exact hk)⟩
  | ret => exact ⟨.ret, a₁, w₁, hq, harr⟩
  | panic ch => exact ⟨.panic ch, a₁, w₁, hq, harr⟩
  | outgrown => exact ⟨.outgrown, a₁, w₁, hq, harr⟩

theorem wpIn_scope {ro : Option Nat} {P : Program} {B : Code} {Q : Exit → Act → World → Prop} {a : Act} {w : World} (h : scopedWp ro P B B Q a w) : (Code.scope B).wpIn (FW ro) 0 P Q a w := by
  intro b k cs hro hb hr
  obtain ⟨e, a₁, w₁, hq, harr⟩ := h b k cs hro
  exact ⟨e, a₁, w₁, hq, .of_steps (stepsW.2 (.one step_scope)) harr⟩

/-- what a piece of a scope does, gotos to the scope's labels among it -/
def AWPSr (ro : Option Nat) (P : Program) (N n : Nat) (B c : Code) (s : Slots) (H : List AObj) (Q : AQ) : Prop :=
  ∀ M loc w a, n ≤ H.length → Rel M loc H w → SRel M w loc s a.tmps → a.tmps.size = N → ∀ dm, okD dm loc H w a.defers → Tabs P M w → scopedWp ro P B c (QC N n dm M loc H w Q) a w
abbrev AWPS (P : Program) (N n : Nat) (B c : Code) (s : Slots) (H : List AObj) (Q : AQ) : Prop := AWPSr none P N n B c s H Q
def AWPSR (P : Program) (N n : Nat) (B c : Code) (s : Slots) (H : List AObj) (Q : AQ) : Prop := ∀ ro, AWPSr ro P N n B c s H Q

theorem AWPS.sub {ro P N n B c s s' H Q} (h : AWPSr ro P N n B c s' H Q) (hs : ∀ d, get s' d = get s d ∨ get s' d = .bad) : AWPSr ro P N n B c s H Q :=
  fun M loc w a h0 h1 h2 h3 dm h4 ht => h M loc w a h0 h1 (h2.sub hs) h3 dm h4 ht

/-! ### by the code's form -/

def firstId : Code → Nat
  | .region id _ _ => id
  | .seq a _ => firstId a
  | .cond _ a _ => firstId a
  | .block _ b => firstId b
  | .loop b => firstId b
  | .scope b => firstId b
  | _ => 0

def restrict (s : Slots) : List Nat → Slots
  | [] => []
  | i :: r => (i, get s i) :: restrict s r

theorem get_restrict (s : Slots) (d : Nat) : ∀ l : List Nat, get (restrict s l) d = get s d ∨ get (restrict s l) d = .bad
  | [] => .inr rfl
  | i :: r => by
    simp only [restrict, get]
    cases h : Nat.beq i d with
    | true => left; have := Nat.eq_of_beq_eq_true h; subst this; rfl
    | false => exact get_restrict s d r

/-- what stands behind the first of two pieces -/
def seqQ (next : Slots → List AObj → Prop) (Q : AQ) : AQ := fun e s H => match e with
  | .normal => next s H
  | e => Q e s H

def blockQ (id : Nat) (Q : AQ) : AQ := fun e s H => match e with
  | .exit id' => bif Nat.beq id' id then Q .normal s H else Q (.exit id') s H
  | e => Q e s H

/-- .. in the frames that a text speaks of -/
def AWPc (cfg : Cfg) (P : Program) (n : Nat) (c : Code) (s : Slots) (H : List AObj) (Q : AQ) : Prop := match cfg.rnd with
  | false => AWP P cfg.N n c s H Q
  | true => AWPR P cfg.N n c s H Q
def AWPSc (cfg : Cfg) (P : Program) (n : Nat) (B c : Code) (s : Slots) (H : List AObj) (Q : AQ) : Prop := match cfg.rnd with
  | false => AWPS P cfg.N n B c s H Q
  | true => AWPSR P cfg.N n B c s H Q

/-- the frames that a text speaks of -/
def okRo (cfg : Cfg) (ro : Option Nat) : Prop := cfg.rnd = false → ro = none

theorem AWPc.r {cfg : Cfg} {P : Program} {n : Nat} {c : Code} {s : Slots} {H : List AObj} {Q : AQ} {ro : Option Nat} (hro : okRo cfg ro) (h : AWPc cfg P n c s H Q) : AWPr ro P cfg.N n c s H Q := by
  unfold AWPc at h
  split at h
  · rename_i hc; rw [hro hc]; exact h
  · exact h ro
theorem AWPSc.r {cfg : Cfg} {P : Program} {n : Nat} {B c : Code} {s : Slots} {H : List AObj} {Q : AQ} {ro : Option Nat} (hro : okRo cfg ro) (h : AWPSc cfg P n B c s H Q) : AWPSr ro P cfg.N n B c s H Q := by
  unfold AWPSc at h
  split at h
  · rename_i hc; rw [hro hc]; exact h
  · exact h ro

/-- what stands behind a scope -/
def scopeQ (P : Program) (cfg : Cfg) (n : Nat) (B : Code) (Q : AQ) : AQ := fun e s H => match e with
  | .goto l => match findLabel B l with
    | some r => AWPSc cfg P n B r (restrict s (cfg.live (firstId r))) H Q
    | none => Q (.goto l) s H
  | e => Q e s H

theorem AWPSr.of {ro : Option Nat} {P : Program} {n : Nat} {B c : Code} {s : Slots} {H : List AObj} {Q : AQ} (cfg : Cfg) (hro : okRo cfg ro) (h : AWPr ro P cfg.N n c s H (scopeQ P cfg n B Q)) : AWPSr ro P cfg.N n B c s H Q := by
  intro M loc w a h0 h1 h2 h3 dm h4 ht
  refine scoped_of_wp (wpIn_mono (h M loc w a h0 h1 h2 h3 dm h4 ht) fun e a' w' hq => ?_)
  obtain ⟨s', H', M', loc', hk, hQ, r1, r2, r3, r4, r5⟩ := hq
  cases e with
  | goto l =>
    simp only [scopeQ] at hQ
    simp only
    cases hf : findLabel B l with
    | some r =>
      rw [hf] at hQ
      have hy : AWPSr ro P cfg.N n B r s' H' Q := AWPS.sub (hQ.r hro) (fun d => get_restrict s' d _)
      exact (hy M' loc' w' a' r5.len r1 r2 r3 dm r4 (ht.step h1 r5)).mono fun e a w => QC.step r5 (Nat.le_refl _)
    | none =>
      rw [hf] at hQ
      exact ⟨s', H', M', loc', hk, hQ, r1, r2, r3, r4, r5⟩
  | normal => exact ⟨s', H', M', loc', hk, hQ, r1, r2, r3, r4, r5⟩
  | exit id => exact ⟨s', H', M', loc', hk, hQ, r1, r2, r3, r4, r5⟩
  | ret => exact ⟨s', H', M', loc', hk, hQ, r1, r2, r3, r4, r5⟩
  | panic c => exact hk.elim
  | outgrown => exact hk.elim

theorem AWPS.of {P : Program} {n : Nat} {B c : Code} {s : Slots} {H : List AObj} {Q : AQ} (cfg : Cfg) (h : AWP P cfg.N n c s H (scopeQ P cfg n B Q)) : AWPS P cfg.N n B c s H Q :=
  AWPSr.of cfg (fun _ => rfl) h

/-- what stands behind a range over a function: the record tells how it ended -/
def rangeEnd (Q : AQ) (s : Slots) (id : Nat) (H : List AObj) : Prop :=
  ∃ N s0 ps as bd st, H[id]? = some (.lp N s0 ps as bd st) ∧ match st with
    | .ready => Q .normal s (H.set id .gone)
    | .done (.exit i) => Q (.exit i) s (H.set id .gone)
    | .done .ret => Q .ret s (H.set id .gone)
    | _ => False

/-- a range over a function -/
def arange2 (P : Program) (cfg : Cfg) (n : Nat) (g : Operand) (ps : Array Tmp) (asg body : Code) (s : Slots) (H : List AObj) (Q : AQ) : Prop :=
  match cfg.rnd, ev s g with
  | false, .fn f caps => chk (plainFn P f) (ASpec P f (.yld H.length :: caps) (H ++ [.lp cfg.N (restrict s (cfg.live (firstId body))) ps.toList asg body .ready])
      (fun _ H' => rangeEnd Q s H.length H'))
  | _, _ => False

def awp (P : Program) (cfg : Cfg) (n : Nat) : Code → Slots → List AObj → AQ → Prop
  | .skip, s, H, Q => Q .normal s H
  | .region _ ops draw, s, H, Q => match draw with
    | false => aops P cfg ops (List.range ops.size) s H (Q .normal)
    | true => adraw P cfg ops s H (Q .normal)
  | .seq a b, s, H, Q => awp P cfg n a s H (seqQ (fun s' H' => match cfg.cut (firstId b) with
      | true => AWPc cfg P n b (restrict s' (cfg.live (firstId b))) H' Q
      | false => awp P cfg n b s' H' Q) Q)
  | .cond c a b, s, H, Q => match ev s c with
    | .bool t => condP t (awp P cfg n a s H Q) (awp P cfg n b s H Q)
    | _ => False
  | .block id b, s, H, Q => awp P cfg n b s H (blockQ id Q)
  | .loop b, s, H, Q => AWPc cfg P n (.loop b) (restrict s (cfg.live (firstId b))) H Q
  | .exit id, s, H, Q => Q (.exit id) s H
  | .label _, s, H, Q => Q .normal s H
  | .ret, s, H, Q => Q .ret s H
  | .scope b, s, H, Q => awp P cfg n b s H (scopeQ P cfg n b Q)
  | .goto l, s, H, Q => Q (.goto l) s H
  | .rangeFunc g ps asg body, s, H, Q => arange2 P cfg n g ps asg body s H Q
  | _, _, _, _ => False

section
variable {P : Program} {M : Mem} {loc : Locs} {H : List AObj} {w : World}

theorem setBlk_put (w : World) (l : Nat) (o : Obj) : w.putObj l o = setBlk w l o := rfl

theorem arange2_sound (cfg : Cfg) (n : Nat) {g : Operand} {ps : Array Tmp} {asg body : Code} {s : Slots} {H : List AObj} {Q : AQ} {ro : Option Nat} (hro : okRo cfg ro) (h : arange2 P cfg n g ps asg body s H Q) : AWPr ro P cfg.N n (.rangeFunc g ps asg body) s H Q := by
  intro M loc w a h0 h1 h2 h3 dm h4 ht
  unfold arange2 at h
  split at h
  case h_2 => exact h.elim
  case h_1 f caps hrnd hev =>
  obtain ⟨hp, h⟩ := chk_elim h
  cases hro hrnd
  have hf := vrel_ev h2 g
  rw [hev] at hf
  generalize hq : a.eval g = q at hf
  cases hf with
  | fn _ _ vs hvs hvr =>
  refine wpIn_rangeFunc ?_
  intro fn _
  obtain ⟨hd0, lD, hnd, hds, hlD⟩ := h4
  have hg1 : Grown w (w.alloc (.deferred (some []))) := ⟨by simp, fun b hb => heap_alloc_lt hb, rfl, rfl, rfl⟩
  obtain ⟨r1, r2⟩ := h1.grown hg1
  have k1 := r2.keeps h1
  have hsz1 : (w.alloc (.deferred (some []))).heap.size = w.heap.size + 1 := by simp
  let rec0 : Loop := { state := .ready, pending := none, fn, tmps := a.tmps, params := ps, assign := asg, body, defers := w.heap.size }
  have kn := keeps_alloc r1 (.loop rec0) 0 (some (.blk (w.heap.size + 1)))
  rw [← hsz1] at kn
  obtain ⟨r3, r4⟩ := r1.new (.loop rec0) 0 (fun h => absurd h (Nat.lt_irrefl 0)) (.blk (w.alloc (.deferred (some []))).heap.size)
    (.lp cfg.N (restrict s (cfg.live (firstId body))) ps.toList asg body .ready) (.inr rfl)
    ⟨_, rec0, rfl, r1.base, by simp [Mem.grow], heap_alloc_new _ _, rfl, rfl, rfl, h3, fun d => ((((h2.sub (fun d => get_restrict s d (cfg.live (firstId body)))).keeps k1).keeps kn) d), rfl, rfl⟩
  obtain ⟨W1, hW1⟩ : ∃ W1, W1 = (w.alloc (.deferred (some []))).alloc (.loop rec0) := ⟨_, rfl⟩
  have hD1 : W1.heap[w.heap.size]? = some (.deferred (some [])) := by
    rw [hW1, heap_alloc_lt (by rw [hsz1]; omega)]; exact heap_alloc_new _ _
  rw [← hW1] at r3 r4
  have r5 := Step.trans r2 r4
  have hall : VRels (M.grow (w.alloc (.deferred (some []))).heap.size 0) W1 (locSet loc H.length (.blk (w.alloc (.deferred (some []))).heap.size)) (.yld H.length :: caps) (#[.func (.yield (w.heap.size + 1)) #[] #[]] ++ vs) := by
    refine VRels.append (xs := [.yld H.length]) (vs := #[.func (.yield (w.heap.size + 1)) #[] #[]]) ⟨rfl, fun i hi => ?_⟩ ⟨hvs, fun i hi => (hvr i hi).keeps (r5.keeps h1)⟩
    have : i = 0 := by simpa using hi
    subst this
    exact .yld _ _ (by simp [locSet, hsz1])
  have hcalls := h _ _ _ _ (ht.step h1 r5) r3 hall
  unfold plainFn at hp
  split at hp
  case h_2 => cases hp
  case h_1 fnf hfn =>
  rw [Bool.and_eq_true] at hp
  have hname : (fnf.name == "runtime.NumGoroutine") = false := by simpa using hp.2
  have hbody : fnf.body.isNone = false := by
    cases hb : fnf.body with
    | none => rw [hb] at hp; simp at hp
    | some c => rfl
  refine ⟨w.heap.size + 1, [{ target := .collected w.heap.size, args := #[] }], W1, { target := .fn (.func f) vs, args := #[.func (.yield (w.heap.size + 1)) #[] #[]] }, W1, f,
    #[.func (.yield (w.heap.size + 1)) #[] #[]] ++ vs, W1, ?_, ?_, fun _ _ => trivial, ?_, fun h => by simp [FW] at h, ?_⟩
  · rw [hW1]; exact run_enterLoop_outer _ _ _ _ _
  · simp only [resolve, hq]
    simp [Act.eval, Deferred.ofValue]
  · simp only [invoke, callFunc, Sem.run_bind, run_program, Result.andThen_ok, hfn, hname, hbody, Bool.false_eq_true, if_false, Sem.run_pure]
  · refine (callsW hcalls).mono fun e W2 hh => ?_
    obtain ⟨v, r, H2, M2, loc2, rfl, hE, q1, q2, q3⟩ := hh
    obtain ⟨N0, s0, ps0, as0, bd0, st, hid, hE⟩ := hE
    have hlid : loc2 H.length = some (.blk (w.heap.size + 1)) := by
      rw [q3.locs H.length (by simp)]
      simp [locSet, hsz1]
    have hol := q1.objs _ _ hid
    rw [hlid] at hol
    obtain ⟨b, rec, e1, g1, g2, g3, g4, g5, g6, g7, g8, g9⟩ := hol
    cases e1
    have hnb2 : rec.state ≠ .busy := by
      intro hb
      cases st with
      | ready => rw [g9.1] at hb; cases hb
      | busy => exact hE.elim
      | done c => rw [g9.1] at hb; cases hb
    obtain ⟨q4, q5⟩ := q1.write H.length (w.heap.size + 1) _ .gone (.loop { rec with state := .exhausted }) hid (by intro h; cases h) hlid (fun cs T fr hc => by rw [g3] at hc; cases hc) trivial
    have r6 := StepN.trans r5 (Step.trans q3 q5) (by simp)
    have hDne : w.heap.size ≠ w.heap.size + 1 := by omega
    have hnoW1 : ¬ Owned (locSet loc H.length (.blk (w.alloc (.deferred (some []))).heap.size)) (H ++ [.lp cfg.N (restrict s (cfg.live (firstId body))) ps.toList asg body .ready]) w.heap.size := by
      rintro ⟨i, o, l, hi, hgn, hl, hb⟩
      by_cases hiH : i < H.length
      · rw [List.getElem?_append_left hiH] at hi
        simp only [locSet] at hl
        rw [if_neg (Nat.ne_of_lt hiH)] at hl
        have := ((h1.objs i o hi).block_lt hgn (by rw [hl]; exact hb)).1
        omega
      · have hiL : i = H.length := by
          have := (List.getElem?_eq_some_iff.1 hi).1
          simp at this; omega
        subst hiL
        simp only [locSet, if_true, Option.some.injEq] at hl
        subst hl
        simp only [Loc.block?, Option.some.injEq] at hb
        omega
    have hltW1 : w.heap.size < W1.heap.size := cells_lt hD1
    have hD2 := q3.keep w.heap.size hltW1 hnoW1
    have hD3 : (setBlk W2 (w.heap.size + 1) (.loop { rec with state := .exhausted })).heap[w.heap.size]? = some (.deferred (some [])) := by
      rw [setBlk_other hDne, hD2.1]; exact hD1
    have hnoW3 : ¬ Owned loc2 (H2.set H.length .gone) w.heap.size := by
      intro ho
      have ho2 := q5.own w.heap.size (Nat.lt_of_lt_of_le hltW1 q3.size) ho
      exact hnoW1 (q3.own w.heap.size hltW1 ho2)
    have hokD : okD dm loc2 (H2.set H.length .gone) (setBlk W2 (w.heap.size + 1) (.loop { rec with state := .exhausted })) ([{ target := .collected w.heap.size, args := #[] }] ++ a.defers) := by
      have hold := okD.step ⟨hd0, lD, hnd, hds, hlD⟩ r6
      obtain ⟨z0, l', z1, z2, z3⟩ := hold
      have hinj : l' = lD := by
        have : marksOf l' = marksOf lD := by rw [← z2, hds]
        unfold marksOf at this
        exact List.map_inj_right (fun x y h => by simpa using h) |>.1 this
      subst hinj
      refine ⟨z0, w.heap.size :: l', List.nodup_cons.2 ⟨fun hm => ?_, z1⟩, by rw [z2]; rfl, fun D hD => ?_⟩
      · have := cells_lt (hlD _ hm).2.1
        omega
      · rcases List.mem_cons.1 hD with rfl | hD
        · exact ⟨hd0, hD3, hnoW3⟩
        · exact z3 D hD
    have hS : SRel M2 (setBlk W2 (w.heap.size + 1) (.loop { rec with state := .exhausted })) loc2 s a.tmps := h2.keeps (Step.keeps r6 h1)
    have hst : StepN n M loc H w M2 loc2 (H2.set H.length .gone) (setBlk W2 (w.heap.size + 1) (.loop { rec with state := .exhausted })) := r6.mono h0
    have fin : ∀ e : Exit, okExit e → Q e s (H2.set H.length .gone) →
        QC cfg.N n dm M loc H w Q e { a with defers := [{ target := .collected w.heap.size, args := #[] }] ++ a.defers } (setBlk W2 (w.heap.size + 1) (.loop { rec with state := .exhausted })) :=
      fun e he hQ => ⟨_, _, M2, loc2, he, hQ, q4, hS, h3, hokD, hst⟩
    cases st with
    | busy => exact hE.elim
    | ready =>
      refine ⟨none, setBlk W2 (w.heap.size + 1) (.loop { rec with state := .exhausted }), ?_, fin .normal trivial hE⟩
      exact (run_endLoop g3 hnb2).trans (congrArg (fun p => Result.ok p _) g9.2)
    | done c =>
      refine ⟨some c, setBlk W2 (w.heap.size + 1) (.loop { rec with state := .exhausted }), ?_, ?_⟩
      · exact (run_endLoop g3 hnb2).trans (congrArg (fun p => Result.ok p _) g9.2)
      · cases c with
        | exit i => exact wpIn_exit (fin (.exit i) trivial hE)
        | ret => exact wpIn_ret (fin .ret trivial hE)
        | _ => exact hE.elim

theorem awp_soundR (cfg : Cfg) (n : Nat) {ro : Option Nat} (hro : okRo cfg ro) : ∀ (c : Code) (s : Slots) (H : List AObj) (Q : AQ), awp P cfg n c s H Q → AWPr ro P cfg.N n c s H Q := by
  intro c
  induction c with
  | skip => exact fun s H Q h M loc w a h0 h1 h2 h3 dm h4 ht => wpIn_skip ⟨s, H, M, loc, trivial, h, h1, h2, h3, h4, (Step.refl _ _ _ _).mono h0⟩
  | region id ops draw =>
    intro s H Q h M loc w a h0 h1 h2 h3 dm h4 ht
    cases draw with
    | false =>
      exact wpIn_region (aops_sound _ s a _ h ht h1 h2 h3 fun a' s' H' M' loc' w' k1 k2 k3 k4 k5 k6 => ⟨s', H', M', loc', trivial, k1, k2, k3, k4, by rw [k5]; exact h4.step k6, k6.mono h0⟩)
    | true =>
      exact adraw_sound (cfg := cfg) h ht h1 h2 h3 fun a' s' H' M' loc' w' k1 k2 k3 k4 k5 k6 => ⟨s', H', M', loc', trivial, k1, k2, k3, k4, by rw [k5]; exact h4.step k6, k6.mono h0⟩
  | seq x y ihx ihy =>
    intro s H Q h M loc w a h0 h1 h2 h3 dm h4 ht
    refine wpIn_seq (wpIn_mono (ihx s H _ h M loc w a h0 h1 h2 h3 dm h4 ht) fun e a' w' hq => ?_)
    obtain ⟨s', H', M', loc', hk, hQ, r1, r2, r3, r4, r5⟩ := hq
    cases e with
    | normal =>
      simp only [seqQ] at hQ
      have hy : AWPr ro P cfg.N n y s' H' Q := by
        cases hc : cfg.cut (firstId y) with
        | true =>
          rw [hc] at hQ
          exact AWP.sub (hQ.r hro) (fun d => get_restrict s' d _)
        | false =>
          rw [hc] at hQ
          exact ihy s' H' Q hQ
      exact wpIn_mono (hy M' loc' w' a' r5.len r1 r2 r3 dm r4 (ht.step h1 r5)) fun e a w => QC.step r5 (Nat.le_refl _)
    | exit id => exact ⟨s', H', M', loc', hk, hQ, r1, r2, r3, r4, r5⟩
    | goto l => exact ⟨s', H', M', loc', hk, hQ, r1, r2, r3, r4, r5⟩
    | ret => exact ⟨s', H', M', loc', hk, hQ, r1, r2, r3, r4, r5⟩
    | panic c => exact hk.elim
    | outgrown => exact hk.elim
  | cond c x y ihx ihy =>
    intro s H Q h M loc w a h0 h1 h2 h3 dm h4 ht
    simp only [awp] at h
    split at h
    case h_2 => exact h.elim
    case h_1 t hbt =>
    have hv := vrel_ev h2 c
    rw [hbt] at hv
    generalize hq : a.eval c = q at hv
    cases hv
    cases t with
    | true => exact wpIn_cond hq (ihx s H Q h M loc w a h0 h1 h2 h3 dm h4 ht)
    | false => exact wpIn_cond hq (ihy s H Q h M loc w a h0 h1 h2 h3 dm h4 ht)
  | block id b ih =>
    intro s H Q h M loc w a h0 h1 h2 h3 dm h4 ht
    refine wpIn_block (wpIn_mono (ih s H _ h M loc w a h0 h1 h2 h3 dm h4 ht) fun e a' w' hq => ?_)
    obtain ⟨s', H', M', loc', hk, hQ, r1, r2, r3, r4, r5⟩ := hq
    cases e with
    | exit id' =>
      simp only [blockQ] at hQ
      simp only [Exit.inBlock]
      cases hb : Nat.beq id' id with
      | true =>
        rw [hb] at hQ
        rw [if_pos (Nat.eq_of_beq_eq_true hb)]
        exact ⟨s', H', M', loc', trivial, hQ, r1, r2, r3, r4, r5⟩
      | false =>
        rw [hb] at hQ
        rw [if_neg (fun e => by subst e; simp at hb)]
        exact ⟨s', H', M', loc', trivial, hQ, r1, r2, r3, r4, r5⟩
    | normal => exact ⟨s', H', M', loc', hk, hQ, r1, r2, r3, r4, r5⟩
    | goto l => exact ⟨s', H', M', loc', hk, hQ, r1, r2, r3, r4, r5⟩
    | ret => exact ⟨s', H', M', loc', hk, hQ, r1, r2, r3, r4, r5⟩
    | panic c => exact hk.elim
    | outgrown => exact hk.elim
  | loop b ih => exact fun s H Q h => AWP.sub (AWPc.r hro h) (fun d => get_restrict s d _)
  | exit id => exact fun s H Q h M loc w a h0 h1 h2 h3 dm h4 ht => wpIn_exit ⟨s, H, M, loc, trivial, h, h1, h2, h3, h4, (Step.refl _ _ _ _).mono h0⟩
  | label l => exact fun s H Q h M loc w a h0 h1 h2 h3 dm h4 ht => wpIn_label ⟨s, H, M, loc, trivial, h, h1, h2, h3, h4, (Step.refl _ _ _ _).mono h0⟩
  | ret => exact fun s H Q h M loc w a h0 h1 h2 h3 dm h4 ht => wpIn_ret ⟨s, H, M, loc, trivial, h, h1, h2, h3, h4, (Step.refl _ _ _ _).mono h0⟩
  | scope b ih =>
    intro s H Q h M loc w a h0 h1 h2 h3 dm h4 ht
    exact wpIn_scope (AWPSr.of cfg hro (ih s H _ h) M loc w a h0 h1 h2 h3 dm h4 ht)
  | goto l => exact fun s H Q h M loc w a h0 h1 h2 h3 dm h4 ht => wpIn_goto ⟨s, H, M, loc, trivial, h, h1, h2, h3, h4, (Step.refl _ _ _ _).mono h0⟩
  | rangeFunc g ps asg body _ _ => exact fun s H Q h => arange2_sound cfg n hro h
  | _ => exact fun s H Q h => h.elim

theorem awp_sound (cfg : Cfg) (n : Nat) (c : Code) (s : Slots) (H : List AObj) (Q : AQ) (h : awp P cfg n c s H Q) : AWP P cfg.N n c s H Q :=
  awp_soundR cfg n (fun _ => rfl) c s H Q h

/-- in any frame -/
theorem awpR_sound (cfg : Cfg) (n : Nat) (hrnd : cfg.rnd = true) (c : Code) (s : Slots) (H : List AObj) (Q : AQ) (h : awp P cfg n c s H Q) : AWPR P cfg.N n c s H Q :=
  fun ro => awp_soundR cfg n (fun h0 => by rw [hrnd] at h0; cases h0) c s H Q h

/-! ### functions -/

def aresult (P : Program) (s : Slots) (H : List AObj) : ResultVar → (AV → Prop) → Prop
  | .tmp t, K => K (get s t)
  | .cell a t, K => aload P t (get s a) H K

def aresults (P : Program) (s : Slots) (H : List AObj) : List ResultVar → (List AV → Prop) → Prop
  | [], K => K []
  | r :: rest, K => aresult P s H r fun v => aresults P s H rest fun vs => K (v :: vs)

def tupled : List AV → AV
  | [v] => v
  | vs => .tup vs

def slotsOf : Nat → List AV → Slots
  | _, [] => []
  | i, a :: r => (i, a) :: slotsOf (i + 1) r

/-- what stands at a function's end -/
def endQ (P : Program) (rs : List ResultVar) (Post : AV → List AObj → Prop) : AQ := fun e s H => match e with
  | .normal | .ret => aresults P s H rs fun vs => Post (tupled vs) H
  | _ => False

theorem get_slotsOf : ∀ (as : List AV) (k d : Nat), get (slotsOf k as) d = if k ≤ d then as.getD (d - k) .bad else .bad
  | [], k, d => by simp [slotsOf, get]
  | a :: r, k, d => by
    simp only [slotsOf, get]
    cases h : Nat.beq k d with
    | true => have := Nat.eq_of_beq_eq_true h; subst this; simp
    | false =>
      have hne : k ≠ d := fun e => by subst e; simp at h
      simp only [cond_false]
      rw [get_slotsOf r (k + 1) d]
      by_cases h1 : k ≤ d
      · rw [if_pos h1, if_pos (by omega), show d - k = (d - (k + 1)) + 1 by omega]; rfl
      · rw [if_neg h1, if_neg (by omega)]

def rvRead (tmps : Array Value) (r : ResultVar) : Sem Value := match r with
  | .tmp t => pure (tmps.getD t undef)
  | .cell a t => do loadVar t (← asAddr (tmps.getD a undef))

theorem aresults_run {s : Slots} {tmps : Array Value} (hs : SRel M w loc s tmps) (hr : Rel M loc H w) : ∀ (rs : List ResultVar) (K : List AV → Prop), aresults P s H rs K →
    ∃ vs avs, (rs.mapM (rvRead tmps)).run P w = .ok vs w ∧ K avs ∧ ∃ hl : vs.length = avs.length, ∀ i (h : i < avs.length), VRel M w loc avs[i] (vs[i]'(by omega))
  | [], K, h => ⟨[], [], rfl, h, rfl, fun i h => by simp at h⟩
  | r :: rest, K, h => by
    simp only [aresults] at h
    have hone : ∃ v av, (rvRead tmps r).run P w = .ok v w ∧ VRel M w loc av v ∧ aresults P s H rest fun vs => K (av :: vs) := by
      cases r with
      | tmp t => exact ⟨_, _, rfl, hs t, h⟩
      | cell a t =>
        obtain ⟨addr, x, av, he, hrun, hx, hK⟩ := aload_core h hr (hs a)
        refine ⟨x, av, ?_, hx, hK⟩
        simp only [rvRead, he, asAddr, pure_bind, hrun]
    obtain ⟨v, av, h1, h2, h3⟩ := hone
    obtain ⟨vs, avs, k1, k2, hl, k3⟩ := aresults_run hs hr rest _ h3
    refine ⟨v :: vs, av :: avs, ?_, k2, by simp [hl], fun i hi => ?_⟩
    · rw [List.mapM_cons]
      simp only [Sem.run_bind, h1, k1, Result.andThen_ok, Sem.run_pure]
    · cases i with
      | zero => exact h2
      | succ i => exact k3 i (by simpa using hi)

theorem results_run {fn : Func} {s : Slots} {tmps : Array Value} {Post : AV → Prop} (hs : SRel M w loc s tmps) (hr : Rel M loc H w) (h : aresults P s H fn.results.toList fun vs => Post (tupled vs)) :
    ∃ v av, (results fn tmps).run P w = .ok v w ∧ VRel M w loc av v ∧ Post av := by
  obtain ⟨vs, avs, h1, k2, hl, h3⟩ := aresults_run hs hr _ _ h
  have hm : (fn.results.mapM (rvRead tmps) : Sem (Array Value)).run P w = .ok vs.toArray w := by
    rw [Array.mapM_eq_mapM_toList]
    simp only [Sem.run_map, h1, Result.andThen_ok]
  have hres : (results fn tmps).run P w = .ok (if h : vs.toArray.size = 1 then vs.toArray[0] else .tuple vs.toArray) w := by
    have : results fn tmps = (do let vs ← fn.results.mapM (rvRead tmps); pure (if h : vs.size = 1 then vs[0] else .tuple vs)) := rfl
    rw [this]
    simp only [Sem.run_bind, hm, Result.andThen_ok, Sem.run_pure]
  refine ⟨_, tupled avs, hres, ?_, k2⟩
  clear hm hres h1 k2
  match avs, vs, hl, h3 with
  | [], [], _, _ => exact .tup [] #[] rfl (fun i h => by simp at h)
  | [a], [v], _, h3 => exact h3 0 (by simp)
  | a :: b :: r, v :: u :: q, hl, h3 =>
    have : ¬ ((v :: u :: q).toArray.size = 1) := by simp
    rw [dif_neg this]
    refine .tup _ _ (by simpa using hl) (fun i hi => ?_)
    have := h3 i hi
    simpa using this

/-- A FUNCTION's SPECIFICATION out of its code. -/
theorem ASpec.of_awp {f : FuncId} {fn : Func} {c : Code} {args : List AV} {Post : AV → List AObj → Prop} (N : Nat) (hf : P.funcs[f]? = some fn) (hb : fn.body = some c) (hN : fn.ntmps = N) (hargs : Nat.ble args.length N = true)
    (h : AWP P N H.length c (slotsOf 0 args) H (endQ P fn.results.toList Post)) : ASpec P f args H Post := by
  intro M loc w vs ht hr hv
  obtain ⟨hvs, hv⟩ := hv
  have hle := Nat.le_of_ble_eq_true hargs
  refine callsOfW (ro := none) (k := 0) (callsIn_of_wp_marks (F := FW none) (n := 0) hf hb trivial ?_)
  refine wpIn_mono (h M loc w _ (Nat.le_refl _) hr ?_ ?_ w.heap.size okD.nil ht) fun e a' w' hq => ?_
  · intro d
    rw [get_slotsOf]
    simp only [Nat.zero_le, if_true, Nat.sub_zero]
    by_cases hd : d < args.length
    · rw [getD_lt _ _ _ hd]
      have := hv d hd
      have e : (vs ++ Array.replicate (fn.ntmps - vs.size) undef).getD d undef = vs[d]'(by omega) := by
        simp only [Array.getD_eq_getD_getElem?]
        rw [Array.getElem?_append_left (by omega), Array.getElem?_eq_getElem (by omega)]; rfl
      simp only [e]; exact this
    · have : args.getD d .bad = .bad := by simp [List.getD, List.getElem?_eq_none (Nat.le_of_not_lt hd)]
      rw [this]; exact .bad _
  · simp; omega
  · obtain ⟨s', H', M', loc', hk, hQ, r1, r2, r3, r4, r5⟩ := hq
    obtain ⟨_, l, hnd, hds, hlD⟩ := r4
    have key : ∀ (l : List Nat) (w' : World), l.Nodup → (∀ D ∈ l, w.heap.size ≤ D ∧ w'.heap[D]? = some (.deferred (some [])) ∧ ¬ Owned loc' H' D) → Rel M' loc' H' w' → SRel M' w' loc' s' a'.tmps → StepN H.length M loc H w M' loc' H' w' →
        aresults P s' H' (fn.results.toList) (fun vs => Post (tupled vs) H') →
        LeavesInM (FW none) 0 P fn a'.tmps (fun e w' => ∃ v r H' M' loc', e = .returned v ∧ Post r H' ∧ Rel M' loc' H' w' ∧ VRel M' w' loc' r v ∧ Step M loc H w M' loc' H' w') (marksOf l) .returning w' := by
      intro l
      induction l with
      | nil =>
        intro w' _ _ k1 k2 k3 k4
        obtain ⟨v, av, h1, h2, h3⟩ := results_run (Post := fun r => Post r H') k2 k1 k4
        exact ⟨v, h1, v, av, H', M', loc', rfl, h3, k1, h2, k3⟩
      | cons D l ih =>
        intro w' hnd hl k1 k2 k3 k4
        obtain ⟨hD0, hD1, hD2⟩ := hl D (List.mem_cons_self ..)
        obtain ⟨p1, p2⟩ := k1.poke hD1 hD2 (.deferred none) (by intro cs T fr h; cases h)
        refine ⟨by simp, .inl ⟨D, setBlk w' D (.deferred none), rfl, run_takeDeferred hD1, ih _ (List.nodup_cons.1 hnd).2 (fun D' hD' => ?_) p1 (k2.keeps p2) (k3.poke hD0 hD1) k4⟩⟩
        obtain ⟨g1, g2, g3⟩ := hl D' (List.mem_cons_of_mem _ hD')
        have hne : D' ≠ D := by
          rintro rfl
          exact (List.nodup_cons.1 hnd).1 hD'
        exact ⟨g1, by rw [setBlk_other hne]; exact g2, g3⟩
    cases e with
    | normal =>
      show LeavesInM (FW none) 0 P fn a'.tmps _ a'.defers .returning w'
      rw [hds]
      exact key l w' hnd hlD r1 r2 r5 hQ
    | ret =>
      show LeavesInM (FW none) 0 P fn a'.tmps _ a'.defers .returning w'
      rw [hds]
      exact key l w' hnd hlD r1 r2 r5 hQ
    | exit id => exact hQ.elim
    | goto l => exact hQ.elim
    | panic c => exact hk.elim
    | outgrown => exact hk.elim

end
end Go.Ab
end

section
/- The ways into code, and how a printed condition is taken. -/

namespace Go.Ab

/-- the pieces of code, by their ways -/
def codeFst : Code → Code
  | .seq a _ => a
  | .cond _ a _ => a
  | .block _ b => b
  | .loop b => b
  | .scope b => b
  | .rangeFunc _ _ _ b => b
  | c => c
def codeAsg : Code → Code
  | .rangeFunc _ _ a _ => a
  | c => c
def codeSnd : Code → Code
  | .seq _ b => b
  | .cond _ _ b => b
  | c => c

theorem kc {A B : Prop} (e : A = B) (h : A) : B := e ▸ h

def encI (n : Int) : List AV := [.int .i64 n]
/-- a function's arguments and the heap -/
def argsH (as : List AV) (H : List AObj) : List AV × List AObj := (as, H)

/-- a function's forms: those that stand one behind the other -/
def sameR : List (Nat × Ret) → FuncId → List Ret
  | [], _ => []
  | (g, r) :: l, f => bif Nat.beq g f then r :: sameR l f else []
def lookupR : List (Nat × Ret) → FuncId → List Ret
  | [], _ => []
  | (g, r) :: l, f => bif Nat.beq g f then r :: sameR l f else lookupR l f

def bodyOf (f : Func) : Code := match f.body with | some c => c | none => .skip
def resultsOf (f : Func) : List ResultVar := f.results.toList
def zipSlots : List Nat → List AV → Slots
  | k :: l, a :: r => (k, a) :: zipSlots l r
  | _, _ => []

/-- what stands behind a loop's body -/
def loopQ (P : Program) (N n : Nat) (c : Code) (Q : AQ) (live : Nat → List Nat) : AQ := fun e s H => match e with
  | .normal => AWP P N n c (restrict s (live (firstId (codeFst c)))) H Q
  | e => Q e s H

theorem AWP.loop' {P : Program} {N n : Nat} {s : Slots} {H : List AObj} {Q : AQ} (cfg : Cfg) (live : Nat → List Nat) (c : Code) (hc : c = .loop (codeFst c)) (hN : cfg.N = N)
    (h : awp P cfg n (codeFst c) s H (loopQ P N n c Q live)) : AWP P N n c s H Q := by
  have k := awp_sound cfg n _ _ _ _ h
  rw [hN] at k
  generalize hb : codeFst c = b at *
  subst hc
  refine AWP.loop (AWP.mono k fun e s' H' hq => ?_)
  cases e with
  | normal => exact AWP.sub hq (fun d => get_restrict s' d _)
  | _ => exact hq

/-- .. in any frame -/
def loopQR (P : Program) (N n : Nat) (c : Code) (Q : AQ) (live : Nat → List Nat) : AQ := fun e s H => match e with
  | .normal => AWPR P N n c (restrict s (live (firstId (codeFst c)))) H Q
  | e => Q e s H

theorem AWPR.loop' {P : Program} {N n : Nat} {s : Slots} {H : List AObj} {Q : AQ} (cfg : Cfg) (live : Nat → List Nat) (c : Code) (hc : c = .loop (codeFst c)) (hN : cfg.N = N) (hrnd : cfg.rnd = true)
    (h : awp P cfg n (codeFst c) s H (loopQR P N n c Q live)) : AWPR P N n c s H Q := by
  intro ro
  have k := awpR_sound cfg n hrnd _ _ _ _ h ro
  rw [hN] at k
  generalize hb : codeFst c = b at *
  subst hc
  refine AWP.loop (AWP.mono k fun e s' H' hq => ?_)
  cases e with
  | normal => exact AWP.sub (hq ro) (fun d => get_restrict s' d _)
  | _ => exact hq

/-- a round's parameters -/
def bindPs : List Nat → List AV → Slots → Slots
  | p :: ps, a :: as, s => bindPs ps as ((p, a) :: s)
  | _, _, s => s

/-- how a round ends -/
def roundQ (id N : Nat) (s : Slots) (ps : List Nat) (asg body : Code) (Post : AV → List AObj → Prop) : AQ := fun e _ H =>
  H[id]? = some (.lp N s ps asg body .busy) ∧ match e with
    | .normal => Post (.bool true) (H.set id (.lp N s ps asg body .ready))
    | .exit i => Post (.bool false) (H.set id (.lp N s ps asg body (.done (.exit i))))
    | .ret => Post (.bool false) (H.set id (.lp N s ps asg body (.done .ret)))
    | _ => False

/-- a round's two pieces: what is assigned, and the body; in between the record (o) becomes busy (o') -/
def ARound (P : Program) (N n id : Nat) (o o' : AObj) (asg body : Code) (s : Slots) (H : List AObj) (Q : AQ) : Prop :=
  AWPR P N n asg s H (fun e s' H' => match e with
    | .normal => H'[id]? = some o ∧ AWPR P N n body s' (H'.set id o') Q
    | _ => False)

/-- .. by the code's form -/
def roundAwp (P : Program) (cfg : Cfg) (n id : Nat) (o o' : AObj) (asg body : Code) (s : Slots) (H : List AObj) (Q : AQ) : Prop :=
  awp P cfg n asg s H (seqQ (fun s' H' => match H'[id]? with
    | some q => needP (q = o) (awp P cfg n body s' (H'.set id o') Q)
    | none => False) (fun _ _ _ => False))

theorem ARound.of {P : Program} (cfg : Cfg) (n id : Nat) (o o' : AObj) (hrnd : cfg.rnd = true) (asg body : Code) (s : Slots) (H : List AObj) (Q : AQ) (h : roundAwp P cfg n id o o' asg body s H Q) : ARound P cfg.N n id o o' asg body s H Q := by
  intro ro
  refine AWP.mono (awpR_sound cfg n hrnd _ _ _ _ h ro) fun e s' H' hq => ?_
  cases e with
  | normal =>
    simp only [seqQ] at hq
    split at hq
    · rename_i q hid
      obtain ⟨rfl, h2⟩ := hq
      exact ⟨hid, awpR_sound cfg n hrnd _ _ _ _ (h2 rfl)⟩
    · exact hq.elim
  | _ => exact hq.elim

theorem ARound.sub {P : Program} {N n id : Nat} {o o' : AObj} {asg body : Code} {s s' : Slots} {H : List AObj} {Q : AQ} (h : ARound P N n id o o' asg body s' H Q) (hs : ∀ d, get s' d = get s d ∨ get s' d = .bad) : ARound P N n id o o' asg body s H Q :=
  fun ro => AWP.sub (h ro) hs

theorem SRel.bindPs {M : Mem} {w : World} {loc : Locs} : ∀ (ps : List Nat) (as : List AV) (vs : List Value) (s : Slots) (tmps : Array Value), SRel M w loc s tmps → as.length = vs.length → (∀ i (h : i < as.length) (h' : i < vs.length), VRel M w loc as[i] vs[i]) →
    (∀ p ∈ ps, p < tmps.size) → as.length = ps.length → SRel M w loc (Ab.bindPs ps as s) ((ps.zip vs).foldl (fun t (p, v) => t.setIfInBounds p v) tmps) ∧ ((ps.zip vs).foldl (fun t (p, v) => t.setIfInBounds p v) tmps).size = tmps.size
  | [], [], [], s, tmps, h, _, _, _, _ => ⟨h, rfl⟩
  | p :: ps, a :: as, v :: vs, s, tmps, h, hl, hv, hp, hl2 => by
    have h1 := h.put (hp p (List.mem_cons_self ..)) (hv 0 (by simp) (by simp))
    have ih := SRel.bindPs ps as vs ((p, a) :: s) (tmps.setIfInBounds p v) h1 (by simpa using hl) (fun i h h' => by
      have := hv (i + 1) (by simpa using h) (by simpa using h')
      simpa using this) (fun q hq => by simp; exact hp q (List.mem_cons_of_mem _ hq)) (by simpa using hl2)
    refine ⟨ih.1, ?_⟩
    have := ih.2
    simpa using this
  | [], _ :: _, _, _, _, _, _, _, _, hl2 => by simp at hl2
  | _ :: _, [], _, _, _, _, _, _, _, hl2 => by simp at hl2
  | _, _ :: _, [], _, _, _, hl, _, _, _ => by simp at hl
  | _, [], _ :: _, _, _, _, hl, _, _, _ => by simp at hl

theorem keeps_loop {M : Mem} {w : World} {loc : Locs} {b : Nat} {rec : Loop} (g3 : w.heap[b]? = some (.loop rec)) (o : Obj) : Keeps M w loc M (setBlk w b o) loc := by
  refine ⟨fun c k v hi => ?_, fun c cs T fr hc => ?_, fun _ _ h => h⟩
  · have hne : c ≠ b := by
      rintro rfl
      obtain ⟨i1, i2⟩ := hi
      unfold World.cell? at i1
      simp only [g3] at i1
      cases i1
    exact ⟨by rw [cell_of_heap (setBlk_other hne)]; exact hi.1, hi.2⟩
  · have hne : c ≠ b := by
      rintro rfl
      rw [g3] at hc; cases hc
    exact ⟨cs, fr, by rw [setBlk_other hne]; exact hc, rfl⟩

/-- a round, out of its pieces -/
theorem AYield.of {P : Program} {id N : Nat} {args : List AV} {H : List AObj} {s : Slots} {ps : List Nat} {asg body : Code} {Post : AV → List AObj → Prop} (lv : List Nat) (hid : H[id]? = some (.lp N s ps asg body .ready)) (hlen : args.length = ps.length) (hps : ps.all (Nat.blt · N) = true)
    (h : ARound P N H.length id (.lp N s ps asg body .ready) (.lp N s ps asg body .busy) asg body (restrict (bindPs ps args s) lv) H (roundQ id N s ps asg body Post)) : AYield P id args H Post := by
  intro M loc w vs b ht hr hv hl
  have hro := hr.objs id _ hid
  rw [hl] at hro
  obtain ⟨b', rec, e, g1, g2, g3, g4, g5, g6, g7, g8, g9⟩ := hro
  cases e
  obtain ⟨hvs, hv⟩ := hv
  have hps2 : rec.params.size = ps.length := by rw [← g4]; simp
  refine ⟨rec.fn, (rec.params.zip vs).foldl (fun tmps (t, a) => tmps.setIfInBounds t a) rec.tmps, asg, body, ?_, roundIn_of_wpIn (F := FW none) trivial ?_⟩
  · rw [run_yield g3 (by omega), g5, g6]
  have hS : SRel M w loc s rec.tmps := g8
  have hfold : (rec.params.zip vs).foldl (fun tmps (t, a) => tmps.setIfInBounds t a) rec.tmps = ((ps.zip vs.toList).foldl (fun t (p, v) => t.setIfInBounds p v) rec.tmps) := by
    rw [← Array.foldl_toList, Array.toList_zip, g4]
  obtain ⟨b1, b2⟩ := SRel.bindPs ps args vs.toList s rec.tmps hS (by simp [hvs]) (fun i h h' => by
    have := hv i h
    simpa using this) (fun p hp => by
    have := List.all_eq_true.1 hps p hp
    rw [g7]
    simpa [Nat.blt_eq] using this) hlen
  rw [hfold]
  have hlt : id < H.length := (List.getElem?_eq_some_iff.1 hid).1
  have hA := (h.sub (fun d => get_restrict _ d lv)) (some b) M loc w { tmps := (ps.zip vs.toList).foldl (fun t (p, v) => t.setIfInBounds p v) rec.tmps, defers := [] } (Nat.le_refl _) hr b1 (by rw [b2, g7]) _ okD.nil ht
  refine wpIn_mono hA fun e1 a1 w1 hq1 => ?_
  obtain ⟨s1, H1, M1, loc1, hok1, hQ1, y1, y2, y3, y4, y5⟩ := hq1
  cases e1 with
  | normal =>
    obtain ⟨hid1, hbody⟩ := hQ1
    have hl1 : loc1 id = some (.blk b) := by rw [y5.locs id hlt]; exact hl
    have hro1 := y1.objs _ _ hid1
    rw [hl1] at hro1
    obtain ⟨b1', rec1, e1', f1, f2, f3, f4, f5, f6, f7, f8, f9⟩ := hro1
    cases e1'
    obtain ⟨r1, r2⟩ := y1.write id b _ (.lp N s ps asg body .busy) (.loop { rec1 with state := .busy }) hid1 (by intro h; cases h) hl1 (fun cs T fr hc => by rw [f3] at hc; cases hc)
      ⟨b, _, rfl, f1, f2, setBlk_same (cells_lt f3), f4, f5, f6, f7, fun d => (f8 d).keeps (keeps_loop f3 _), rfl, f9.2⟩
    refine ⟨setBlk w1 b (.loop { rec1 with state := .busy }), run_beginRound f3 f9.1, ?_⟩
    have y6 : StepN H.length M loc H w M1 loc1 (H1.set id (.lp N s ps asg body .busy)) (setBlk w1 b (.loop { rec1 with state := .busy })) := StepN.trans y5 r2 y5.len
    have hB := hbody (some b) M1 loc1 _ a1 (by simpa using y5.len) r1 (y2.keeps (r2.keeps y1)) y3 _ (y4.step r2) (ht.step hr y6)
    refine wpIn_mono hB fun e a' w' hq => ?_
    obtain ⟨s', H', M', loc', hok, ⟨hid', hQ⟩, q1, q2, q3, q4, q5⟩ := hq
    have hlid : loc' id = some (.blk b) := by
      rw [q5.locs id hlt]; exact hl1
    have hol := q1.objs _ _ hid'
    rw [hlid] at hol
    obtain ⟨b2', rec', e2, k1, k2, k3, k4, k5, k6, k7, k8, k9⟩ := hol
    cases e2
    have fin : ∀ (jump : Option Code) (st : LpSt), (LpSt.of st (if jump.isNone then .ready else .done) jump) → Post (.bool jump.isNone) (H'.set id (.lp N s ps asg body st)) →
        ∃ v w'', (Instr.endRound b jump).run P w' = .ok v w'' ∧ ∃ v' r H'' M'' loc'', Ending.returned v = .returned v' ∧ Post r H'' ∧ Rel M'' loc'' H'' w'' ∧ VRel M'' w'' loc'' r v' ∧ Step M loc H w M'' loc'' H'' w'' := by
      intro jump st hst hP
      obtain ⟨p1, p2⟩ := q1.write id b _ (.lp N s ps asg body st) (.loop { rec' with state := if jump.isNone then .ready else .done, pending := jump }) hid' (by intro h; cases h) hlid (fun cs T fr hc => by rw [k3] at hc; cases hc)
        ⟨b, _, rfl, k1, k2, setBlk_same (cells_lt k3), k4, k5, k6, k7, fun d => (k8 d).keeps (keeps_loop k3 _), hst⟩
      have hstep : Step M loc H w M' loc' (H'.set id (.lp N s ps asg body st)) (setBlk w' b (.loop { rec' with state := if jump.isNone then .ready else .done, pending := jump })) :=
        StepN.trans y6 (StepN.trans q5 p2 (by simpa using q5.len)) (Nat.le_refl _)
      exact ⟨.bool jump.isNone, _, run_endRound jump k3, _, _, _, M', loc', rfl, hP, p1, .bool _, hstep⟩
    cases e with
    | normal => exact fin none .ready ⟨rfl, rfl⟩ hQ
    | ret => exact fin (some .ret) (.done .ret) ⟨rfl, rfl⟩ hQ
    | exit i => exact fin (some (.exit i)) (.done (.exit i)) ⟨rfl, rfl⟩ hQ
    | goto l => exact hQ.elim
    | panic c => exact hok.elim
    | outgrown => exact hok.elim
  | exit i => exact hQ1.elim
  | goto l => exact hQ1.elim
  | ret => exact hQ1.elim
  | panic c => exact hok1.elim
  | outgrown => exact hok1.elim

/-- a function's specification out of its printed condition -/
theorem ASpec.of_vc {P : Program} {f : FuncId} {fn : Func} {args : List AV} {H : List AObj} {Post : AV → List AObj → Prop} (cfg : Cfg) (hf : P.funcs[f]? = some fn) (hb : fn.body.isSome = true) (hN : fn.ntmps = cfg.N) (hargs : Nat.ble args.length cfg.N = true)
    (h : awp P cfg H.length (bodyOf fn) (slotsOf 0 args) H (endQ P (resultsOf fn) Post)) : ASpec P f args H Post := by
  cases hc : fn.body with
  | none => rw [hc] at hb; cases hb
  | some c =>
    refine ASpec.of_awp cfg.N hf hc hN hargs (awp_sound cfg _ _ _ _ _ ?_)
    have : bodyOf fn = c := by unfold bodyOf; rw [hc]
    rw [← this]; exact h

end Go.Ab
end

section
/- Other names for the heap's objects; states that stand for others; calls in a larger heap. -/

set_option linter.unusedVariables false
set_option linter.unusedSimpArgs false
namespace Go.Ab

def Tip.ren (ρ : Nat → Nat) : Tip → Tip
  | .tok id => .tok (ρ id)
  | t => t

mutual
def AV.ren (ρ : Nat → Nat) : AV → AV
  | .ptr id off => .ptr (ρ id) off
  | .iptr cs off => .iptr (renL ρ cs) off
  | .sl sz s tip => .sl sz (Seq.ren ρ s) (tip.ren ρ)
  | .msl sz id off len => .msl sz (ρ id) off len
  | .mptr sz id i off => .mptr sz (ρ id) i off
  | .agg cs => .agg (renL ρ cs)
  | .tup vs => .tup (renL ρ vs)
  | .fn f cap => .fn f (renL ρ cap)
  | .iface t v => .iface t (AV.ren ρ v)
  | .map id => .map (ρ id)
  | .bad => .bad
  | .int k n => .int k n
  | .bool b => .bool b
  | .str s => .str s
  | .nilp => .nilp
  | .nilf => .nilf
  | .nili => .nili
  | .nmap => .nmap
  | .meth t n v => .meth t n (AV.ren ρ v)
  | .yld id => .yld (ρ id)
  | .csl sz id off len => .csl sz (ρ id) off len
def Seq.ren (ρ : Nat → Nat) : Seq → Seq
  | .raw l => .raw (renLL ρ l)
  | .map enc d xs => .map (fun x => renL ρ (enc x)) d xs
  | .app a b => .app (Seq.ren ρ a) (Seq.ren ρ b)
def renL (ρ : Nat → Nat) : List AV → List AV
  | [] => []
  | a :: r => AV.ren ρ a :: renL ρ r
def renLL (ρ : Nat → Nat) : List (List AV) → List (List AV)
  | [] => []
  | a :: r => renL ρ a :: renLL ρ r
end

theorem renL_map (ρ : Nat → Nat) : ∀ l : List AV, renL ρ l = l.map (AV.ren ρ)
  | [] => rfl
  | a :: r => by simp [renL, renL_map ρ r]
theorem renLL_map (ρ : Nat → Nat) : ∀ l : List (List AV), renLL ρ l = l.map fun x => x.map (AV.ren ρ)
  | [] => rfl
  | a :: r => by simp [renLL, renLL_map ρ r, renL_map]

theorem Seq.ren_toList (ρ : Nat → Nat) : ∀ s : Seq, (Seq.ren ρ s).toList = s.toList.map fun x => x.map (AV.ren ρ)
  | .raw l => by simp [Seq.ren, Seq.toList, renLL_map]
  | .map enc d xs => by simp [Seq.ren, Seq.toList, renL_map]
  | .app a b => by simp [Seq.ren, Seq.toList, Seq.ren_toList ρ a, Seq.ren_toList ρ b]

def Enc.ren {α : Type} (ρ : Nat → Nat) (E : Enc α) : Enc α := ⟨fun a => AV.ren ρ (E.enc a), fun a K => E.spl a (fun v => K (AV.ren ρ v)), fun a K h => E.ok a _ h⟩
def MM.ren (ρ : Nat → Nat) : MM → MM
  | .nil => .nil
  | .typed E l => .typed (E.ren ρ) l
  | .put m k v => .put (MM.ren ρ m) k (AV.ren ρ v)
theorem MM.ren_toList (ρ : Nat → Nat) : ∀ m : MM, (MM.ren ρ m).toList = m.toList.map fun p => (p.1, AV.ren ρ p.2)
  | .nil => rfl
  | .typed E l => by simp [MM.ren, MM.toList, Enc.ren]
  | .put m k v => by simp only [MM.ren, MM.toList]; rw [MM.ren_toList ρ m, setM_map]

def renS (ρ : Nat → Nat) (s : Slots) : Slots := s.map fun p => (p.1, AV.ren ρ p.2)

theorem get_renS (ρ : Nat → Nat) : ∀ (s : Slots) d, get (renS ρ s) d = AV.ren ρ (get s d)
  | [], d => rfl
  | (i, a) :: s, d => by
    simp only [renS, List.map_cons, get]
    cases Nat.beq i d with
    | true => rfl
    | false => exact get_renS ρ s d

def AObj.ren (ρ : Nat → Nat) : AObj → AObj
  | .gone => .gone
  | .cells cs => .cells (renL ρ cs)
  | .tok => .tok
  | .arr sz s => .arr sz (Seq.ren ρ s)
  | .siter s pos => .siter s pos
  | .mp m => .mp (MM.ren ρ m)
  | .csz id sz c => .csz (ρ id) sz c
  | .lp N s ps asg body st => .lp N (renS ρ s) ps asg body st

section
variable {M : Mem} {w : World} {loc loc2 : Locs} {ρ : Nat → Nat}

/-- from the new names' values to the old ones' -/
theorem VRel.ren_to (hl : ∀ i l, loc2 i = some l → loc (ρ i) = some l) {a v} (h : VRel M w loc2 a v) : VRel M w loc (AV.ren ρ a) v := by
  induction h with
  | bad v => exact .bad v
  | int k n => exact .int k n
  | bool b => exact .bool b
  | str s => exact .str s
  | nilp => exact .nilp
  | ptr id off b h => exact .ptr _ off b (hl _ _ h)
  | iptr cs off b o vals h1 h2 ih =>
    refine .iptr _ off b o vals (fun j hj => h1 j (by simpa [renL_map] using hj)) (fun j hj => ?_)
    simp only [renL_map, List.getElem_map]
    exact ih j (by simpa [renL_map] using hj)
  | slnil sz s tip hs ht =>
    refine .slnil _ _ _ (by rw [Seq.ren_toList, hs]; rfl) (fun id h => ?_)
    cases tip <;> simp only [Tip.ren, Tip.tok.injEq, reduceCtorEq] at h
    subst h; exact hl _ _ (ht _ rfl)
  | slz sz s tip a hs hn ht =>
    refine .slz _ _ _ a (by rw [Seq.ren_toList, hs]; rfl) (fun h => hn (by cases tip <;> simp [Tip.ren] at h ⊢)) (fun id h => ?_)
    cases tip <;> simp only [Tip.ren, Tip.tok.injEq, reduceCtorEq] at h
    subst h; exact hl _ _ (ht _ rfl)
  | sl sz s tip b o cap vals hz h1 h2 hcap hnil hfull htok ih =>
    have hlen : (Seq.ren ρ s).toList.length = s.toList.length := by rw [Seq.ren_toList]; simp
    have hg := VRel.sl (M := M) (w := w) (loc := loc) sz (Seq.ren ρ s) (tip.ren ρ) b o cap vals
      (fun i hi => by simp only [Seq.ren_toList, List.getElem_map, List.length_map]; exact hz i (by rwa [hlen] at hi))
      (fun i j hi hj => h1 i j (by rwa [hlen] at hi) hj)
      (fun i j hi hj => by
        simp only [Seq.ren_toList, List.getElem_map]
        exact ih i j (by rwa [hlen] at hi) (by simpa [Seq.ren_toList] using hj))
      (by rwa [hlen]) (by cases tip <;> simp [Tip.ren] at hnil ⊢) (by rw [hlen]; intro h; exact hfull (by cases tip <;> simp [Tip.ren] at h ⊢))
      (fun id h => by
        cases tip <;> simp only [Tip.ren, Tip.tok.injEq, reduceCtorEq] at h
        subst h
        rw [hlen]
        rcases htok _ rfl with ⟨c1, c2⟩ | ⟨c1, c2⟩
        · exact .inl ⟨hl _ _ c1, c2⟩
        · exact .inr ⟨hl _ _ c1, c2⟩)
    rw [hlen] at hg
    exact hg
  | msl sz id off len b cap h hle hc => exact .msl _ _ _ _ b cap (hl _ _ h) hle hc
  | mptr sz id i off b h => exact .mptr _ _ _ _ b (hl _ _ h)
  | agg cs vs hs h ih => exact .agg _ _ (by simp [renL_map, hs]) (fun i hi => by simp only [renL_map, List.getElem_map]; exact ih i (by simpa [renL_map] using hi))
  | tup cs vs hs h ih => exact .tup _ _ (by simp [renL_map, hs]) (fun i hi => by simp only [renL_map, List.getElem_map]; exact ih i (by simpa [renL_map] using hi))
  | fn f cs vs hs h ih => exact .fn f _ _ (by simp [renL_map, hs]) (fun i hi => by simp only [renL_map, List.getElem_map]; exact ih i (by simpa [renL_map] using hi))
  | nilf => exact .nilf
  | iface t a v h ih => exact .iface t _ v ih
  | nili => exact .nili
  | nmap => exact .nmap
  | map id b h => exact .map _ b (hl _ _ h)
  | meth t n a v h ih => exact .meth t n _ v ih
  | yld id b h => exact .yld _ b (hl _ _ h)
  | csl sz id off len b cap h hle => exact .csl _ _ _ _ b cap (hl _ _ h) hle

/-- and back -/
theorem VRel.ren_from (hl : ∀ i l, loc (ρ i) = some l → loc2 i = some l) {a' v} (h : VRel M w loc a' v) : ∀ a, a' = AV.ren ρ a → VRel M w loc2 a v := by
  induction h with
  | bad v => intro a e; cases a <;> simp only [AV.ren, reduceCtorEq] at e; exact .bad v
  | int k n => intro a e; cases a <;> simp only [AV.ren, AV.int.injEq, reduceCtorEq] at e; obtain ⟨rfl, rfl⟩ := e; exact .int _ _
  | bool b => intro a e; cases a <;> simp only [AV.ren, AV.bool.injEq, reduceCtorEq] at e; subst e; exact .bool _
  | str s => intro a e; cases a <;> simp only [AV.ren, AV.str.injEq, reduceCtorEq] at e; subst e; exact .str _
  | nilp => intro a e; cases a <;> simp only [AV.ren, reduceCtorEq] at e; exact .nilp
  | ptr id off b h =>
    intro a e; cases a <;> simp only [AV.ren, AV.ptr.injEq, reduceCtorEq] at e; obtain ⟨rfl, rfl⟩ := e
    exact .ptr _ _ b (hl _ _ h)
  | iptr cs off b o vals h1 h2 ih =>
    intro a e; cases a <;> simp only [AV.ren, AV.iptr.injEq, reduceCtorEq] at e; obtain ⟨rfl, rfl⟩ := e
    refine .iptr _ _ b o vals (fun j hj => h1 j (by simpa [renL_map] using hj)) (fun j hj => ih j (by simpa [renL_map] using hj) _ (by simp [renL_map]))
  | slnil sz s tip hs ht =>
    intro a e; cases a <;> simp only [AV.ren, AV.sl.injEq, reduceCtorEq] at e; obtain ⟨rfl, rfl, rfl⟩ := e
    refine .slnil _ _ _ (by rw [Seq.ren_toList] at hs; simpa using hs) (fun id h => ?_)
    subst h; exact hl _ _ (ht _ rfl)
  | slz sz s tip ad hs hn ht =>
    intro a e; cases a <;> simp only [AV.ren, AV.sl.injEq, reduceCtorEq] at e; obtain ⟨rfl, rfl, rfl⟩ := e
    refine .slz _ _ _ ad (by rw [Seq.ren_toList] at hs; simpa using hs) (fun h => hn (by rw [h]; rfl)) (fun id h => ?_)
    subst h; exact hl _ _ (ht _ rfl)
  | sl sz s tip b o cap vals hz h1 h2 hcap hnil hfull htok ih =>
    intro a e; cases a <;> simp only [AV.ren, AV.sl.injEq, reduceCtorEq] at e; obtain ⟨rfl, rfl, rfl⟩ := e
    rename_i s tip
    have hlen : (Seq.ren ρ s).toList.length = s.toList.length := by rw [Seq.ren_toList]; simp
    have hg := VRel.sl (M := M) (w := w) (loc := loc2) sz s tip b o cap vals
      (fun i hi => by have := hz i (by rwa [hlen]); simpa [Seq.ren_toList] using this)
      (fun i j hi hj => h1 i j (by rwa [hlen]) hj)
      (fun i j hi hj => ih i j (by rwa [hlen]) (by simpa [Seq.ren_toList] using hj) _ (by simp [Seq.ren_toList]))
      (by rwa [hlen] at hcap) (by cases tip <;> simp [Tip.ren] at hnil ⊢) (by intro h; subst h; have := hfull rfl; rwa [hlen] at this)
      (fun id h => by
        subst h
        have := htok _ rfl
        rw [hlen] at this
        rcases this with ⟨c1, c2⟩ | ⟨c1, c2⟩
        · exact .inl ⟨hl _ _ c1, c2⟩
        · exact .inr ⟨hl _ _ c1, c2⟩)
    rw [hlen]
    exact hg
  | msl sz id off len b cap h hle hc =>
    intro a e; cases a <;> simp only [AV.ren, AV.msl.injEq, reduceCtorEq] at e; obtain ⟨rfl, rfl, rfl, rfl⟩ := e
    exact .msl _ _ _ _ b cap (hl _ _ h) hle hc
  | mptr sz id i off b h =>
    intro a e; cases a <;> simp only [AV.ren, AV.mptr.injEq, reduceCtorEq] at e; obtain ⟨rfl, rfl, rfl, rfl⟩ := e
    exact .mptr _ _ _ _ b (hl _ _ h)
  | agg cs vs hs h ih =>
    intro a e; cases a <;> simp only [AV.ren, AV.agg.injEq, reduceCtorEq] at e; subst e
    exact .agg _ _ (by simpa [renL_map] using hs) (fun i hi => ih i (by simpa [renL_map] using hi) _ (by simp [renL_map]))
  | tup cs vs hs h ih =>
    intro a e; cases a <;> simp only [AV.ren, AV.tup.injEq, reduceCtorEq] at e; subst e
    exact .tup _ _ (by simpa [renL_map] using hs) (fun i hi => ih i (by simpa [renL_map] using hi) _ (by simp [renL_map]))
  | fn f cs vs hs h ih =>
    intro a e; cases a <;> simp only [AV.ren, AV.fn.injEq, reduceCtorEq] at e; obtain ⟨rfl, rfl⟩ := e
    exact .fn _ _ _ (by simpa [renL_map] using hs) (fun i hi => ih i (by simpa [renL_map] using hi) _ (by simp [renL_map]))
  | nilf => intro a e; cases a <;> simp only [AV.ren, reduceCtorEq] at e; exact .nilf
  | iface t a v h ih =>
    intro a e; cases a <;> simp only [AV.ren, AV.iface.injEq, reduceCtorEq] at e; obtain ⟨rfl, rfl⟩ := e
    exact .iface _ _ v (ih _ rfl)
  | nili => intro a e; cases a <;> simp only [AV.ren, reduceCtorEq] at e; exact .nili
  | nmap => intro a e; cases a <;> simp only [AV.ren, reduceCtorEq] at e; exact .nmap
  | map id b h =>
    intro a e; cases a <;> simp only [AV.ren, AV.map.injEq, reduceCtorEq] at e; subst e
    exact .map _ b (hl _ _ h)
  | meth t n a v h ih =>
    intro a e; cases a <;> simp only [AV.ren, AV.meth.injEq, reduceCtorEq] at e; obtain ⟨rfl, rfl, rfl⟩ := e
    exact .meth _ _ _ v (ih _ rfl)
  | yld id b h =>
    intro a e; cases a <;> simp only [AV.ren, AV.yld.injEq, reduceCtorEq] at e; subst e
    exact .yld _ b (hl _ _ h)
  | csl sz id off len b cap h hle =>
    intro a e; cases a <;> simp only [AV.ren, AV.csl.injEq, reduceCtorEq] at e; obtain ⟨rfl, rfl, rfl, rfl⟩ := e
    exact .csl _ _ _ _ b cap (hl _ _ h) hle

theorem ORel.ren_to (hl : ∀ i l, loc2 i = some l → loc (ρ i) = some l) {l o} (h : ORel M w loc2 l o) : ORel M w loc l (AObj.ren ρ o) := by
  cases o with
  | gone => trivial
  | cells cs =>
    obtain ⟨b, vs, T, fr, e, h1, h2, h3, h4, h5, h6⟩ := h
    refine ⟨b, vs, T, fr, e, h1, h2, h3, h4, by simp [renL_map, h5], fun i hi => ?_⟩
    simp only [renL_map, List.getElem_map]
    exact (h6 i (by simpa [renL_map] using hi)).ren_to hl
  | tok => exact h
  | arr sz s =>
    obtain ⟨b, vs, T, fr, e, h1, h2, h3, h4, h5, h6, h7⟩ := h
    have hlen : (Seq.ren ρ s).toList.length = s.toList.length := by rw [Seq.ren_toList]; simp
    refine ⟨b, vs, T, fr, e, h1, h2, h3, h4, by rw [hlen]; exact h5, fun i hi => ?_, fun i j hi hj => ?_⟩
    · simp only [Seq.ren_toList, List.getElem_map, List.length_map]; exact h6 i (by rwa [hlen] at hi)
    · obtain ⟨v, hv, hr⟩ := h7 i j (by rwa [hlen] at hi) (by simpa [Seq.ren_toList] using hj)
      refine ⟨v, hv, ?_⟩
      simp only [Seq.ren_toList, List.getElem_map]
      exact hr.ren_to hl
  | siter s pos => exact h
  | mp es =>
    obtain ⟨b, ents, clock, e, h1, h2, h3, h4, h5⟩ := h
    refine ⟨b, ents, clock, e, h1, h2, h3, by simp [h4, MM.ren_toList], fun i hi => ?_⟩
    obtain ⟨k1, k2⟩ := h5 i (by simpa [MM.ren_toList] using hi)
    simp only [MM.ren_toList, List.getElem_map]
    exact ⟨k1, k2.ren_to hl⟩
  | csz id sz c =>
    obtain ⟨e, b, vs, T, fr, h1, h2, h3⟩ := h
    exact ⟨e, b, vs, T, fr, hl _ _ h1, h2, h3⟩
  | lp N s ps asg body st =>
    obtain ⟨b, rec, e, h1, h2, h3, h4, h5, h6, h7, h8, h9⟩ := h
    exact ⟨b, rec, e, h1, h2, h3, h4, h5, h6, h7, fun d => by rw [get_renS]; exact (h8 d).ren_to hl, h9⟩

theorem ORel.ren_from (hl : ∀ i l, loc (ρ i) = some l → loc2 i = some l) {l o} (h : ORel M w loc l (AObj.ren ρ o)) : ORel M w loc2 l o := by
  cases o with
  | gone => trivial
  | cells cs =>
    obtain ⟨b, vs, T, fr, e, h1, h2, h3, h4, h5, h6⟩ := h
    exact ⟨b, vs, T, fr, e, h1, h2, h3, h4, by simpa [renL_map] using h5, fun i hi => (h6 i (by simpa [renL_map] using hi)).ren_from hl _ (by simp [renL_map])⟩
  | tok => exact h
  | arr sz s =>
    obtain ⟨b, vs, T, fr, e, h1, h2, h3, h4, h5, h6, h7⟩ := h
    have hlen : (Seq.ren ρ s).toList.length = s.toList.length := by rw [Seq.ren_toList]; simp
    refine ⟨b, vs, T, fr, e, h1, h2, h3, h4, by rw [hlen] at h5; exact h5, fun i hi => ?_, fun i j hi hj => ?_⟩
    · have := h6 i (by rwa [hlen]); simpa [Seq.ren_toList] using this
    · obtain ⟨v, hv, hr⟩ := h7 i j (by rwa [hlen]) (by simpa [Seq.ren_toList] using hj)
      exact ⟨v, hv, hr.ren_from hl _ (by simp [Seq.ren_toList])⟩
  | siter s pos => exact h
  | mp es =>
    obtain ⟨b, ents, clock, e, h1, h2, h3, h4, h5⟩ := h
    refine ⟨b, ents, clock, e, h1, h2, h3, by simpa [MM.ren_toList] using h4, fun i hi => ?_⟩
    obtain ⟨k1, k2⟩ := h5 i (by simpa [MM.ren_toList] using hi)
    simp only [MM.ren_toList, List.getElem_map] at k1 k2
    exact ⟨k1, k2.ren_from hl _ rfl⟩
  | csz id sz c =>
    obtain ⟨e, b, vs, T, fr, h1, h2, h3⟩ := h
    exact ⟨e, b, vs, T, fr, hl _ _ h1, h2, h3⟩
  | lp N s ps asg body st =>
    obtain ⟨b, rec, e, h1, h2, h3, h4, h5, h6, h7, h8, h9⟩ := h
    exact ⟨b, rec, e, h1, h2, h3, h4, h5, h6, h7, fun d => (h8 d).ren_from hl _ (by rw [get_renS]), h9⟩

end
end Go.Ab
end

section
/- A choice among the heap's objects; states that stand for others; calls in a larger heap; a function's end. -/

set_option linter.unusedVariables false
set_option linter.unusedSimpArgs false
namespace Go.Ab

def selR (l : List Nat) (m : Nat) : Nat → Nat := fun i => l.getD i m

def isGone : AObj → Bool
  | .gone => true
  | _ => false

/-- H2 is a choice of H's objects, by the list l of their old names -/
def Sel (n : Nat) (l : List Nat) (H H2 : List AObj) : Prop :=
  l.Nodup ∧ l.length = H2.length ∧ n ≤ l.length ∧ (∀ i, i < n → l[i]? = some i) ∧ ∀ i (h : i < H2.length), (H[l.getD i H.length]? = some (AObj.ren (selR l H.length) H2[i])) ∨ (isGone H2[i] = true ∧ l.getD i H.length < H.length)

section
variable {P : Program} {M : Mem} {w : World} {loc : Locs} {H H2 : List AObj} {n : Nat}

theorem gone_ren {ρ : Nat → Nat} {o : AObj} (h : AObj.ren ρ o = .gone) : o = .gone := by
  cases o <;> simp [AObj.ren] at h ⊢

theorem Rel.select {l : List Nat} (hr : Rel M loc H w) (hs : Sel n l H H2) :
    Rel M (fun i => loc (selR l H.length i)) H2 w ∧ StepN n M loc H w M (fun i => loc (selR l H.length i)) H2 w := by
  obtain ⟨hnd, hlen, hn, hid, hobj⟩ := hs
  have hget : ∀ (i : Nat) (o : AObj), H2[i]? = some o → (o = .gone → False) → i < H2.length ∧ H[selR l H.length i]? = some (AObj.ren (selR l H.length) o) := by
    intro i o hi hg
    obtain ⟨hlt, rfl⟩ := List.getElem?_eq_some_iff.1 hi
    rcases hobj i hlt with h | ⟨h, _⟩
    · exact ⟨hlt, h⟩
    · exfalso; apply hg; revert h; cases H2[i] <;> simp [isGone]
  have hinj : ∀ i j, i < H2.length → j < H2.length → selR l H.length i = selR l H.length j → i = j := by
    intro i j hi hj e
    have hi' : i < l.length := by omega
    have hj' : j < l.length := by omega
    simp only [selR, getD_lt _ _ _ hi', getD_lt _ _ _ hj'] at e
    rcases Nat.lt_trichotomy i j with q | q | q
    · exact (List.pairwise_iff_getElem.1 hnd i j hi' hj' q e).elim
    · exact q
    · exact (List.pairwise_iff_getElem.1 hnd j i hj' hi' q e.symm).elim
  have hlg : ∀ i l', loc (selR l H.length i) = some l' → (fun i => loc (selR l H.length i)) i = some l' := fun i l' h => h
  have hgone : ∀ o : AObj, (o = .gone → False) → (AObj.ren (selR l H.length) o = .gone → False) := fun o h e => h (gone_ren e)
  refine ⟨⟨hr.base, hr.ext, ?_, ?_, ?_⟩, ⟨rfl, Nat.le_refl _, rfl, rfl, rfl, fun _ _ _ => ⟨rfl, rfl⟩, fun _ _ _ h => h, fun _ cs _ fr h => ⟨cs, fr, h, rfl⟩, ?_, ?_, by omega⟩⟩
  · intro i hi
    refine hr.dom _ ?_
    simp [selR, List.getD, List.getElem?_eq_none (show l.length ≤ i by omega)]
  · intro i o hi
    by_cases hg : o = .gone
    · subst hg; trivial
    · obtain ⟨_, h⟩ := hget i o hi hg
      exact (hr.objs _ _ h).ren_from hlg
  · intro i j oi oj li lj b hi hj gi gj hli hlj bi bj
    obtain ⟨h1, h2⟩ := hget i oi hi gi
    obtain ⟨h3, h4⟩ := hget j oj hj gj
    exact hinj i j h1 h3 (hr.inj _ _ _ _ li lj b h2 h4 (hgone _ gi) (hgone _ gj) hli hlj bi bj)
  · intro b _ ⟨i, o, l', hi, hg, hl, hb⟩
    obtain ⟨_, h⟩ := hget i o hi hg
    exact ⟨_, _, l', h, hgone _ hg, hl, hb⟩
  · intro i hi
    have := hid i hi
    simp only [selR, List.getD, this, Option.getD_some]

/-- a state stands for another -/
def ReSt (n : Nat) (s : Slots) (H : List AObj) (s2 : Slots) (H2 : List AObj) : Prop :=
  ∀ M loc w (tmps : Array Value), n ≤ H.length → Rel M loc H w → SRel M w loc s tmps → ∃ M2 loc2, Rel M2 loc2 H2 w ∧ SRel M2 w loc2 s2 tmps ∧ StepN n M loc H w M2 loc2 H2 w

theorem ReSt.trans {s H s1 H1 s2 H2} (h : ReSt n s H s1 H1) (k : ReSt n s1 H1 s2 H2) : ReSt n s H s2 H2 := by
  intro M loc w tmps h0 h1 h2
  obtain ⟨M1, l1, a1, a2, a3⟩ := h M loc w tmps h0 h1 h2
  obtain ⟨M2, l2, b1, b2, b3⟩ := k M1 l1 w tmps a3.len a1 a2
  exact ⟨M2, l2, b1, b2, a3.trans b3 (Nat.le_refl _)⟩

theorem AWP.re {ro : Option Nat} {N : Nat} {c : Code} {s s2 : Slots} {Q : AQ} (h : ReSt n s H s2 H2) (k : AWPr ro P N n c s2 H2 Q) : AWPr ro P N n c s H Q := by
  intro M loc w a h0 h1 h2 h3 dm h4 ht
  obtain ⟨M2, l2, b1, b2, b3⟩ := h M loc w a.tmps h0 h1 h2
  exact wpIn_mono (k M2 l2 w a b3.len b1 b2 h3 dm (h4.step b3) (ht.step h1 b3)) fun e a w => QC.step b3 (Nat.le_refl _)

/-- a value stands for another -/
def Le (a b : AV) : Prop := ∀ M w loc v, VRel M w loc a v → VRel M w loc b v

theorem Le.refl (a : AV) : Le a a := fun _ _ _ _ h => h
theorem Le.bad (a : AV) : Le a .bad := fun _ _ _ v _ => .bad v
theorem Le.trans {a b c : AV} (h : Le a b) (k : Le b c) : Le a c := fun M w loc v x => k M w loc v (h M w loc v x)

/-- the same rows, spelled otherwise; a tip that is forgotten -/
theorem Le.sl {sz sz' : Nat} {s s' : Seq} {tip tip' : Tip} (hs : s'.toList = s.toList) (hz : sz' = sz ∨ (s.toList = [] ∧ ∀ id, tip' ≠ .tok id)) (ht : tip' = tip ∨ tip' = .none) : Le (.sl sz s tip) (.sl sz' s' tip') := by
  intro M w loc v h
  cases h with
  | slnil _ _ _ h1 h2 =>
    refine .slnil _ _ _ (by rw [hs]; exact h1) (fun id e => ?_)
    rcases ht with rfl | rfl
    · exact h2 id e
    · cases e
  | slz _ _ _ ad h1 hn h2 =>
    refine .slz _ _ _ ad (by rw [hs]; exact h1) ?_ (fun id e => ?_)
    · rcases ht with rfl | rfl
      · exact hn
      · intro e; cases e
    · rcases ht with rfl | rfl
      · exact h2 id e
      · cases e
  | sl _ _ _ b o cap vals hz' h1 h2 hcap hnil hfull htok =>
    have hsz : ∀ (i : Nat) (h : i < s.toList.length), sz' = sz := by
      intro i h
      rcases hz with e | e
      · exact e
      · rw [e.1] at h; simp at h
    rw [← hs]
    refine .sl sz' s' tip' b o cap vals (fun i hi => ?_) (fun i j hi hj => ?_) (fun i j hi hj => ?_) (by rw [hs]; exact hcap) ?_ ?_ ?_
    · have hi' : i < s.toList.length := by rwa [hs] at hi
      rw [hsz i hi']
      have := hz' i hi'
      simpa [hs] using this
    · have hi' : i < s.toList.length := by rwa [hs] at hi
      rw [hsz i hi'] at hj ⊢
      exact h1 i j hi' hj
    · have hi' : i < s.toList.length := by rwa [hs] at hi
      have := h2 i j hi' (by simpa [hs] using hj)
      simpa [hs] using this
    · rcases ht with rfl | rfl
      · exact hnil
      · intro h; cases h
    · rcases ht with rfl | rfl
      · rw [hs]; exact hfull
      · intro h; cases h
    · intro id e
      rcases ht with rfl | rfl
      · rw [hs]
        rcases htok id e with c | ⟨c1, cs, T, fr, c2, c3⟩
        · exact .inl c
        · rcases hz with ez | ez
          · subst ez; exact .inr ⟨c1, cs, T, fr, c2, c3⟩
          · exact (ez.2 id e).elim
      · cases e

theorem ReSt.le {s s2 : Slots} (h : ∀ d, Le (get s d) (get s2 d)) (hn : n ≤ H.length) : ReSt n s H s2 H :=
  fun M loc w tmps h0 h1 h2 => ⟨M, loc, h1, fun d => h d M w loc _ (h2 d), (Step.refl M loc H w).mono hn⟩

theorem ReSt.sel {l : List Nat} {s s2 : Slots} (hs : Sel n l H H2) (h : ∀ d, get s d = AV.ren (selR l H.length) (get s2 d) ∨ get s2 d = .bad) : ReSt n s H s2 H2 := by
  intro M loc w tmps h0 h1 h2
  obtain ⟨r1, r2⟩ := h1.select hs
  refine ⟨_, _, r1, fun d => ?_, r2⟩
  rcases h d with e | e
  · have := h2 d
    rw [e] at this
    exact this.ren_from (fun i l' h => h) _ rfl
  · rw [e]; exact .bad _

/-- what is nil or full gets a token -/
theorem ReSt.tok {s s2 : Slots} {k sz sz' : Nat} {q q' : Seq} {tip : Tip} (hk : get s k = .sl sz q tip) (ht : tip = .nil ∨ tip = .full) (hq : q'.toList = q.toList) (hz : sz' = sz ∨ q.toList = [])
    (h2 : ∀ d, d ≠ k → get s2 d = get s d) (h2k : get s2 k = .sl sz' q' (.tok H.length)) : ReSt n s H s2 (H ++ [.tok]) := by
  intro M loc w tmps h0 h1 h3
  obtain ⟨r1, r2⟩ := h1.xtok
  have hkeep := r2.keeps h1
  refine ⟨_, _, r1, fun d => ?_, r2.mono h0⟩
  by_cases e : d = k
  · subst e
    have hv := h3 d
    rw [hk] at hv
    rw [h2k]
    generalize tmps.getD d undef = v at hv
    cases hv with
    | slnil _ _ _ c1 c2 => exact .slnil _ _ _ (by rw [hq]; exact c1) (fun id e => by cases e; simp [locSet])
    | slz _ _ _ ad c1 _ c2 => exact .slz _ _ _ ad (by rw [hq]; exact c1) (fun e => by cases e) (fun id e => by cases e; simp [locSet])
    | sl _ _ _ b o cap vals hz' d1 d2 hcap hnil hfull htok =>
      have hf : tip = .full := by
        rcases ht with rfl | rfl
        · exact (hnil rfl).elim
        · rfl
      have hsz : ∀ (i : Nat) (h : i < q.toList.length), sz' = sz := by
        intro i h
        rcases hz with e | e
        · exact e
        · rw [e] at h; simp at h
      rw [← hq]
      refine .sl sz' q' _ b o cap vals (fun i hi => ?_) (fun i j hi hj => ?_) (fun i j hi hj => ?_) (by rw [hq]; exact hcap) (by intro h; cases h) (by intro h; cases h) ?_
      · have hi' : i < q.toList.length := by rwa [hq] at hi
        rw [hsz i hi']
        have := hz' i hi'
        simpa [hq] using this
      · have hi' : i < q.toList.length := by rwa [hq] at hi
        rw [hsz i hi'] at hj ⊢
        exact hkeep.imm _ _ _ (d1 i j hi' hj)
      · have hi' : i < q.toList.length := by rwa [hq] at hi
        have := (d2 i j hi' (by simpa [hq] using hj)).keeps hkeep
        simpa [hq] using this
      · intro id e
        cases e
        rw [hq]
        exact .inl ⟨by simp [locSet], hfull hf⟩
  · rw [h2 d e]
    exact (h3 d).keeps hkeep

/-- a row that is written no more becomes data -/
theorem ReSt.freeze {s s2 : Slots} {id sz : Nat} {q : Seq} (ho : H[id]? = some (.arr sz q)) (hn : n ≤ H.length)
    (h2 : ∀ d, get s2 d = get s d ∨ get s2 d = .bad ∨ ∃ off len q', get s d = .msl sz id off len ∧ off + len ≤ q.toList.length ∧ get s2 d = .sl sz q' .none ∧ q'.toList = (q.toList.take (off + len)).drop off) :
    ReSt n s H s2 (H.set id .gone) := by
  intro M loc w tmps h0 h1 h3
  obtain ⟨b, vs, T, fr, hl, c1, c2, c3, c4, c5, c6, c7⟩ := h1.objs id _ ho
  have hng : (AObj.arr sz q = AObj.gone → False) := by intro h; cases h
  obtain ⟨r1, r2⟩ := h1.drop id
  have hnb : ∀ i o x, (H.set id AObj.gone)[i]? = some o → (o = .gone → False) → loc i = some x → x.block? ≠ some b := by
    intro i o x hi hg hx hb
    have hi' : i ≠ id ∧ H[i]? = some o := by
      rw [List.getElem?_set] at hi
      split at hi
      · split at hi
        · cases hi; exact (hg rfl).elim
        · cases hi
      · rename_i e; exact ⟨fun x => e x.symm, hi⟩
    exact hi'.1 (h1.inj i id o _ x _ b hi'.2 ho hg hng hx hl hb rfl)
  have hk : Keeps M w loc (M.grow b (q.toList.length * sz)) w loc := by
    refine ⟨fun c k v hi => ⟨hi.1, ?_⟩, fun _ cs _ fr h => ⟨cs, fr, h, rfl⟩, fun _ _ h => h⟩
    by_cases e : c = b
    · subst e; rcases hi.2 with z | z <;> omega
    · simp only [Mem.grow]; rw [if_neg e]; exact hi.2
  refine ⟨M.grow b (q.toList.length * sz), loc, ⟨r1.base, ?_, r1.dom, ?_, r1.inj⟩, fun d => ?_, ⟨rfl, Nat.le_refl _, rfl, rfl, rfl, ?_, hk.imm, hk.shape, r2.own, fun _ _ => rfl, by simpa using h0⟩⟩
  · intro c hc
    simp only [Mem.grow] at hc ⊢
    by_cases e : c = b
    · subst e; rw [if_pos rfl]; exact ⟨c1, vs, T, fr, c3, c5⟩
    · rw [if_neg e] at hc ⊢; exact r1.ext c hc
  · intro i o hi
    by_cases hg : o = .gone
    · subst hg; trivial
    · refine (r1.objs i o hi).keeps_far hk rfl (fun c hc => ⟨rfl, ?_⟩)
      simp only [Mem.grow]
      rw [if_neg]
      rintro rfl
      cases hx : loc i with
      | none => rw [hx] at hc; cases hc
      | some x => rw [hx] at hc; exact hnb i o x hi hg hx hc
  · rcases h2 d with e | e | ⟨off, len, q', e1, e2, e3, e4⟩
    · rw [e]; exact (h3 d).keeps hk
    · rw [e]; exact .bad _
    · have hv := h3 d
      rw [e1] at hv
      rw [e3]
      generalize tmps.getD d undef = v at hv
      cases hv with
      | msl _ _ _ _ b' cap hb' hle hc =>
      rw [hl] at hb'
      cases hb'
      have hlen : q'.toList.length = len := by rw [e4]; simp; omega
      have hget : ∀ i (hi : i < q'.toList.length), ∃ hi' : off + i < q.toList.length, q'.toList[i] = q.toList[off + i] := by
        intro i hi
        have hi2 : off + i < q.toList.length := by omega
        refine ⟨hi2, ?_⟩
        have e5 : q'.toList[i]? = some q.toList[off + i] := by
          rw [e4, List.getElem?_drop, List.getElem?_take, if_pos (by omega), List.getElem?_eq_getElem hi2]
        rw [List.getElem?_eq_getElem hi] at e5
        exact Option.some.inj e5
      have hmul : ∀ i, i < q.toList.length → i * sz + sz ≤ q.toList.length * sz := by
        intro i hi
        have := Nat.mul_le_mul_right sz (show i + 1 ≤ q.toList.length from hi)
        rwa [Nat.succ_mul] at this
      have hg := VRel.sl (M := M.grow b (q.toList.length * sz)) (w := w) (loc := loc) sz q' .none b (off * sz) cap (fun i j => vs.getD ((off + i) * sz + j) undef)
        (fun i hi => by obtain ⟨hi', e⟩ := hget i hi; rw [e]; exact c6 _ hi')
        (fun i j hi hj => by
          obtain ⟨hi', e⟩ := hget i hi
          have := hmul _ hi'
          refine ⟨?_, .inr ?_⟩
          · rw [← Nat.add_mul, cell_eq c3, Array.getElem?_eq_getElem (by omega)]
            simp [Array.getD, show (off + i) * sz + j < vs.size by omega]
          · simp only [Mem.grow, if_true]; rw [← Nat.add_mul]; omega)
        (fun i j hi hj => by
          obtain ⟨hi', e⟩ := hget i hi
          obtain ⟨v, hv1, hv2⟩ := c7 (off + i) j hi' (by rw [← e]; exact hj)
          simp only [e]
          rw [Array.getD_eq_getD_getElem?, hv1]
          exact hv2.keeps hk)
        (by rw [hlen]; exact hle) (by intro h; cases h) (fun h => by cases h) (fun id h => by cases h)
      rw [hlen] at hg
      exact hg
  · intro c hc hno
    refine ⟨rfl, ?_⟩
    simp only [Mem.grow]
    rw [if_neg]
    rintro rfl
    exact hno ⟨id, _, _, ho, hng, hl, rfl⟩

/-! ### calls and ends -/

/-- the heap behind a call that saw a part of it -/
def graft (ρ : Nat → Nat) (l : List Nat) (H Hl : List AObj) : List AObj :=
  (l.zip Hl).foldl (fun h p => h.set p.1 (AObj.ren ρ p.2)) H ++ (Hl.drop l.length).map (AObj.ren ρ)

def callR (l : List Nat) (m : Nat) : Nat → Nat := fun i => if i < l.length then l.getD i 0 else m + (i - l.length)

theorem ASpec.sel {f : FuncId} {args : List AV} {Post : AV → List AObj → Prop}
    (h : ASpec P f args H (fun r H' => ∃ l H2 r2, Sel H.length l H' H2 ∧ Le r (AV.ren (selR l H'.length) r2) ∧ Post r2 H2)) : ASpec P f args H Post := by
  intro M loc w vs ht hr hv
  refine (h M loc w vs ht hr hv).mono fun e w' hh => ?_
  obtain ⟨v, r, H', M', loc', he, ⟨l, H2, r2, hs, hle, hP⟩, r1, r2', r3⟩ := hh
  obtain ⟨k1, k2⟩ := r1.select hs
  exact ⟨v, _, _, _, _, he, hP, k1, (hle _ _ _ _ r2').ren_from (fun i l' h => h) _ rfl, StepN.trans r3 k2 (Nat.le_refl _)⟩

end
end Go.Ab
end

section
/- A call's specification, told of the objects that the function sees, holds in a larger heap. -/

set_option linter.unusedVariables false
set_option linter.unusedSimpArgs false
namespace Go.Ab
section
variable {P : Program} {M : Mem} {w : World} {loc : Locs} {H : List AObj} {n : Nat}

def grafted (ρ : Nat → Nat) : List Nat → List AObj → List AObj → List AObj
  | [], _, H => H
  | _ :: _, [], H => H
  | k :: l, o :: Hl, H => grafted ρ l Hl (H.set k (AObj.ren ρ o))

theorem grafted_length (ρ : Nat → Nat) : ∀ (l : List Nat) (Hl H : List AObj), (grafted ρ l Hl H).length = H.length
  | [], _, H => rfl
  | _ :: _, [], H => rfl
  | k :: l, o :: Hl, H => by simp [grafted, grafted_length ρ l Hl]

theorem grafted_other (ρ : Nat → Nat) : ∀ (l : List Nat) (Hl H : List AObj) (j : Nat), j ∉ l → (grafted ρ l Hl H)[j]? = H[j]?
  | [], _, H, j, _ => rfl
  | _ :: _, [], H, j, _ => rfl
  | k :: l, o :: Hl, H, j, h => by
    simp only [List.mem_cons, not_or] at h
    rw [grafted, grafted_other ρ l Hl _ j h.2, List.getElem?_set_ne (fun e => h.1 e.symm)]

theorem grafted_get (ρ : Nat → Nat) : ∀ (l : List Nat) (Hl H : List AObj), l.Nodup → (∀ k ∈ l, k < H.length) → ∀ i (h : i < l.length) (h' : i < Hl.length), (grafted ρ l Hl H)[l[i]]? = some (AObj.ren ρ Hl[i])
  | [], _, H, _, _, i, h, _ => by simp at h
  | _ :: _, [], H, _, _, i, _, h' => by simp at h'
  | k :: l, o :: Hl, H, hnd, hlt, 0, h, h' => by
    rw [List.nodup_cons] at hnd
    simp only [List.getElem_cons_zero, grafted]
    rw [grafted_other ρ l Hl _ k hnd.1, List.getElem?_set_self (hlt k (by simp))]
  | k :: l, o :: Hl, H, hnd, hlt, i + 1, h, h' => by
    rw [List.nodup_cons] at hnd
    simp only [List.getElem_cons_succ, grafted]
    exact grafted_get ρ l Hl _ hnd.2 (fun q hq => by simpa using hlt q (by simp [hq])) i (by simpa using h) (by simpa using h')

/-- the heap behind the call -/
def graftH (ρ : Nat → Nat) (l : List Nat) (H Hl : List AObj) : List AObj := grafted ρ l Hl H ++ (Hl.drop l.length).map (AObj.ren ρ)

theorem Rel.part {l : List Nat} {Hl : List AObj} (hr : Rel M loc H w) (hnd : l.Nodup) (hlen : l.length = Hl.length)
    (hobj : ∀ i (h : i < Hl.length), H[l.getD i 0]? = some (AObj.ren (callR l H.length) Hl[i])) : Rel M (fun i => loc (callR l H.length i)) Hl w := by
  have hρ : ∀ i, i < l.length → callR l H.length i = l.getD i 0 := fun i hi => by simp only [callR]; rw [if_pos hi]
  have hget : ∀ (i : Nat) (o : AObj), Hl[i]? = some o → i < l.length ∧ H[callR l H.length i]? = some (AObj.ren (callR l H.length) o) := by
    intro i o hi
    obtain ⟨hlt, rfl⟩ := List.getElem?_eq_some_iff.1 hi
    exact ⟨by omega, by rw [hρ i (by omega)]; exact hobj i hlt⟩
  have hinj : ∀ i j, i < l.length → j < l.length → callR l H.length i = callR l H.length j → i = j := by
    intro i j hi hj e
    rw [hρ i hi, hρ j hj, getD_lt _ _ _ hi, getD_lt _ _ _ hj] at e
    rcases Nat.lt_trichotomy i j with q | q | q
    · exact (List.pairwise_iff_getElem.1 hnd i j hi hj q e).elim
    · exact q
    · exact (List.pairwise_iff_getElem.1 hnd j i hj hi q e.symm).elim
  have hgone : ∀ o : AObj, (o = .gone → False) → (AObj.ren (callR l H.length) o = .gone → False) := fun o h e => h (gone_ren e)
  refine ⟨hr.base, hr.ext, ?_, ?_, ?_⟩
  · intro i hi
    refine hr.dom _ ?_
    simp only [callR]; rw [if_neg (by omega)]; omega
  · intro i o hi
    by_cases hg : o = .gone
    · subst hg; trivial
    · obtain ⟨_, h⟩ := hget i o hi
      exact (hr.objs _ _ h).ren_from (fun i l' h => h)
  · intro i j oi oj li lj b hi hj gi gj hli hlj bi bj
    obtain ⟨h1, h2⟩ := hget i oi hi
    obtain ⟨h3, h4⟩ := hget j oj hj
    exact hinj i j h1 h3 (hr.inj _ _ _ _ li lj b h2 h4 (hgone _ gi) (hgone _ gj) hli hlj bi bj)

theorem ASpec.graft {f : FuncId} {args argsl : List AV} {Hl : List AObj} {Postl : AV → List AObj → Prop} (l : List Nat) (h : ASpec P f argsl Hl Postl) (hnd : l.Nodup) (hlen : l.length = Hl.length)
    (hargs : args = argsl.map (AV.ren (callR l H.length))) (hobj : ∀ i (h : i < Hl.length), H[l.getD i 0]? = some (AObj.ren (callR l H.length) Hl[i])) :
    ASpec P f args H (fun r H' => ∃ rl Hl', Postl rl Hl' ∧ l.length ≤ Hl'.length ∧ r = AV.ren (callR l H.length) rl ∧ H' = graftH (callR l H.length) l H Hl') := by
  intro M loc w vs ht hr hv
  have hrl := hr.part hnd hlen hobj
  have hlt : ∀ k ∈ l, k < H.length := by
    intro k hk
    obtain ⟨i, hi, rfl⟩ := List.getElem_of_mem hk
    have := hobj i (by omega)
    rw [getD_lt _ _ _ hi] at this
    exact (List.getElem?_eq_some_iff.1 this).1
  have hρ : ∀ i, i < l.length → callR l H.length i = l.getD i 0 := fun i hi => by simp only [callR]; rw [if_pos hi]
  have hargs' : VRels M w (fun i => loc (callR l H.length i)) argsl vs := by
    subst hargs
    obtain ⟨h1, h2⟩ := hv
    refine ⟨by simpa using h1, fun i hi => ?_⟩
    have := h2 i (by simpa using hi)
    exact this.ren_from (fun i l' h => h) _ (by simp)
  refine (h M _ w vs ht hrl hargs').mono fun e w' hh => ?_
  obtain ⟨v, rl, Hl', M', locl', he, hP, r1, r2, r3⟩ := hh
  have hle : l.length ≤ Hl'.length := by rw [hlen]; exact r3.len
  let loc' : Locs := fun j => if j < H.length then loc j else locl' (l.length + (j - H.length))
  have hl' : ∀ i x, locl' i = some x → loc' (callR l H.length i) = some x := by
    intro i x hx
    by_cases hi : i < l.length
    · rw [hρ i hi]
      have h1 : l.getD i 0 < H.length := by rw [getD_lt _ _ _ hi]; exact hlt _ (List.getElem_mem hi)
      show (if l.getD i 0 < H.length then _ else _) = _
      rw [if_pos h1]
      have h2 := r3.locs i (by omega)
      rw [hx] at h2
      simp only [hρ i hi] at h2
      exact h2.symm
    · simp only [callR]; rw [if_neg hi]
      show (if H.length + (i - l.length) < H.length then _ else _) = _
      rw [if_neg (by omega), show l.length + (H.length + (i - l.length) - H.length) = i by omega]
      exact hx
  have hlow : ∀ j, j < H.length → loc' j = loc j := fun j hj => by show (if j < H.length then _ else _) = _; rw [if_pos hj]
  have hHlen : (graftH (callR l H.length) l H Hl').length = H.length + (Hl'.length - l.length) := by simp [graftH, grafted_length]
  -- where an object of the new heap comes from
  have hcase : ∀ (j : Nat) (o : AObj), (graftH (callR l H.length) l H Hl')[j]? = some o →
      (j < H.length ∧ j ∉ l ∧ H[j]? = some o) ∨ (∃ i o', Hl'[i]? = some o' ∧ o = AObj.ren (callR l H.length) o' ∧ j = callR l H.length i) := by
    intro j o hj
    by_cases hjl : j < H.length
    · rw [graftH, List.getElem?_append_left (by rw [grafted_length]; exact hjl)] at hj
      by_cases hm : j ∈ l
      · right
        obtain ⟨i, hi, rfl⟩ := List.getElem_of_mem hm
        rw [grafted_get _ _ _ _ hnd hlt i hi (by omega)] at hj
        cases hj
        refine ⟨i, _, List.getElem?_eq_getElem (by omega), rfl, ?_⟩
        rw [hρ i hi, getD_lt _ _ _ hi]
      · left
        rw [grafted_other _ _ _ _ _ hm] at hj
        exact ⟨hjl, hm, hj⟩
    · right
      rw [graftH, List.getElem?_append_right (by rw [grafted_length]; omega), grafted_length, List.getElem?_map, List.getElem?_drop] at hj
      cases ho : Hl'[l.length + (j - H.length)]? with
      | none => rw [ho] at hj; cases hj
      | some o' =>
        rw [ho] at hj; cases hj
        refine ⟨_, o', ho, rfl, ?_⟩
        simp only [callR]; rw [if_neg (by omega)]; omega
  have hkeep : Keeps M w loc M' w' loc' := ⟨r3.imm, r3.shape, fun i x hx => by rw [hlow i (hr.lt hx)]; exact hx⟩
  -- the blocks that the function saw
  have hownl : ∀ b, Owned (fun i => loc (callR l H.length i)) Hl b → ∃ i, i < l.length ∧ ∃ o x, H[l.getD i 0]? = some o ∧ (o = .gone → False) ∧ loc (l.getD i 0) = some x ∧ x.block? = some b := by
    rintro b ⟨i, o, x, hi, hg, hx, hb⟩
    obtain ⟨hil, rfl⟩ := List.getElem?_eq_some_iff.1 hi
    have hi' : i < l.length := by omega
    refine ⟨i, hi', _, x, hobj i hil, fun e => hg (gone_ren e), ?_, hb⟩
    simp only [hρ i hi'] at hx
    exact hx
  have hunseen : ∀ j o x b, H[j]? = some o → (o = .gone → False) → loc j = some x → x.block? = some b → j ∉ l → ¬ Owned (fun i => loc (callR l H.length i)) Hl b := by
    intro j o x b ho hg hx hb hm hown
    obtain ⟨i, hi, o2, x2, ho2, hg2, hx2, hb2⟩ := hownl b hown
    have := hr.inj _ _ _ _ _ _ b ho ho2 hg hg2 hx hx2 hb hb2
    rw [getD_lt _ _ _ hi] at this
    exact hm (this ▸ List.getElem_mem hi)
  have hρinj : ∀ i j, i < Hl'.length → j < Hl'.length → callR l H.length i = callR l H.length j → i = j := by
    intro i j hi hj e
    by_cases h1 : i < l.length <;> by_cases h2 : j < l.length
    · rw [hρ i h1, hρ j h2, getD_lt _ _ _ h1, getD_lt _ _ _ h2] at e
      rcases Nat.lt_trichotomy i j with q | q | q
      · exact (List.pairwise_iff_getElem.1 hnd i j h1 h2 q e).elim
      · exact q
      · exact (List.pairwise_iff_getElem.1 hnd j i h2 h1 q e.symm).elim
    · rw [hρ i h1, getD_lt _ _ _ h1] at e
      have := hlt _ (List.getElem_mem h1)
      simp only [callR] at e; rw [if_neg h2] at e; omega
    · rw [hρ j h2, getD_lt _ _ _ h2] at e
      have := hlt _ (List.getElem_mem h2)
      simp only [callR] at e; rw [if_neg h1] at e; omega
    · simp only [callR] at e; rw [if_neg h1, if_neg h2] at e; omega
  have hback : ∀ i x, i < Hl'.length → loc' (callR l H.length i) = some x → locl' i = some x := by
    intro i x hi hx
    by_cases h1 : i < l.length
    · rw [hρ i h1] at hx
      have h2 : l.getD i 0 < H.length := by rw [getD_lt _ _ _ h1]; exact hlt _ (List.getElem_mem h1)
      rw [hlow _ h2] at hx
      have h3 := r3.locs i (by omega)
      simp only [hρ i h1] at h3
      rw [h3]; exact hx
    · simp only [callR] at hx; rw [if_neg h1] at hx
      have : loc' (H.length + (i - l.length)) = locl' i := by
        show (if H.length + (i - l.length) < H.length then _ else _) = _
        rw [if_neg (by omega), show l.length + (H.length + (i - l.length) - H.length) = i by omega]
      rw [this] at hx; exact hx
  refine ⟨v, _, _, M', loc', he, ⟨rl, Hl', hP, hle, rfl, rfl⟩, ⟨?_, r1.ext, ?_, ?_, ?_⟩, r2.ren_to hl', ⟨r3.base, r3.size, r3.os, r3.tape, r3.output, ?_, r3.imm, r3.shape, ?_, hlow, by rw [hHlen]; omega⟩⟩
  · exact r1.base
  · intro j hj
    rw [hHlen] at hj
    show (if j < H.length then _ else _) = _
    rw [if_neg (by omega)]
    exact r1.dom _ (by omega)
  · intro j o hj
    by_cases hg : o = .gone
    · subst hg; trivial
    rcases hcase j o hj with ⟨h1, h2, h3⟩ | ⟨i, o', h1, rfl, rfl⟩
    · rw [hlow j h1]
      refine (hr.objs j o h3).keeps_far hkeep r3.base (fun b hb => ?_)
      cases hx : loc j with
      | none => rw [hx] at hb; cases hb
      | some x =>
        rw [hx] at hb
        have hb0 := (hr.objs j o h3).block_lt hg (b := b) (by rw [hx]; exact hb)
        exact r3.keep b hb0.1 (hunseen j o x b h3 hg hx hb h2)
    · have hi : i < Hl'.length := (List.getElem?_eq_some_iff.1 h1).1
      have ho := (r1.objs i o' h1).ren_to hl'
      have hlo : locl' i = loc' (callR l H.length i) := by
        cases hq : locl' i with
        | some x => exact (hl' i x hq).symm
        | none =>
          cases hq2 : loc' (callR l H.length i) with
          | none => rfl
          | some x => have := hback i x hi hq2; rw [hq] at this; cases this
      rw [hlo] at ho
      exact ho
  · intro j k oj ok lj lk b hj hk gj gk hlj hlk bj bk
    have hmix : ∀ j oj lj i o', j < H.length → j ∉ l → H[j]? = some oj → (oj = .gone → False) → loc' j = some lj → lj.block? = some b → Hl'[i]? = some o' → (o' = .gone → False) →
        ∀ x, loc' (callR l H.length i) = some x → x.block? = some b → False := by
      intro j oj lj i o' h1 h2 h3 h4 h5 h6 h7 h8 x h9 h10
      rw [hlow j h1] at h5
      have hi : i < Hl'.length := (List.getElem?_eq_some_iff.1 h7).1
      have hb0 := (hr.objs j oj h3).block_lt h4 (b := b) (by rw [h5]; exact h6)
      have hown : Owned locl' Hl' b := ⟨i, o', x, h7, h8, hback i x hi h9, h10⟩
      exact hunseen j oj lj b h3 h4 h5 h6 h2 (r3.own b hb0.1 hown)
    rcases hcase j oj hj with ⟨h1, h2, h3⟩ | ⟨i, o', h1, rfl, rfl⟩
    · rcases hcase k ok hk with ⟨k1, k2, k3⟩ | ⟨i, o', k1, rfl, rfl⟩
      · rw [hlow j h1] at hlj; rw [hlow k k1] at hlk
        exact hr.inj j k oj ok lj lk b h3 k3 gj gk hlj hlk bj bk
      · exact (hmix j oj lj i o' h1 h2 h3 gj hlj bj k1 (fun e => gk (by rw [e]; rfl)) lk hlk bk).elim
    · rcases hcase k ok hk with ⟨k1, k2, k3⟩ | ⟨i2, o2, k1, rfl, rfl⟩
      · exact (hmix k ok lk i o' k1 k2 k3 gk hlk bk h1 (fun e => gj (by rw [e]; rfl)) lj hlj bj).elim
      · have hi : i < Hl'.length := (List.getElem?_eq_some_iff.1 h1).1
        have hi2 : i2 < Hl'.length := (List.getElem?_eq_some_iff.1 k1).1
        have := r1.inj i i2 o' o2 lj lk b h1 k1 (fun e => gj (by rw [e]; rfl)) (fun e => gk (by rw [e]; rfl)) (hback i lj hi hlj) (hback i2 lk hi2 hlk) bj bk
        rw [this]
  · intro b hb hno
    refine r3.keep b hb (fun hown => hno ?_)
    obtain ⟨i, hi, o2, x2, ho2, hg2, hx2, hb2⟩ := hownl b hown
    exact ⟨_, o2, x2, ho2, hg2, hx2, hb2⟩
  · intro b hb ⟨j, o, x, hj, hg, hx, hbx⟩
    rcases hcase j o hj with ⟨h1, h2, h3⟩ | ⟨i, o', h1, rfl, rfl⟩
    · rw [hlow j h1] at hx
      exact ⟨j, o, x, h3, hg, hx, hbx⟩
    · have hi : i < Hl'.length := (List.getElem?_eq_some_iff.1 h1).1
      have hown : Owned locl' Hl' b := ⟨i, o', x, h1, fun e => hg (by rw [e]; rfl), hback i x hi hx, hbx⟩
      obtain ⟨i2, hi2, o2, x2, ho2, hg2, hx2, hb2⟩ := hownl b (r3.own b hb hown)
      exact ⟨_, o2, x2, ho2, hg2, hx2, hb2⟩

end
end Go.Ab
end

section
/- Lemmas by which the printed conditions are met. -/

set_option linter.unusedVariables false
set_option linter.unusedSimpArgs false
namespace Go.Ab

def Les : List AV → List AV → Prop
  | [], [] => True
  | a :: l, b :: r => Le a b ∧ Les l r
  | _, _ => False

theorem Les.refl : ∀ l, Les l l
  | [] => trivial
  | a :: l => ⟨Le.refl a, Les.refl l⟩

theorem Les.len : ∀ {l r : List AV}, Les l r → l.length = r.length
  | [], [], _ => rfl
  | a :: l, b :: r, h => by simp [Les.len h.2]
  | [], _ :: _, h => h.elim
  | _ :: _, [], h => h.elim

theorem Les.get : ∀ {l r : List AV}, Les l r → ∀ i (h : i < l.length) (h' : i < r.length), Le l[i] r[i]
  | a :: l, b :: r, h, 0, _, _ => h.1
  | a :: l, b :: r, h, i + 1, h1, h2 => Les.get h.2 i (by simpa using h1) (by simpa using h2)
  | [], _, _, i, h, _ => by simp at h
  | _ :: _, [], h, _, _, _ => h.elim

section
variable {P : Program} {n : Nat}

theorem ASpec.le {f : FuncId} {args args' : List AV} {H : List AObj} {Post : AV → List AObj → Prop} (k : ASpec P f args' H Post) (hle : Les args args') : ASpec P f args H Post := by
  intro M loc w vs ht hr hv
  obtain ⟨h1, h2⟩ := hv
  have hl := hle.len
  exact k M loc w vs ht hr ⟨by omega, fun i hi => hle.get i (by omega) hi M w loc _ (h2 i (by omega))⟩

/-- a call of what is known -/
theorem ASpec.call {f : FuncId} {args args' : List AV} {H H0 : List AObj} {r0 : AV} {Post : AV → List AObj → Prop} (k : ASpec P f args' H (fun r H' => r = r0 ∧ H' = H0)) (hle : Les args args') (h : Post r0 H0) : ASpec P f args H Post :=
  (k.le hle).mono fun r H' ⟨e1, e2⟩ => by subst e1 e2; exact h

/-- what sees nothing of the heap holds in any -/
theorem ASpec.anyH {f : FuncId} {args : List AV} {r0 : AV} {Hl : List AObj} (H : List AObj) (k : ASpec P f args [] (fun r H' => r = r0 ∧ H' = Hl)) (args' : List AV) (r' : AV) (Hl' : List AObj)
    (ha : args.map (AV.ren (callR [] H.length)) = args') (hr : AV.ren (callR [] H.length) r0 = r') (hh : Hl.map (AObj.ren (callR [] H.length)) = Hl') :
    ASpec P f args' H (fun r H' => r = r' ∧ H' = H ++ Hl') := by
  subst ha hr hh
  refine (ASpec.graft [] k (by simp) rfl rfl (fun i h => by simp at h)).mono fun r H' hx => ?_
  obtain ⟨rl, Hl2, ⟨e1, e2⟩, _, e3, e4⟩ := hx
  subst e1 e2 e3 e4
  exact ⟨rfl, by simp [graftH, grafted]⟩

/-- what sees nothing of the heap and leaves nothing there -/
theorem ASpec.pureH {f : FuncId} {args : List AV} {r0 : AV} (H : List AObj) (k : ASpec P f args [] (fun r H' => r = r0 ∧ H' = [])) (args' : List AV) (r' : AV)
    (ha : args.map (AV.ren (callR [] H.length)) = args') (hr : AV.ren (callR [] H.length) r0 = r') :
    ASpec P f args' H (fun r H' => r = r' ∧ H' = H) := by
  have := ASpec.anyH H k args' r' [] ha hr rfl
  simpa using this

/-- what sees one object of the heap, and gives no other back -/
theorem ASpec.oneH {f : FuncId} {args : List AV} {r0 : AV} {o o' : AObj} (H : List AObj) (id : Nat) (k : ASpec P f args [o] (fun r H' => r = r0 ∧ H' = [o'])) (args' : List AV) (r' : AV) (q' : AObj)
    (ha : args.map (AV.ren (callR [id] H.length)) = args') (hr : AV.ren (callR [id] H.length) r0 = r') (hH : H[id]? = some (AObj.ren (callR [id] H.length) o)) (hq : AObj.ren (callR [id] H.length) o' = q') :
    ASpec P f args' H (fun r H' => r = r' ∧ H' = H.set id q') := by
  subst ha hr hq
  refine (ASpec.graft [id] k (by simp) rfl rfl (fun i h => ?_)).mono fun r H' hx => ?_
  · have : i = 0 := by simpa using h
    subst this
    simpa using hH
  · obtain ⟨rl, Hl2, ⟨e1, e2⟩, _, e3, e4⟩ := hx
    subst e1 e2 e3 e4
    exact ⟨rfl, by simp [graftH, grafted]⟩

def Slots2 (R : AV → AV → Prop) : Slots → Slots → Prop
  | [], [] => True
  | (i, a) :: s, (j, b) :: t => i = j ∧ R a b ∧ Slots2 R s t
  | _, _ => False

theorem Slots2.get {R : AV → AV → Prop} (h0 : R .bad .bad) : ∀ {s t : Slots}, Slots2 R s t → ∀ d, R (get s d) (get t d)
  | [], [], _, d => h0
  | (i, a) :: s, (j, b) :: t, h, d => by
    obtain ⟨rfl, h1, h2⟩ := h
    simp only [Ab.get]
    cases Nat.beq i d with
    | true => exact h1
    | false => exact Slots2.get h0 h2 d
  | [], _ :: _, h, _ => h.elim
  | _ :: _, [], h, _ => h.elim

/-- another spelling of a state, and a choice among its objects -/
theorem AWP.shape {ro : Option Nat} {N : Nat} {c : Code} {s : Slots} {H : List AObj} {Q : AQ} (l : List Nat) (s2 : Slots) (H2 : List AObj) (hsel : Sel n l H H2)
    (hs : Slots2 (fun a b => Le a (AV.ren (selR l H.length) b)) s s2) (k : AWPr ro P N n c s2 H2 Q) : AWPr ro P N n c s H Q := by
  intro M loc w a h0
  refine AWP.re (ReSt.trans (ReSt.le (s2 := renS (selR l H.length) s2) (fun d => ?_) h0) (ReSt.sel hsel fun d => .inl (get_renS _ _ _))) k M loc w a h0
  rw [get_renS]
  exact Slots2.get (R := fun a b => Le a (AV.ren (selR l H.length) b)) (Le.refl _) hs d

/-- another spelling of a state -/
theorem AWP.spell {ro : Option Nat} {N : Nat} {c : Code} {s : Slots} {H : List AObj} {Q : AQ} (s2 : Slots) (hs : Slots2 Le s s2) (k : AWPr ro P N n c s2 H Q) : AWPr ro P N n c s H Q := by
  intro M loc w a h0
  exact AWP.re (ReSt.le (fun d => Slots2.get (Le.refl _) hs d) h0) k M loc w a h0

theorem Sel.one {o o' : AObj} {H : List AObj} (i : Nat) (h : H[i]? = some o) (e : AObj.ren (selR [i] H.length) o' = o) : Sel 0 [i] H [o'] := by
  refine ⟨by simp, rfl, by omega, by simp, fun j hj => ?_⟩
  have : j = 0 := by simpa using hj
  subst this
  left; simpa [e] using h

theorem Sel.none {H : List AObj} : Sel 0 [] H [] := ⟨by simp, rfl, by omega, by simp, fun j hj => by simp at hj⟩

end

theorem wrap64 {x : Int} (h1 : -9223372036854775808 ≤ x) (h2 : x ≤ 9223372036854775807) : IntKind.wrap .i64 x = x := by
  simp only [IntKind.wrap, IntKind.bits, IntKind.signed]
  have e : (2 : Int) ^ 64 = 18446744073709551616 := by decide
  have e2 : (2 : Int) ^ (64 - 1) = 9223372036854775808 := by decide
  simp only [e, e2, Bool.true_and, decide_eq_true_eq]
  split <;> omega

theorem wrapN {n : Nat} (h : n ≤ 9223372036854775807) : IntKind.wrap .i64 (n : Int) = n := wrap64 (by omega) (by omega)

theorem wrapU8 {x : Int} : IntKind.wrap .u8 x = x % 256 := by
  simp only [IntKind.wrap, IntKind.bits, IntKind.signed]
  have e : (2 : Int) ^ 8 = 256 := by decide
  simp only [e, Bool.false_and]
  simp

theorem condP_iff {b : Bool} {A B : Prop} : condP b A B ↔ (b = true → A) ∧ (b = false → B) := by cases b <;> simp [condP]

theorem condD {p : Prop} [Decidable p] {A B : Prop} (h1 : p → A) (h2 : ¬ p → B) : condP (decide p) A B := by
  by_cases h : p
  · rw [decide_eq_true h]; exact h1 h
  · rw [decide_eq_false h]; exact h2 h

theorem condB {b : Bool} {A B : Prop} (h1 : b = true → A) (h2 : b = false → B) : condP b A B := by cases b <;> simp_all [condP]

theorem condE {a b : Int} {A B : Prop} (h1 : a = b → A) (h2 : a ≠ b → B) : condP (a == b) A B := by
  by_cases h : a = b
  · rw [beq_iff_eq.2 h]; exact h1 h
  · rw [beq_eq_false_iff_ne.2 h]; exact h2 h

theorem condNe {a b : Int} {A B : Prop} (h1 : a ≠ b → A) (h2 : a = b → B) : condP (a != b) A B := by
  by_cases h : a = b
  · rw [bne, beq_iff_eq.2 h]; exact h2 h
  · rw [bne, beq_eq_false_iff_ne.2 h]; exact h1 h

theorem needI {p A : Prop} (h : p) (k : p → A) : needP p A := ⟨h, k⟩
theorem needJ {p A : Prop} (h : p) (k : A) : needP p A := ⟨h, fun _ => k⟩

theorem oneB : ∀ x : UInt8, List.all (encB x) oneAV = true := fun _ => rfl
theorem oneI : ∀ x : Int, List.all (encI x) oneAV = true := fun _ => rfl

theorem bytesOf_map (l : List UInt8) : bytesOf (.map encB 0 l) = ⟨l.toArray⟩ := by
  simp only [bytesOf, Seq.toList, List.map_map]
  congr 2
  have : cellByte ∘ encB = id := by
    funext b
    show UInt8.ofNat (Int.toNat (b.toNat : Int)) = b
    rw [Int.toNat_natCast]
    exact UInt8.ofNat_toNat
  rw [this, List.map_id]

theorem allBytes_map (l : List UInt8) : allBytes (.map encB 0 l) := by
  intro x hx
  simp only [Seq.toList, List.mem_map] at hx
  obtain ⟨b, _, rfl⟩ := hx
  exact ⟨_, rfl⟩

/-- a byte's cell out of a number -/
theorem encB_ofNat {x : Int} (h0 : 0 ≤ x) (h1 : x < 256) : [AV.int .u8 x] = encB (UInt8.ofNat x.toNat) := by
  simp only [encB]
  rw [UInt8.toNat_ofNat']
  congr 2
  have : x.toNat % 2 ^ 8 = x.toNat := Nat.mod_eq_of_lt (by omega)
  omega

end Go.Ab
end

section
/- Tokens for slices that lie in objects; slices whose elements are forgotten in part; calls that see some objects of the heap. -/

set_option linter.unusedVariables false
set_option linter.unusedSimpArgs false
namespace Go.Ab

/-- rows that stand for others, element by element -/
theorem Le.slE {sz : Nat} {s s' : Seq} {tip tip' : Tip} (hl : s'.toList.length = s.toList.length)
    (he : ∀ i (h : i < s.toList.length) (h' : i < s'.toList.length), Les s.toList[i] s'.toList[i]) (ht : tip' = tip ∨ tip' = .none) : Le (.sl sz s tip) (.sl sz s' tip') := by
  intro M w loc v h
  cases h with
  | slnil _ _ _ h1 h2 =>
    have h1' : s'.toList = [] := List.length_eq_zero_iff.1 (by rw [hl, h1]; rfl)
    refine .slnil _ _ _ h1' (fun id e => ?_)
    rcases ht with rfl | rfl
    · exact h2 id e
    · cases e
  | slz _ _ _ ad h1 hn h2 =>
    have h1' : s'.toList = [] := List.length_eq_zero_iff.1 (by rw [hl, h1]; rfl)
    refine .slz _ _ _ ad h1' ?_ (fun id e => ?_)
    · rcases ht with rfl | rfl
      · exact hn
      · intro e; cases e
    · rcases ht with rfl | rfl
      · exact h2 id e
      · cases e
  | sl _ _ _ b o cap vals hz h1 h2 hcap hnil hfull htok =>
    rw [← hl]
    refine .sl sz s' tip' b o cap vals (fun i hi => ?_) (fun i j hi hj => ?_) (fun i j hi hj => ?_) (by rw [hl]; exact hcap) ?_ ?_ ?_
    · have hi' : i < s.toList.length := by omega
      rw [← (he i hi' hi).len]; exact hz i hi'
    · exact h1 i j (by omega) hj
    · have hi' : i < s.toList.length := by omega
      have hx := he i hi' hi
      have hj' : j < s.toList[i].length := by rw [hx.len]; exact hj
      exact hx.get j hj' hj M w loc _ (h2 i j hi' hj')
    · rcases ht with rfl | rfl
      · exact hnil
      · intro h; cases h
    · rcases ht with rfl | rfl
      · rw [hl]; exact hfull
      · intro h; cases h
    · intro id e
      rcases ht with rfl | rfl
      · rw [hl]; exact htok id e
      · cases e

section
variable {P : Program} {M : Mem} {w : World} {loc : Locs} {H H2 : List AObj} {n : Nat}

theorem VRel.tokOf {sz sz' : Nat} {q q' : Seq} {tip : Tip} {v : Value} {k : Nat} (h : VRel M w loc (.sl sz q tip) v) (hl : loc k = some .xtok) (ht : tip = .nil ∨ tip = .full) (hq : q'.toList = q.toList) (hz : sz' = sz ∨ q.toList = []) :
    VRel M w loc (.sl sz' q' (.tok k)) v := by
  cases h with
  | slnil _ _ _ c1 c2 => exact .slnil _ _ _ (by rw [hq]; exact c1) (fun id e => by cases e; exact hl)
  | slz _ _ _ ad c1 _ c2 => exact .slz _ _ _ ad (by rw [hq]; exact c1) (fun e => by cases e) (fun id e => by cases e; exact hl)
  | sl _ _ _ b o cap vals hz' d1 d2 hcap hnil hfull htok =>
    have hf : tip = .full := by
      rcases ht with rfl | rfl
      · exact (hnil rfl).elim
      · rfl
    have hsz : ∀ (i : Nat) (h : i < q.toList.length), sz' = sz := by
      intro i h
      rcases hz with e | e
      · exact e
      · rw [e] at h; simp at h
    rw [← hq]
    refine .sl sz' q' _ b o cap vals (fun i hi => ?_) (fun i j hi hj => ?_) (fun i j hi hj => ?_) (by rw [hq]; exact hcap) (by intro h; cases h) (by intro h; cases h) ?_
    · have hi' : i < q.toList.length := by rwa [hq] at hi
      rw [hsz i hi']
      have := hz' i hi'
      simpa [hq] using this
    · have hi' : i < q.toList.length := by rwa [hq] at hi
      rw [hsz i hi'] at hj ⊢
      exact d1 i j hi' hj
    · have hi' : i < q.toList.length := by rwa [hq] at hi
      have := d2 i j hi' (by simpa [hq] using hj)
      simpa [hq] using this
    · intro id e
      cases e
      rw [hq]
      exact .inl ⟨hl, hfull hf⟩

/-- a slice that lies in an object gets a token -/
theorem ReSt.tokCell {s : Slots} {id j sz sz' : Nat} {q q' : Seq} {tip : Tip} {cs : List AV} (ho : H[id]? = some (.cells cs)) (hj : cs[j]? = some (.sl sz q tip)) (ht : tip = .nil ∨ tip = .full) (hq : q'.toList = q.toList) (hz : sz' = sz ∨ q.toList = []) :
    ReSt n s H s (H.set id (.cells (cs.set j (.sl sz' q' (.tok H.length)))) ++ [.tok]) := by
  intro M loc w tmps h0 h1 h3
  obtain ⟨r1, r2⟩ := h1.xtok
  have hkeep := r2.keeps h1
  have hlt : id < H.length := (List.getElem?_eq_some_iff.1 ho).1
  have ho' : (H ++ [AObj.tok])[id]? = some (.cells cs) := by rw [List.getElem?_append_left hlt]; exact ho
  have hx : locSet loc H.length .xtok H.length = some .xtok := by simp [locSet]
  obtain ⟨r3, r4⟩ := r1.respell id (.cells cs) (.cells (cs.set j (.sl sz' q' (.tok H.length)))) ho' (by intro h; cases h) (by intro h; cases h) (fun hO => by
    obtain ⟨b, vs, T, fr, e1, e2, e3, e4, e5, hs, e6⟩ := hO
    refine ⟨b, vs, T, fr, e1, e2, e3, e4, e5, by simpa using hs, fun i hi => ?_⟩
    have hi' : i < cs.length := by simpa using hi
    by_cases e : i = j
    · subst e
      have hv := e6 i hi'
      have hc : cs[i] = .sl sz q tip := by
        rw [List.getElem?_eq_getElem hi'] at hj; exact Option.some.inj hj
      rw [hc] at hv
      simp only [List.getElem_set_self]
      exact hv.tokOf hx ht hq hz
    · simp only [List.getElem_set_ne (fun h => e h.symm)]
      exact e6 i hi')
  refine ⟨_, _, ?_, h3.keeps hkeep, ?_⟩
  · rw [List.set_append_left _ _ hlt] at r3; exact r3
  · have := (r2.trans r4).mono h0
    rw [List.set_append_left _ _ hlt] at this
    exact this

/-- an object's cells spelled otherwise -/
theorem ReSt.leCell {s : Slots} {id : Nat} {cs cs' : List AV} (ho : H[id]? = some (.cells cs)) (h : Les cs cs') : ReSt n s H s (H.set id (.cells cs')) := by
  intro M loc w tmps h0 h1 h3
  have hl := h.len
  obtain ⟨r1, r2⟩ := h1.respell id (.cells cs) (.cells cs') ho (by intro h; cases h) (by intro h; cases h) (fun hO => by
    obtain ⟨b, vs, T, fr, e1, e2, e3, e4, e5, hs, e6⟩ := hO
    exact ⟨b, vs, T, fr, e1, e2, e3, e4, e5, by omega, fun i hi => h.get i (by omega) hi M w loc _ (e6 i (by omega))⟩)
  exact ⟨M, loc, r1, h3, r2.mono h0⟩

/-- one more element, whose cells are forgotten in part -/
theorem leAppE {α : Type} {en : α → List AV} {d : α} {acc : List α} {x : α} {sz : Nat} {tip : Tip} {ex : List AV} (hx : Les ex (en x)) :
    Le (.sl sz (.app (.map en d acc) (.raw [ex])) tip) (.sl sz (.map en d (acc ++ [x])) tip) := by
  refine Le.slE (by simp [Seq.toList]) (fun i h h' => ?_) (.inl rfl)
  simp only [Seq.toList, List.map_append, List.map_cons, List.map_nil] at h h' ⊢
  by_cases e : i < (acc.map en).length
  · rw [List.getElem_append_left e, List.getElem_append_left e]
    exact Les.refl _
  · have hi : i = (acc.map en).length := by simp at h h' e ⊢; omega
    subst hi
    rw [List.getElem_append_right (Nat.le_refl _), List.getElem_append_right (Nat.le_refl _)]
    simpa using hx

/-- what sees some objects of the heap -/
theorem ASpec.subH {f : FuncId} {args : List AV} {r0 : AV} {Hl Hl2 : List AObj} (l : List Nat) (H Hx : List AObj) (k : ASpec P f args Hl (fun r H' => r = r0 ∧ H' = Hl2)) (args' : List AV) (r' : AV)
    (hnd : l.Nodup) (hlen : l.length = Hl.length) (ha : args.map (AV.ren (callR l H.length)) = args') (hr : AV.ren (callR l H.length) r0 = r')
    (hobj : ∀ i (h : i < Hl.length), H[l.getD i 0]? = some (AObj.ren (callR l H.length) Hl[i])) (hx : graftH (callR l H.length) l H Hl2 = Hx) :
    ASpec P f args' H (fun r H' => r = r' ∧ H' = Hx) := by
  subst ha hr hx
  refine (ASpec.graft l k hnd hlen rfl hobj).mono fun r H' hh => ?_
  obtain ⟨rl, Hl', ⟨e1, e2⟩, _, e3, e4⟩ := hh
  subst e1 e2 e3 e4
  exact ⟨rfl, rfl⟩

end
end Go.Ab
end

section
/- Maps told otherwise. -/

set_option linter.unusedVariables false
set_option linter.unusedSimpArgs false
namespace Go.Ab
section
variable {P : Program} {M : Mem} {w : World} {loc : Locs} {H H2 : List AObj} {n : Nat}

/-- entries with the same keys, whose values say no more -/
def MLe (a b : List (ByteArray × AV)) : Prop := ∃ hs : b.length = a.length, ∀ i (h : i < a.length), (b[i]'(by omega)).1 = a[i].1 ∧ Le a[i].2 (b[i]'(by omega)).2

theorem MLe.of_eq {a b : List (ByteArray × AV)} (h : b = a) : MLe a b := by
  subst h; exact ⟨rfl, fun i h => ⟨rfl, Le.refl _⟩⟩

theorem ORel.mle {l : Option Loc} {m m' : MM} (h : MLe m.toList m'.toList) (ho : ORel M w loc l (.mp m)) : ORel M w loc l (.mp m') := by
  obtain ⟨hs, he⟩ := h
  obtain ⟨b, ents, clock, e, h1, h2, h3, h4, h5⟩ := ho
  refine ⟨b, ents, clock, e, h1, h2, h3, by omega, fun i hi => ?_⟩
  obtain ⟨k1, k2⟩ := h5 i (by omega)
  obtain ⟨e1, e2⟩ := he i (by omega)
  exact ⟨by rw [e1]; exact k1, e2 M w loc _ k2⟩

theorem ReSt.map {s : Slots} {id : Nat} {m m' : MM} (ho : H[id]? = some (.mp m)) (h : MLe m.toList m'.toList) : ReSt n s H s (H.set id (.mp m')) := by
  intro M loc w tmps h0 h1 h3
  obtain ⟨r1, r2⟩ := h1.respell id (.mp m) (.mp m') ho (by intro h; cases h) (by intro h; cases h) (fun hO => ORel.mle h hO)
  exact ⟨M, loc, r1, h3, r2.mono h0⟩

theorem ASpec.inMap {f : FuncId} {args : List AV} {Post : AV → List AObj → Prop} (id : Nat) {m : MM} (m' : MM) (ho : H[id]? = some (.mp m)) (h : MLe m.toList m'.toList) (k : ASpec P f args (H.set id (.mp m')) Post) : ASpec P f args H Post := by
  intro M loc w vs ht hr hv
  obtain ⟨r1, r2⟩ := hr.respell id (.mp m) (.mp m') ho (by intro h; cases h) (by intro h; cases h) (fun hO => ORel.mle h hO)
  refine (k M loc w vs (ht.step hr r2) r1 hv).mono fun e w' ⟨v, r, H', M', loc', he, hP, q1, q2, q3⟩ => ⟨v, r, H', M', loc', he, hP, q1, q2, StepN.trans r2 q3 (by simp)⟩

theorem ASpec.outMap {f : FuncId} {args : List AV} {Post : AV → List AObj → Prop} (k : ASpec P f args H (fun r H' => ∃ (id : Nat) (m m' : MM), H'[id]? = some (.mp m) ∧ MLe m.toList m'.toList ∧ Post r (H'.set id (.mp m')))) : ASpec P f args H Post := by
  intro M loc w vs ht hr hv
  refine (k M loc w vs ht hr hv).mono fun e w' ⟨v, r, H', M', loc', he, ⟨id, m, m', ho, hm, hP⟩, q1, q2, q3⟩ => ?_
  obtain ⟨r1, r2⟩ := q1.respell id (.mp m) (.mp m') ho (by intro h; cases h) (by intro h; cases h) (fun hO => ORel.mle hm hO)
  exact ⟨v, r, _, M', loc', he, hP, r1, q2, StepN.trans q3 r2 (by have := q3.len; exact this)⟩

theorem mle_put {α : Type} {E : Enc α} {l : List (ByteArray × α)} {k : ByteArray} {v : AV} {a : α} (h : v = E.enc a) : MLe (MM.put (.typed E l) k v).toList (MM.typed E (setM l k a)).toList := by
  subst h
  exact MLe.of_eq (by simp only [MM.toList]; rw [setM_map])
theorem mle_nil {α : Type} {E : Enc α} : MLe MM.nil.toList (MM.typed E []).toList := MLe.of_eq rfl

end
end Go.Ab
end
