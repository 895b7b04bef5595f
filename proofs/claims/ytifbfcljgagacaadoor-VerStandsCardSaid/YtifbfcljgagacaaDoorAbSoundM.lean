/- The abstract meaning of maps and of methods is sound. -/
import Derived.Test.YtifbfcljgagacaaDoorAbSound9
set_option linter.unusedVariables false
set_option linter.unusedSimpArgs false
namespace Go.Ab
section
variable {P : Program} {M : Mem} {loc : Locs} {H : List AObj} {w : World} {K : AV → List AObj → Prop}

/-! ### maps -/

theorem natP_elim {o : Option Nat} {K : Nat → Prop} (h : natP o K) : ∃ a, o = some a ∧ K a := by
  cases o with
  | none => exact h.elim
  | some a => exact ⟨a, rfl, h⟩

theorem strKey_spec {t et : TypeId} (h : strKey P t = some et) : ∃ kt, P.underlying t = some (.map kt et) ∧ P.underlying kt = some .string := by
  unfold strKey at h
  split at h
  case h_2 => cases h
  case h_1 kt et' hu =>
  split at h
  case h_2 => cases h
  case h_1 hk =>
  cases h
  exact ⟨kt, hu, hk⟩

theorem ba_beq (a b : ByteArray) : (a == b) = decide (a = b) := by
  rw [beq_toListBytes]
  by_cases h : a = b
  · subst h; simp
  · rw [decide_eq_false h]
    cases hq : a.toList == b.toList with
    | false => rfl
    | true =>
      rw [beq_iff_eq, ByteArray.toList_eq, ByteArray.toList_eq] at hq
      exact (h (by cases a; cases b; congr; exact Array.ext' hq)).elim

theorem tl_beq (a b : ByteArray) : (a.toList == b.toList) = decide (a = b) := by rw [← beq_toListBytes, ba_beq]

/-- the place of a key, and its value -/
def findI {α : Type _} : List (ByteArray × α) → ByteArray → Nat → Option (Nat × α)
  | [], _, _ => none
  | p :: l, k, i => if k = p.1 then some (i, p.2) else findI l k (i + 1)

theorem findI_find {α : Type _} (k : ByteArray) : ∀ (l : List (ByteArray × α)) (i : Nat), (findI l k i).map (·.2) = findM l k
  | [], _ => rfl
  | p :: l, i => by
    simp only [findI, findM]
    split
    · rfl
    · exact findI_find k l (i + 1)

theorem findI_lt {α : Type _} (k : ByteArray) : ∀ (l : List (ByteArray × α)) (i j : Nat) (v : α), findI l k i = some (j, v) → i ≤ j ∧ ∃ h : j - i < l.length, l[j - i] = (k, v)
  | [], _, _, _, h => by cases h
  | p :: l, i, j, v, h => by
    simp only [findI] at h
    split at h
    · rename_i e
      cases h
      refine ⟨Nat.le_refl _, by simp, ?_⟩
      simp [e]
    · obtain ⟨h1, h2, h3⟩ := findI_lt k l (i + 1) j v h
      refine ⟨by omega, by simp; omega, ?_⟩
      have : j - i = (j - (i + 1)) + 1 := by omega
      simp only [this, List.getElem_cons_succ]
      exact h3

theorem setM_found {α : Type _} (k : ByteArray) (v' : α) : ∀ (l : List (ByteArray × α)) (i j : Nat) (v : α), findI l k i = some (j, v) → setM l k v' = l.set (j - i) (k, v')
  | [], _, _, _, h => by cases h
  | p :: l, i, j, v, h => by
    simp only [findI] at h
    simp only [setM]
    split at h
    · rename_i e
      cases h
      rw [if_pos e]; simp
    · rename_i e
      obtain ⟨h1, _⟩ := findI_lt k l (i + 1) j v h
      rw [if_neg e, setM_found k v' l (i + 1) j v h]
      have : j - i = (j - (i + 1)) + 1 := by omega
      rw [this]; rfl

theorem setM_none {α : Type _} (k : ByteArray) (v' : α) : ∀ (l : List (ByteArray × α)) (i : Nat), findI l k i = none → setM l k v' = l ++ [(k, v')]
  | [], _, _ => rfl
  | p :: l, i, h => by
    simp only [findI] at h
    simp only [setM]
    split at h
    · cases h
    · rename_i e
      rw [if_neg e, setM_none k v' l (i + 1) h]; rfl

/-- entries have a list's keys -/
def Keyed {α : Type _} (es : List MapEntry) (l : List (ByteArray × α)) : Prop := ∃ hs : es.length = l.length, ∀ i (h : i < l.length), (es[i]'(by omega)).key = .string l[i].1

theorem findNow_spec {α : Type _} (k : ByteArray) : ∀ (es : List MapEntry) (l : List (ByteArray × α)) (i : Nat), Keyed es l →
    Instr.findNow .string (.string k) es i = some ((findI l k i).map fun p => (p.1, ((es[p.1 - i]?).map (·.val)).getD undef))
  | [], [], i, _ => rfl
  | [], p :: l, i, h => by obtain ⟨h, _⟩ := h; simp at h
  | e :: es, [], i, h => by obtain ⟨h, _⟩ := h; simp at h
  | e :: es, p :: l, i, h => by
    obtain ⟨h1, h2⟩ := h
    have hk := h2 0 (by simp)
    simp only [List.getElem_cons_zero] at hk
    simp only [Instr.findNow, hk, Instr.sameNow, ba_beq, findI]
    by_cases hq : k = p.1
    · rw [decide_eq_true hq, if_pos hq]
      simp
    · rw [decide_eq_false hq, if_neg hq]
      simp only
      rw [findNow_spec k es l (i + 1) ⟨by simpa using h1, fun j hj => by have := h2 (j + 1) (by simp; omega); simpa using this⟩]
      congr 1
      cases hf : findI l k (i + 1) with
      | none => rfl
      | some q =>
        obtain ⟨j, v⟩ := q
        obtain ⟨h3, _⟩ := findI_lt k l (i + 1) j v hf
        have : j - i = (j - (i + 1)) + 1 := by omega
        simp [this]

theorem checkKey_str {kt : TypeId} (hk : P.underlying kt = some .string) (e : Bool) (k : ByteArray) : (Instr.checkKey e 10000 kt (.string k)).run P w = .ok () w := by
  rw [show (10000 : Nat) = 9999 + 1 from rfl]
  unfold Instr.checkKey
  simp only [Sem.run_bind, run_underlying' hk, Result.andThen_ok]
  rfl

theorem findKey_str {α : Type _} {kt : TypeId} (hk : P.underlying kt = some .string) (k : ByteArray) (es : List MapEntry) (l : List (ByteArray × α)) (h : Keyed es l) :
    (Instr.findKey kt (.string k) es).run P w = .ok ((findI l k 0).map fun p => (p.1, ((es[p.1]?).map (·.val)).getD undef)) w := by
  simp [Instr.findKey, run_underlying' hk, findNow_spec k es l 0 h]

theorem mapRes_rel {a : AV} {v : Value} (ok b : Bool) (h : VRel M w loc a v) : VRel M w loc (mapRes ok a b) (if ok then .tuple #[v, .bool b] else v) := by
  cases ok with
  | false => exact h
  | true =>
    refine .tup _ _ rfl (fun i hi => ?_)
    match i, hi with
    | 0, _ => exact h
    | 1, _ => exact .bool _

theorem lookMM_elim {K : AV → Prop} {Z : Prop} (k : ByteArray) : ∀ (m : MM), lookMM m k K Z → match findM m.toList k with | some v => K v | none => Z
  | .nil, h => h
  | .typed E l, h => by
    simp only [lookMM] at h
    simp only [MM.toList, findM_map]
    cases hf : findM l k with
    | none => rw [hf] at h; exact h
    | some a => rw [hf] at h; exact E.ok a _ h
  | .put m k' v, h => by
    simp only [lookMM, tl_beq] at h
    simp only [MM.toList, findM_set]
    by_cases hq : k = k'
    · rw [decide_eq_true hq] at h
      rw [if_pos hq]; exact h
    · rw [decide_eq_false hq] at h
      rw [if_neg hq]; exact lookMM_elim k m h

theorem keyed_of {ents : Array MapEntry} {m : List (ByteArray × AV)} (hs : ents.size = m.length) (h : ∀ i (h : i < m.length), (ents[i]'(by omega)).key = .string m[i].1 ∧ VRel M w loc m[i].2 (ents[i]'(by omega)).val) : Keyed ents.toList m :=
  ⟨by simpa using hs, fun i hi => by have := (h i hi).1; simpa using this⟩

theorem alookup_sound {t : TypeId} {x k : AV} {ok : Bool} {v u : Value} (h : alookup P t x k ok H (fun v => K v H)) (hr : Rel M loc H w) (hv : VRel M w loc x v) (hu : VRel M w loc k u) :
    GoodV P M loc H w K ((Instr.lookup t v u ok).run P w) := by
  unfold alookup at h
  obtain ⟨et, het, hA⟩ := natP_elim h
  clear h
  obtain ⟨kt, h1, h2⟩ := strKey_spec het
  obtain ⟨z, hz, h⟩ := optP_elim hA
  clear hA
  obtain ⟨zv, hzr, hzv⟩ := zeroAV_run (w := w) (M := M) (loc := loc) hz
  split at h
  case h_2 => exact h.elim
  case h_1 k =>
  cases hu
  split at h
  · cases hv
    have e : (Instr.lookup t (.map none) (.string k) ok).run P w = .ok (if ok then .tuple #[zv, .bool false] else zv) w := by
      simp only [Instr.lookup, Sem.run_bind, run_underlying' h1, Result.andThen_ok, pure_bind, Sem.run_pure, checkKey_str h2, findKey_str (α := Unit) h2 k [] [] ⟨rfl, fun i hi => by cases hi⟩, findI, Option.map_none, hzr]
    rw [e]
    exact GoodV.pure hr (mapRes_rel ok false hzv) h
  · rename_i id
    cases hv with
    | map _ b hl =>
    split at h
    case h_2 => exact h.elim
    case h_1 m ho =>
    have hobj := hr.objs id _ ho
    rw [hl] at hobj
    obtain ⟨b', ents, clock, e1, -, -, h3, h4, h5⟩ := hobj
    cases e1
    have hk := keyed_of h4 h5
    have hg : (getObj b).run P w = .ok (.map ents clock) w := by simp [getObj, Sem.run, h3]
    have hh := lookMM_elim k m h
    rw [← findI_find k m.toList 0] at hh
    cases hf : findI m.toList k 0 with
    | none =>
      rw [hf] at hh
      have e : (Instr.lookup t (.map (some b)) (.string k) ok).run P w = .ok (if ok then .tuple #[zv, .bool false] else zv) w := by
        simp only [Instr.lookup, Sem.run_bind, run_underlying' h1, Result.andThen_ok, pure_bind, Sem.run_pure, hg, checkKey_str h2, findKey_str h2 k _ _ hk, hf, Option.map_none, hzr]
      rw [e]
      exact GoodV.pure hr (mapRes_rel ok false hzv) hh
    | some q =>
      obtain ⟨j, a⟩ := q
      rw [hf] at hh
      obtain ⟨-, hj, ha⟩ := findI_lt k _ 0 j a hf
      simp only [Nat.sub_zero] at hj ha
      have hv := (h5 j hj).2
      rw [ha] at hv
      have e : (Instr.lookup t (.map (some b)) (.string k) ok).run P w = .ok (if ok then .tuple #[(ents[j]'(by omega)).val, .bool true] else (ents[j]'(by omega)).val) w := by
        simp only [Instr.lookup, Sem.run_bind, run_underlying' h1, Result.andThen_ok, pure_bind, Sem.run_pure, hg, checkKey_str h2, findKey_str h2 k _ _ hk, hf, Option.map_some]
        rw [show ents.toList[j]? = some (ents[j]'(by omega)) by simp [h4, hj]]
        simp
      rw [e]
      exact GoodV.pure hr (mapRes_rel ok true hv) hh
  · exact h.elim

theorem amapUpdate_sound {t : TypeId} {x k y : AV} {K : List AObj → Prop} {v u z : Value} (h : amapUpdate P t x k y H K) (hr : Rel M loc H w) (hv : VRel M w loc x v) (hu : VRel M w loc k u) (hz : VRel M w loc y z) :
    ∃ w' H' M' loc', (Instr.mapUpdate t v u z).run P w = .ok () w' ∧ K H' ∧ Rel M' loc' H' w' ∧ Step M loc H w M' loc' H' w' := by
  unfold amapUpdate at h
  obtain ⟨et, het, hA⟩ := natP_elim h
  clear h
  have h := hA
  clear hA
  obtain ⟨kt, h1, h2⟩ := strKey_spec het
  split at h
  case h_2 => exact h.elim
  case h_1 k =>
  cases hu
  split at h
  case h_2 => exact h.elim
  case h_1 id =>
  cases hv with
  | map _ b hl =>
  split at h
  case h_2 => exact h.elim
  case h_1 m ho =>
  have hobj := hr.objs id _ ho
  rw [hl] at hobj
  obtain ⟨b', ents, clock, e1, hb1, hb2, h3, h4, h5⟩ := hobj
  cases e1
  have hk := keyed_of h4 h5
  have hg : (getObj b).run P w = .ok (.map ents clock) w := by simp [getObj, Sem.run, h3]
  have keep : ∀ {ob : Obj}, Keeps M w loc M (setBlk w b ob) loc → True := fun _ => trivial
  -- the block after the write
  have hset : ∀ (es' : Array MapEntry) (c : Nat), (setObj b (.map es' c)).run P w = .ok () (setBlk w b (.map es' c)) := by
    intro es' c
    simp [setObj, Sem.run, setBlk, h3]
  have fin : ∀ (es' : Array MapEntry) (c : Nat) (hs : es'.size = (setM m.toList k y).length),
      (∀ M' w', (∀ a v, VRel M w loc a v → VRel M' w' loc a v) → ∀ i (h : i < (setM m.toList k y).length), (es'[i]'(by omega)).key = .string (setM m.toList k y)[i].1 ∧ VRel M' w' loc (setM m.toList k y)[i].2 (es'[i]'(by omega)).val) →
      Rel M loc (H.set id (.mp (.put m k y))) (setBlk w b (.map es' c)) ∧ Step M loc H w M loc (H.set id (.mp (.put m k y))) (setBlk w b (.map es' c)) := by
    intro es' c hs hh
    refine hr.write id b (.mp m) (.mp (.put m k y)) (.map es' c) ho (by intro h; cases h) hl (fun cs T fr hc => by rw [h3] at hc; cases hc) ?_
    refine ⟨b, es', c, rfl, hb1, hb2, setBlk_same (cells_lt h3), hs, hh M _ (fun a v hav => hav.keeps ⟨fun c k' v' hi => ?_, fun c cs T fr hc => ?_, fun i l hl => hl⟩)⟩
    · obtain ⟨hi1, hi2⟩ := hi
      refine ⟨?_, hi2⟩
      by_cases hcb : c = b
      · subst hcb
        rw [World.cell?] at hi1
        simp only [h3] at hi1
        simp at hi1
      · rw [cell_of_heap (setBlk_other hcb)]; exact hi1
    · by_cases hcb : c = b
      · subst hcb; rw [h3] at hc; cases hc
      · exact ⟨cs, fr, by rw [setBlk_other hcb]; exact hc, rfl⟩
  cases hf : findI m.toList k 0 with
  | none =>
    have e2 := setM_none k y m.toList 0 hf
    have e : (Instr.mapUpdate t (.map (some b)) (.string k) z).run P w = .ok () (setBlk w b (.map (ents.push { key := .string k, val := z, born := clock }) (clock + 1))) := by
      simp only [Instr.mapUpdate, Sem.run_bind, run_underlying' h1, Result.andThen_ok, hg, checkKey_str h2, findKey_str h2 k _ _ hk, hf, Option.map_none, hset]
    have hw := fin (ents.push { key := .string k, val := z, born := clock }) (clock + 1) (by rw [e2]; simp [h4]) (fun M' w' hk' i hi => by
      simp only [e2]
      by_cases hil : i < m.toList.length
      · rw [Array.getElem_push_lt (by omega), List.getElem_append_left hil]
        exact ⟨(h5 i hil).1, hk' _ _ (h5 i hil).2⟩
      · have : i = m.toList.length := by rw [e2] at hi; simp at hi; omega
        subst this
        simp only [← h4, Array.getElem_push_eq]
        simp only [h4, List.getElem_concat_length]
        exact ⟨by first | rfl | trivial, hk' _ _ hz⟩)
    exact ⟨_, _, M, loc, e, h, hw.1, hw.2⟩
  | some q =>
    obtain ⟨j, a⟩ := q
    have e2 := setM_found k y m.toList 0 j a hf
    obtain ⟨-, hj, ha⟩ := findI_lt k _ 0 j a hf
    simp only [Nat.sub_zero] at hj ha e2
    have hj' : j < ents.size := by omega
    have hkey := (h5 j hj).1
    rw [ha] at hkey
    simp only at hkey
    have e : (Instr.mapUpdate t (.map (some b)) (.string k) z).run P w = .ok () (setBlk w b (.map (ents.modify j fun e => { e with key := .string k, val := z }) clock)) := by
      have hst : (Instr.keyThatStays (.string k) (.string k)).run P w = .ok (.string k) w := by
        simp [Instr.keyThatStays, Instr.sameBits, ba_beq]
      simp only [Instr.mapUpdate, Sem.run_bind, run_underlying' h1, Result.andThen_ok, hg, checkKey_str h2, findKey_str h2 k _ _ hk, hf, Option.map_some]
      rw [Array.getElem?_eq_getElem hj']
      simp only [Option.map_some, Option.getD_some, hkey, hst, Result.andThen_ok, hset]
    have hw := fin (ents.modify j fun e => { e with key := .string k, val := z }) clock (by rw [e2]; simp [h4]) (fun M' w' hk' i hi => by
      simp only [e2]
      have hil : i < m.toList.length := by rw [e2] at hi; simpa using hi
      by_cases hij : j = i
      · subst hij
        simp only [Array.getElem_modify, List.getElem_set_self, if_true]
        exact ⟨by first | rfl | trivial, hk' _ _ hz⟩
      · simp only [Array.getElem_modify, if_neg hij]
        rw [List.getElem_set_ne hij]
        exact ⟨(h5 i hil).1, hk' _ _ (h5 i hil).2⟩)
    exact ⟨_, _, M, loc, e, h, hw.1, hw.2⟩

theorem amakeMap_sound {t : TypeId} (h : K (.map H.length) (H ++ [.mp .nil])) (hr : Rel M loc H w) : GoodV P M loc H w K ((Instr.makeMap t none).run P w) := by
  have e : (Instr.makeMap t none).run P w = .ok (.map (some w.heap.size)) (w.alloc (.map #[] 0)) := by
    simp [Instr.makeMap, run_newObj]
  rw [e]
  have hn := hr.new (.map #[] 0) 0 (fun h => absurd h (Nat.lt_irrefl 0)) (.blk w.heap.size) (.mp .nil) (.inr rfl)
    ⟨w.heap.size, #[], 0, rfl, hr.base, by simp [Mem.grow], heap_alloc_new _ _, rfl, fun i hi => by cases hi⟩
  exact ⟨_, _, _, _, _, _, rfl, h, hn.1, .map _ _ (by simp [locSet]), hn.2⟩

/-! ### methods -/

theorem methodOf_spec {t : TypeId} {name : String} {f : FuncId} (h : methodOf P t name = some f) :
    ∃ i m pr d, P.info? t = some i ∧ i.methods.find? (·.name == name) = some m ∧ m.path = #[] ∧ m.func = some (f, pr) ∧ P.underlying t = some d ∧ (pr = true ↔ ∃ e, d = .pointer e) := by
  unfold methodOf at h
  split at h
  case h_2 => cases h
  case h_1 m hm =>
  obtain ⟨i, hi, hm⟩ := Option.bind_eq_some_iff.1 hm
  split at h
  · cases h
  · rename_i f' d hne hp hf hu
    cases h
    exact ⟨i, m, false, d, hi, hm, by simpa using hp, hf, hu, by simp; intro e he; exact hne e (by rw [he])⟩
  · rename_i f' e hp hf hu
    cases h
    exact ⟨i, m, true, .pointer e, hi, hm, by simpa using hp, hf, hu, by simp⟩
  · cases h

theorem method_run {t : TypeId} {name : String} {f : FuncId} (h : methodOf P t name = some f) (v : Value) (n : Nat) : (method (n + 1) t v name).run P w = .ok (f, v) w := by
  obtain ⟨i, m, pr, d, h1, h2, h3, h4, h5, h6⟩ := methodOf_spec h
  simp only [method, Sem.run_bind, run_typeInfo' h1, Result.andThen_ok, h2, h3, follow, pure_bind, h4]
  cases pr with
  | true =>
    obtain ⟨e, rfl⟩ := h6.1 rfl
    simp [receiverAt, run_underlying' h5, Place.get]
  | false =>
    have hd : ∀ e, d ≠ .pointer e := fun e he => by have := h6.2 ⟨e, he⟩; cases this
    cases d <;> first | exact absurd rfl (hd _) | simp [receiverAt, run_underlying' h5, Place.get]

theorem nilAhead_run {t : TypeId} {name : String} {f : FuncId} (h : methodOf P t name = some f) (v : Value) (n : Nat) : (nilAhead (n + 1) t v name).run P w = .ok (some false) w := by
  obtain ⟨i, m, pr, d, h1, h2, h3, h4, h5, h6⟩ := methodOf_spec h
  simp only [nilAhead, Sem.run_bind, run_typeInfo' h1, Result.andThen_ok, h2, h3, followBlind, pure_bind, h4]
  cases pr with
  | true => simp [followBlind]
  | false =>
    have hd : ∀ e, d ≠ .pointer e := fun e he => by have := h6.2 ⟨e, he⟩; cases this
    cases d <;> first | exact absurd rfl (hd _) | simp [run_underlying' h5, followBlind]

end
end Go.Ab
