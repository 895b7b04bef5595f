/- A1: several of this proof's own texts, one behind the other: what each proves stands at its head. -/
import Derived.Test.YtkmolhmdikjmpaaGreatA0
import Derived.Lib.AppendZerosOnto
import Derived.Laws.Externs
set_option linter.unusedVariables false
set_option linter.unusedSimpArgs false
set_option linter.unusedSectionVars false
set_option maxRecDepth 100000
set_option maxHeartbeats 4000000
noncomputable section
namespace Go.Ab
section
variable {P : Program} {M : Mem} {loc : Locs} {H : List AObj} {w : World} {K : AV → List AObj → Prop}
theorem natP_elim {o : Option Nat} {K : Nat → Prop} (h : natP o K) : ∃ a, o = some a ∧ K a := by
 cases o with
 | none => exact h.elim
 | some a => exact ⟨a, rfl, h⟩
theorem strKey_spec {t et : TypeId} (h : strKey P t = some et) : ∃ kt, P.underlying t = some (.map kt et) ∧ P.underlying kt = some .string := by
 unfold strKey at h
 split at h
 case h_2 => cases h
 case h_1 kt et' hu =>
 split at h
 case h_2 => cases h
 case h_1 hk =>
 cases h
 exact ⟨kt, hu, hk⟩
theorem ba_beq (a b : ByteArray) : (a == b) = decide (a = b) := by
 rw [beq_toListBytes]
 by_cases h : a = b
 ·subst h; simp
 ·rw [decide_eq_false h]
  cases hq : a.toList == b.toList with
  | false => rfl
  | true =>
   rw [beq_iff_eq, ByteArray.toList_eq, ByteArray.toList_eq] at hq
   exact (h (by cases a; cases b; congr; exact Array.ext' hq)).elim
theorem tl_beq (a b : ByteArray) : (a.toList == b.toList) = decide (a = b) := by rw [← beq_toListBytes, ba_beq]
def findI {α : Type _} : List (ByteArray × α) → ByteArray → Nat → Option (Nat × α)
 | [], _, _ => none
 | p :: l, k, i => if k = p.1 then some (i, p.2) else findI l k (i + 1)
theorem findI_find {α : Type _} (k : ByteArray) : ∀ (l : List (ByteArray × α)) (i : Nat), (findI l k i).map (·.2) = findM l k
 | [], _ => rfl
 | p :: l, i => by
  simp only [findI, findM]
  split
  ·rfl
  ·exact findI_find k l (i + 1)
theorem findI_lt {α : Type _} (k : ByteArray) : ∀ (l : List (ByteArray × α)) (i j : Nat) (v : α), findI l k i = some (j, v) → i ≤ j ∧ ∃ h : j - i < l.length, l[j - i] = (k, v)
 | [], _, _, _, h => by cases h
 | p :: l, i, j, v, h => by
  simp only [findI] at h
  split at h
  ·rename_i e
   cases h
   refine ⟨Nat.le_refl _, by simp, ?_⟩
   simp [e]
  ·obtain ⟨h1, h2, h3⟩ := findI_lt k l (i + 1) j v h
   refine ⟨by omega, by simp; omega, ?_⟩
   have : j - i = (j - (i + 1)) + 1 := by omega
   simp only [this, List.getElem_cons_succ]
   exact h3
theorem setM_found {α : Type _} (k : ByteArray) (v' : α) : ∀ (l : List (ByteArray × α)) (i j : Nat) (v : α), findI l k i = some (j, v) → setM l k v' = l.set (j - i) (k, v')
 | [], _, _, _, h => by cases h
 | p :: l, i, j, v, h => by
  simp only [findI] at h
  simp only [setM]
  split at h
  ·rename_i e
   cases h
   rw [if_pos e]; simp
  ·rename_i e
   obtain ⟨h1, _⟩ := findI_lt k l (i + 1) j v h
   rw [if_neg e, setM_found k v' l (i + 1) j v h]
   have : j - i = (j - (i + 1)) + 1 := by omega
   rw [this]; rfl
theorem setM_none {α : Type _} (k : ByteArray) (v' : α) : ∀ (l : List (ByteArray × α)) (i : Nat), findI l k i = none → setM l k v' = l ++ [(k, v')]
 | [], _, _ => rfl
 | p :: l, i, h => by
  simp only [findI] at h
  simp only [setM]
  split at h
  ·cases h
  ·rename_i e
   rw [if_neg e, setM_none k v' l (i + 1) h]; rfl
def Keyed {α : Type _} (es : List MapEntry) (l : List (ByteArray × α)) : Prop := ∃ hs : es.length = l.length, ∀ i (h : i < l.length), (es[i]'(by omega)).key = .string l[i].1
theorem findNow_spec {α : Type _} (k : ByteArray) : ∀ (es : List MapEntry) (l : List (ByteArray × α)) (i : Nat), Keyed es l →
  Instr.findNow .string (.string k) es i = some ((findI l k i).map fun p => (p.1, ((es[p.1 - i]?).map (·.val)).getD undef))
 | [], [], i, _ => rfl
 | [], p :: l, i, h => by obtain ⟨h, _⟩ := h; simp at h
 | e :: es, [], i, h => by obtain ⟨h, _⟩ := h; simp at h
 | e :: es, p :: l, i, h => by
  obtain ⟨h1, h2⟩ := h
  have hk := h2 0 (by simp)
  simp only [List.getElem_cons_zero] at hk
  simp only [Instr.findNow, hk, Instr.sameNow, ba_beq, findI]
  by_cases hq : k = p.1
  ·rw [decide_eq_true hq, if_pos hq]
   simp
  ·rw [decide_eq_false hq, if_neg hq]
   simp only
   rw [findNow_spec k es l (i + 1) ⟨by simpa using h1, fun j hj => by have := h2 (j + 1) (by simp; omega); simpa using this⟩]
   congr 1
   cases hf : findI l k (i + 1) with
   | none => rfl
   | some q =>
    obtain ⟨j, v⟩ := q
    obtain ⟨h3, _⟩ := findI_lt k l (i + 1) j v hf
    have : j - i = (j - (i + 1)) + 1 := by omega
    simp [this]
theorem checkKey_str {kt : TypeId} (hk : P.underlying kt = some .string) (e : Bool) (k : ByteArray) : (Instr.checkKey e 10000 kt (.string k)).run P w = .ok () w := by
 rw [show (10000 : Nat) = 9999 + 1 from rfl]
 unfold Instr.checkKey
 simp only [Sem.run_bind, run_underlying' hk, Result.andThen_ok]
 rfl
theorem findKey_str {α : Type _} {kt : TypeId} (hk : P.underlying kt = some .string) (k : ByteArray) (es : List MapEntry) (l : List (ByteArray × α)) (h : Keyed es l) :
  (Instr.findKey kt (.string k) es).run P w = .ok ((findI l k 0).map fun p => (p.1, ((es[p.1]?).map (·.val)).getD undef)) w := by
 simp [Instr.findKey, run_underlying' hk, findNow_spec k es l 0 h]
theorem mapRes_rel {a : AV} {v : Value} (ok b : Bool) (h : VRel M w loc a v) : VRel M w loc (mapRes ok a b) (if ok then .tuple #[v, .bool b] else v) := by
 cases ok with
 | false => exact h
 | true =>
  refine .tup _ _ rfl (fun i hi => ?_)
  match i, hi with
  | 0, _ => exact h
  | 1, _ => exact .bool _
theorem lookMM_elim {K : AV → Prop} {Z : Prop} (k : ByteArray) : ∀ (m : MM), lookMM m k K Z → match findM m.toList k with | some v => K v | none => Z
 | .nil, h => h
 | .typed E l, h => by
  simp only [lookMM] at h
  simp only [MM.toList, findM_map]
  cases hf : findM l k with
  | none => rw [hf] at h; exact h
  | some a => rw [hf] at h; exact E.ok a _ h
 | .put m k' v, h => by
  simp only [lookMM, tl_beq] at h
  simp only [MM.toList, findM_set]
  by_cases hq : k = k'
  ·rw [decide_eq_true hq] at h
   rw [if_pos hq]; exact h
  ·rw [decide_eq_false hq] at h
   rw [if_neg hq]; exact lookMM_elim k m h
theorem keyed_of {ents : Array MapEntry} {m : List (ByteArray × AV)} (hs : ents.size = m.length) (h : ∀ i (h : i < m.length), (ents[i]'(by omega)).key = .string m[i].1 ∧ VRel M w loc m[i].2 (ents[i]'(by omega)).val) : Keyed ents.toList m :=
 ⟨by simpa using hs, fun i hi => by have := (h i hi).1; simpa using this⟩
theorem alookup_sound {t : TypeId} {x k : AV} {ok : Bool} {v u : Value} (h : alookup P t x k ok H (fun v => K v H)) (hr : Rel M loc H w) (hv : VRel M w loc x v) (hu : VRel M w loc k u) :
  GoodV P M loc H w K ((Instr.lookup t v u ok).run P w) := by
 unfold alookup at h
 obtain ⟨et, het, hA⟩ := natP_elim h
 clear h
 obtain ⟨kt, h1, h2⟩ := strKey_spec het
 obtain ⟨z, hz, h⟩ := optP_elim hA
 clear hA
 obtain ⟨zv, hzr, hzv⟩ := zeroAV_run (w := w) (M := M) (loc := loc) hz
 split at h
 case h_2 => exact h.elim
 case h_1 k =>
 cases hu
 split at h
 ·cases hv
  have e : (Instr.lookup t (.map none) (.string k) ok).run P w = .ok (if ok then .tuple #[zv, .bool false] else zv) w := by
   simp only [Instr.lookup, Sem.run_bind, run_underlying' h1, Result.andThen_ok, pure_bind, Sem.run_pure, checkKey_str h2, findKey_str (α := Unit) h2 k [] [] ⟨rfl, fun i hi => by cases hi⟩, findI, Option.map_none, hzr]
  rw [e]
  exact GoodV.pure hr (mapRes_rel ok false hzv) h
 ·rename_i id
  cases hv with
  | map _ b hl =>
  split at h
  case h_2 => exact h.elim
  case h_1 m ho =>
  have hobj := hr.objs id _ ho
  rw [hl] at hobj
  obtain ⟨b', ents, clock, e1, -, -, h3, -, h4, h5⟩ := hobj
  cases e1
  have hk := keyed_of h4 h5
  have hg : (getObj b).run P w = .ok (.map ents clock) w := by simp [getObj, Sem.run, h3]
  have hh := lookMM_elim k m h
  rw [← findI_find k m.toList 0] at hh
  cases hf : findI m.toList k 0 with
  | none =>
   rw [hf] at hh
   have e : (Instr.lookup t (.map (some b)) (.string k) ok).run P w = .ok (if ok then .tuple #[zv, .bool false] else zv) w := by
    simp only [Instr.lookup, Sem.run_bind, run_underlying' h1, Result.andThen_ok, pure_bind, Sem.run_pure, hg, checkKey_str h2, findKey_str h2 k _ _ hk, hf, Option.map_none, hzr]
   rw [e]
   exact GoodV.pure hr (mapRes_rel ok false hzv) hh
  | some q =>
   obtain ⟨j, a⟩ := q
   rw [hf] at hh
   obtain ⟨-, hj, ha⟩ := findI_lt k _ 0 j a hf
   simp only [Nat.sub_zero] at hj ha
   have hv := (h5 j hj).2
   rw [ha] at hv
   have e : (Instr.lookup t (.map (some b)) (.string k) ok).run P w = .ok (if ok then .tuple #[(ents[j]'(by omega)).val, .bool true] else (ents[j]'(by omega)).val) w := by
    simp only [Instr.lookup, Sem.run_bind, run_underlying' h1, Result.andThen_ok, pure_bind, Sem.run_pure, hg, checkKey_str h2, findKey_str h2 k _ _ hk, hf, Option.map_some]
    rw [show ents.toList[j]? = some (ents[j]'(by omega)) by simp [h4, hj]]
    simp
   rw [e]
   exact GoodV.pure hr (mapRes_rel ok true hv) hh
 ·exact h.elim
theorem amapUpdate_sound {t : TypeId} {x k y : AV} {K : List AObj → Prop} {v u z : Value} (h : amapUpdate P t x k y H K) (hr : Rel M loc H w) (hv : VRel M w loc x v) (hu : VRel M w loc k u) (hz : VRel M w loc y z) :
    ∃ w' H' M' loc', (Instr.mapUpdate t v u z).run P w = .ok () w' ∧ K H' ∧ Rel M' loc' H' w' ∧ Step M loc H w M' loc' H' w' := by
  unfold amapUpdate at h
  obtain ⟨et, het, hA⟩ := natP_elim h
  clear h
  have h := hA
  clear hA
  obtain ⟨kt, h1, h2⟩ := strKey_spec het
  split at h
  case h_2 => exact h.elim
  case h_1 k =>
  cases hu
  split at h
  case h_2 => exact h.elim
  case h_1 id =>
  cases hv with
  | map _ b hl =>
  split at h
  case h_2 => exact h.elim
  case h_1 m ho =>
  have hobj := hr.objs id _ ho
  rw [hl] at hobj
  obtain ⟨b', ents, clock, e1, hb1, hb2, h3, hbn, h4, h5⟩ := hobj
  cases e1
  have hk := keyed_of h4 h5
  have hg : (getObj b).run P w = .ok (.map ents clock) w := by simp [getObj, Sem.run, h3]
  have keep : ∀ {ob : Obj}, Keeps M w loc M (setBlk w b ob) loc → True := fun _ => trivial
  -- the block after the write
  have hset : ∀ (es' : Array MapEntry) (c : Nat), (setObj b (.map es' c)).run P w = .ok () (setBlk w b (.map es' c)) := by
    intro es' c
    simp [setObj, Sem.run, setBlk, h3]
  have fin : ∀ (es' : Array MapEntry) (c : Nat) (hbn' : Born es' c) (hs : es'.size = (setM m.toList k y).length),
      (∀ M' w', (∀ a v, VRel M w loc a v → VRel M' w' loc a v) → ∀ i (h : i < (setM m.toList k y).length), (es'[i]'(by omega)).key = .string (setM m.toList k y)[i].1 ∧ VRel M' w' loc (setM m.toList k y)[i].2 (es'[i]'(by omega)).val) →
      Rel M loc (H.set id (.mp (.put m k y))) (setBlk w b (.map es' c)) ∧ Step M loc H w M loc (H.set id (.mp (.put m k y))) (setBlk w b (.map es' c)) := by
    intro es' c hbn' hs hh
    refine hr.write id b (.mp m) (.mp (.put m k y)) (.map es' c) ho (by intro h; cases h) hl (fun cs T fr hc => by rw [h3] at hc; cases hc) ?_
    refine ⟨b, es', c, rfl, hb1, hb2, setBlk_same (cells_lt h3), hbn', hs, hh M _ (fun a v hav => hav.keeps ⟨fun c k' v' hi => ?_, fun c cs T fr hc => ?_, fun i l hl => hl⟩)⟩
    · obtain ⟨hi1, hi2⟩ := hi
      refine ⟨?_, hi2⟩
      by_cases hcb : c = b
      · subst hcb
        rw [World.cell?] at hi1
        simp only [h3] at hi1
        simp at hi1
      · rw [cell_of_heap (setBlk_other hcb)]; exact hi1
    · by_cases hcb : c = b
      · subst hcb; rw [h3] at hc; cases hc
      · exact ⟨cs, fr, by rw [setBlk_other hcb]; exact hc, rfl⟩
  cases hf : findI m.toList k 0 with
  | none =>
    have e2 := setM_none k y m.toList 0 hf
    have e : (Instr.mapUpdate t (.map (some b)) (.string k) z).run P w = .ok () (setBlk w b (.map (ents.push { key := .string k, val := z, born := clock }) (clock + 1))) := by
      simp only [Instr.mapUpdate, Sem.run_bind, run_underlying' h1, Result.andThen_ok, hg, checkKey_str h2, findKey_str h2 k _ _ hk, hf, Option.map_none, hset]
    have hw := fin (ents.push { key := .string k, val := z, born := clock }) (clock + 1) (by
      obtain ⟨n1, n2⟩ := hbn
      refine ⟨?_, fun e he => ?_⟩
      · rw [Array.toList_push, List.map_append, List.nodup_append]
        refine ⟨n1, by simp, fun a ha b hb => ?_⟩
        obtain ⟨e, he, rfl⟩ := List.mem_map.1 ha
        have := n2 e he
        simp at hb
        omega
      · rw [Array.toList_push, List.mem_append] at he
        rcases he with he | he
        · have := n2 e he; omega
        · simp at he; subst he; exact Nat.lt_succ_self _) (by rw [e2]; simp [h4]) (fun M' w' hk' i hi => by
      simp only [e2]
      by_cases hil : i < m.toList.length
      · rw [Array.getElem_push_lt (by omega), List.getElem_append_left hil]
        exact ⟨(h5 i hil).1, hk' _ _ (h5 i hil).2⟩
      · have : i = m.toList.length := by rw [e2] at hi; simp at hi; omega
        subst this
        simp only [← h4, Array.getElem_push_eq]
        simp only [h4, List.getElem_concat_length]
        exact ⟨by first | rfl | trivial, hk' _ _ hz⟩)
    exact ⟨_, _, M, loc, e, h, hw.1, hw.2⟩
  | some q =>
    obtain ⟨j, a⟩ := q
    have e2 := setM_found k y m.toList 0 j a hf
    obtain ⟨-, hj, ha⟩ := findI_lt k _ 0 j a hf
    simp only [Nat.sub_zero] at hj ha e2
    have hj' : j < ents.size := by omega
    have hkey := (h5 j hj).1
    rw [ha] at hkey
    simp only at hkey
    have e : (Instr.mapUpdate t (.map (some b)) (.string k) z).run P w = .ok () (setBlk w b (.map (ents.modify j fun e => { e with key := .string k, val := z }) clock)) := by
      have hst : (Instr.keyThatStays (.string k) (.string k)).run P w = .ok (.string k) w := by
        simp [Instr.keyThatStays, Instr.sameBits, ba_beq]
      simp only [Instr.mapUpdate, Sem.run_bind, run_underlying' h1, Result.andThen_ok, hg, checkKey_str h2, findKey_str h2 k _ _ hk, hf, Option.map_some]
      rw [Array.getElem?_eq_getElem hj']
      simp only [Option.map_some, Option.getD_some, hkey, hst, Result.andThen_ok, hset]
    have hmb : (ents.modify j fun e => { e with key := .string k, val := z }).toList.map (·.born) = ents.toList.map (·.born) := by
      apply List.ext_getElem
      · simp
      · intro i i1 i2
        simp only [List.getElem_map, Array.getElem_toList, Array.getElem_modify]
        split <;> rfl
    have hw := fin (ents.modify j fun e => { e with key := .string k, val := z }) clock (by
      obtain ⟨n1, n2⟩ := hbn
      refine ⟨by rw [hmb]; exact n1, fun e he => ?_⟩
      have : e.born ∈ (ents.modify j fun e => { e with key := .string k, val := z }).toList.map (·.born) := List.mem_map_of_mem he
      rw [hmb] at this
      obtain ⟨e', he', hee⟩ := List.mem_map.1 this
      rw [← hee]; exact n2 e' he') (by rw [e2]; simp [h4]) (fun M' w' hk' i hi => by
      simp only [e2]
      have hil : i < m.toList.length := by rw [e2] at hi; simpa using hi
      by_cases hij : j = i
      · subst hij
        simp only [Array.getElem_modify, List.getElem_set_self, if_true]
        exact ⟨by first | rfl | trivial, hk' _ _ hz⟩
      · simp only [Array.getElem_modify, if_neg hij]
        rw [List.getElem_set_ne hij]
        exact ⟨(h5 i hil).1, hk' _ _ (h5 i hil).2⟩)
    exact ⟨_, _, M, loc, e, h, hw.1, hw.2⟩
theorem delM_found {α : Type _} (k : ByteArray) : ∀ (l : List (ByteArray × α)) (i j : Nat) (v : α), findI l k i = some (j, v) → delM l k = l.eraseIdx (j - i)
 | [], _, _, _, h => by cases h
 | p :: l, i, j, v, h => by
  simp only [findI] at h
  simp only [delM]
  split at h
  ·rename_i e
   cases h
   rw [if_pos e]; simp
  ·rename_i e
   rw [if_neg e]
   have h1 := (findI_lt k l (i + 1) j v h).1
   rw [delM_found k l (i + 1) j v h, show j - i = (j - (i + 1)) + 1 by omega]
   rfl
theorem delM_none {α : Type _} (k : ByteArray) : ∀ (l : List (ByteArray × α)) (i : Nat), findI l k i = none → delM l k = l
 | [], _, _ => rfl
 | p :: l, i, h => by
  simp only [findI] at h
  split at h
  ·cases h
  ·rename_i e
   simp only [delM]
   rw [if_neg e, delM_none k l (i + 1) h]
theorem Rel.remap {id b : Nat} {m m' : MM} {ents es' : Array MapEntry} {clock c : Nat} (hr : Rel M loc H w) (ho : H[id]? = some (.mp m)) (hl : loc id = some (.blk b)) (h3 : w.heap[b]? = some (.map ents clock))
  (hb1 : M.base ≤ b) (hb2 : M.ext b = 0) (hbn' : Born es' c) (hs : es'.size = m'.toList.length)
  (hh : ∀ i (h : i < m'.toList.length), (es'[i]'(by omega)).key = .string m'.toList[i].1 ∧ VRel M w loc m'.toList[i].2 (es'[i]'(by omega)).val) :
  Rel M loc (H.set id (.mp m')) (setBlk w b (.map es' c)) ∧ Step M loc H w M loc (H.set id (.mp m')) (setBlk w b (.map es' c)) := by
 refine hr.write id b (.mp m) (.mp m') (.map es' c) ho (by intro h; cases h) hl (fun cs T fr hc => by rw [h3] at hc; cases hc) ?_
 refine ⟨b, es', c, rfl, hb1, hb2, setBlk_same (cells_lt h3), hbn', hs, fun i hi => ⟨(hh i hi).1, (hh i hi).2.keeps ⟨fun c k' v' hi => ?_, fun c cs T fr hc => ?_, fun i l hl => hl⟩⟩⟩
 ·obtain ⟨hi1, hi2⟩ := hi
  refine ⟨?_, hi2⟩
  by_cases hcb : c = b
  ·subst hcb
   rw [World.cell?] at hi1
   simp only [h3] at hi1
   simp at hi1
  ·rw [cell_of_heap (setBlk_other hcb)]; exact hi1
 ·by_cases hcb : c = b
  ·subst hcb; rw [h3] at hc; cases hc
  ·exact ⟨cs, fr, by rw [setBlk_other hcb]; exact hc, rfl⟩
theorem strKeyD_spec {t et : TypeId} (h : strKeyD P t = some et) : ∃ kt, P.underlying t = some (.map kt et) ∧ P.underlying kt = some .string := strKey_spec (P := P) (t := t) (et := et) h
theorem born_erase {ents : Array MapEntry} {clock j : Nat} (h : Born ents clock) : Born (ents.eraseIdxIfInBounds j) clock := by
 obtain ⟨n1, n2⟩ := h
 have e : (ents.eraseIdxIfInBounds j).toList = ents.toList.eraseIdx j := by simp
 refine ⟨?_, fun x hx => ?_⟩
 ·rw [e]
  have : ((ents.toList.eraseIdx j).map (·.born)).Sublist (ents.toList.map (·.born)) := (List.eraseIdx_sublist _ _).map _
  exact this.nodup n1
 ·rw [e] at hx
  exact n2 x ((List.eraseIdx_sublist _ _).mem hx)
theorem adelete_sound {ts : Array TypeId} {T : TypeId} {xs : List AV} {vs : Array Value} (h : adelete P ts.toList xs H K) (hr : Rel M loc H w) (hv : VRels M w loc xs vs) :
    GoodV P M loc H w K ((Builtin.delete_ ts T vs).run P w) := by
  unfold adelete at h
  split at h
  case h_2 => exact h.elim
  case h_1 t tr id k hts =>
  have hts0 : ts[0]? = some t := by
    rw [← Array.getElem?_toList, hts]; rfl
  obtain ⟨hs, hv⟩ := hv
  have hv0 := hv 0 (by simp)
  have hv1 := hv 1 (by simp)
  simp only [List.getElem_cons_zero, List.getElem_cons_succ] at hv0 hv1
  have hsz : vs.size = 2 := by simpa using hs
  have a0 : vs[0]? = some (vs[0]'(by omega)) := Array.getElem?_eq_getElem (by omega)
  have a1 : vs[1]? = some (vs[1]'(by omega)) := Array.getElem?_eq_getElem (by omega)
  generalize vs[0]'(by omega) = v0 at hv0 a0
  generalize vs[1]'(by omega) = v1 at hv1 a1
  cases hv1
  cases hv0 with
  | map _ b hl =>
  obtain ⟨et, het, h⟩ := natP_elim h
  obtain ⟨kt, g1, g2⟩ := strKeyD_spec het
  have key : ∀ (m : MM) (m' : MM), H[id]? = some (.mp m) → m'.toList = delM m.toList k → K (.tup []) (H.set id (.mp m')) → GoodV P M loc H w K ((Builtin.delete_ ts T vs).run P w) := by
    intro m m' ho hm hK
    have hobj := hr.objs id _ ho
    rw [hl] at hobj
    obtain ⟨b', ents, clock, e1, hb1, hb2, h3, hbn, h4, h5⟩ := hobj
    cases e1
    have hk := keyed_of h4 h5
    have hg : (getObj b).run P w = .ok (.map ents clock) w := by simp [getObj, Sem.run, h3]
    have hset : ∀ (es' : Array MapEntry) (c : Nat), (setObj b (.map es' c)).run P w = .ok () (setBlk w b (.map es' c)) := by
      intro es' c
      simp [setObj, Sem.run, setBlk, h3]
    cases hf : findI m.toList k 0 with
    | none =>
      have e2 := delM_none k m.toList 0 hf
      have e : (Builtin.delete_ ts T vs).run P w = .ok (.tuple #[]) (setBlk w b (.map ents clock)) := by
        simp only [Builtin.delete_, hts0, a0, a1, Sem.run_bind, run_underlying' g1, Result.andThen_ok, hg, checkKey_str g2, findKey_str g2 k _ _ hk, hf, Option.map_none, hset, Sem.run_pure]
      obtain ⟨r1, r2⟩ := hr.remap (m' := m') (es' := ents) (c := clock) ho hl h3 hb1 hb2 hbn (by rw [hm, e2]; exact h4) (fun i hi => by
        have hi2 : i < m.toList.length := by rw [hm, e2] at hi; exact hi
        have e3 : m'.toList[i] = m.toList[i] := by simp only [hm, e2]
        rw [e3]; exact h5 i hi2)
      exact ⟨_, _, .tup [], _, M, loc, e, hK, r1, .tup [] #[] rfl (fun i h => by simp at h), r2⟩
    | some q =>
      obtain ⟨j, a⟩ := q
      have e2 := delM_found k m.toList 0 j a hf
      obtain ⟨-, hj, ha⟩ := findI_lt k _ 0 j a hf
      simp only [Nat.sub_zero] at hj ha e2
      have hj' : j < ents.size := by omega
      have e : (Builtin.delete_ ts T vs).run P w = .ok (.tuple #[]) (setBlk w b (.map (ents.eraseIdxIfInBounds j) clock)) := by
        simp only [Builtin.delete_, hts0, a0, a1, Sem.run_bind, run_underlying' g1, Result.andThen_ok, hg, checkKey_str g2, findKey_str g2 k _ _ hk, hf, Option.map_some, hset, Sem.run_pure]
      have el : (ents.eraseIdxIfInBounds j).toList = ents.toList.eraseIdx j := by simp
      have hsz2 : (ents.eraseIdxIfInBounds j).size = m'.toList.length := by
        rw [← Array.length_toList, el, hm, e2, List.length_eraseIdx, List.length_eraseIdx, Array.length_toList, h4]
      obtain ⟨r1, r2⟩ := hr.remap (m' := m') (es' := ents.eraseIdxIfInBounds j) (c := clock) ho hl h3 hb1 hb2 (born_erase hbn) hsz2 (fun i hi => by
        have hi2 : i < (m.toList.eraseIdx j).length := by rw [hm, e2] at hi; exact hi
        have e3 : m'.toList[i] = (m.toList.eraseIdx j)[i] := by simp only [hm, e2]
        have hi3 : i < (ents.toList.eraseIdx j).length := by rw [← el, Array.length_toList]; omega
        have e4 : (ents.eraseIdxIfInBounds j)[i]'(by omega) = (ents.toList.eraseIdx j)[i] := by
          rw [← Array.getElem_toList]
          simp only [el]
        rw [e3, e4, List.getElem_eraseIdx, List.getElem_eraseIdx]
        rw [List.length_eraseIdx_of_lt hj] at hi2
        by_cases hij : i < j
        · simp only [hij, dif_pos]
          have := h5 i (by omega)
          simpa using this
        · simp only [hij, dif_neg, not_false_eq_true]
          have := h5 (i + 1) (by omega)
          simpa using this)
      exact ⟨_, _, .tup [], _, M, loc, e, hK, r1, .tup [] #[] rfl (fun i h => by simp at h), r2⟩
  split at h
  case h_3 => exact h.elim
  case h_1 ho =>
    have hset : H.set id (.mp .nil) = H := by
      apply List.ext_getElem?
      intro i
      by_cases hi : id = i
      · subst hi; rw [List.getElem?_set_self (List.getElem?_eq_some_iff.1 ho).1, ho]
      · rw [List.getElem?_set_ne hi]
    exact key .nil .nil ho rfl (by rw [hset]; exact h)
  case h_2 α E l ho => exact key _ (.typed E (delM l k)) ho (by simp only [MM.toList]; exact (delM_map E.enc k l).symm) h
theorem aclearMap_sound {t : TypeId} {T : TypeId} {id : Nat} {m : MM} {v : Value} (ho : H[id]? = some (.mp m)) (hK : K (.tup []) (H.set id (.mp .nil))) (hr : Rel M loc H w) (hv : VRel M w loc (.map id) v) :
  (∃ d, P.underlying t = some d) → GoodV P M loc H w K ((Builtin.clear_ #[t] T #[v]).run P w) := by
 rintro ⟨d, hd⟩
 cases hv with
 | map _ b hl =>
 have hobj := hr.objs id _ ho
 rw [hl] at hobj
 obtain ⟨b', ents, clock, e1, hb1, hb2, h3, hbn, h4, h5⟩ := hobj
 cases e1
 have hg : (getObj b).run P w = .ok (.map ents clock) w := by simp [getObj, Sem.run, h3]
 have hset : (setObj b (.map #[] clock)).run P w = .ok () (setBlk w b (.map #[] clock)) := by
  simp [setObj, Sem.run, setBlk, h3]
 have e : (Builtin.clear_ #[t] T #[.map (some b)]).run P w = .ok (.tuple #[]) (setBlk w b (.map #[] clock)) := by
  cases d <;> simp [Builtin.clear_, Sem.run_bind, run_underlying' hd, hg, hset]
 obtain ⟨r1, r2⟩ := hr.remap (m' := .nil) (es' := #[]) (c := clock) ho hl h3 hb1 hb2 ⟨by simp, fun e he => by simp at he⟩ rfl (fun i hi => by simp [MM.toList] at hi)
 exact ⟨_, _, .tup [], _, M, loc, e, hK, r1, .tup [] #[] rfl (fun i h => by simp at h), r2⟩
theorem amakeMap_sound {t : TypeId} (h : K (.map H.length) (H ++ [.mp .nil])) (hr : Rel M loc H w) : GoodV P M loc H w K ((Instr.makeMap t none).run P w) := by
 have e : (Instr.makeMap t none).run P w = .ok (.map (some w.heap.size)) (w.alloc (.map #[] 0)) := by
  simp [Instr.makeMap, run_newObj]
 rw [e]
 have hn := hr.new (.map #[] 0) 0 (fun h => absurd h (Nat.lt_irrefl 0)) (.blk w.heap.size) (.mp .nil) (.inr rfl)
  ⟨w.heap.size, #[], 0, rfl, hr.base, by simp [Mem.grow], heap_alloc_new _ _, ⟨by simp, fun e he => by simp at he⟩, rfl, fun i hi => by cases hi⟩
 exact ⟨_, _, _, _, _, _, rfl, h, hn.1, .map _ _ (by simp [locSet]), hn.2⟩
theorem methodOf_spec {t : TypeId} {name : String} {f : FuncId} (h : methodOf P t name = some f) :
  ∃ i m pr d, P.info? t = some i ∧ i.methods.find? (·.name == name) = some m ∧ m.path = #[] ∧ m.func = some (f, pr) ∧ P.underlying t = some d ∧ (pr = true ↔ ∃ e, d = .pointer e) := by
 unfold methodOf at h
 split at h
 case h_2 => cases h
 case h_1 m hm =>
 obtain ⟨i, hi, hm⟩ := Option.bind_eq_some_iff.1 hm
 split at h
 ·cases h
 ·rename_i f' d hne hp hf hu
  cases h
  exact ⟨i, m, false, d, hi, hm, by simpa using hp, hf, hu, by simp; intro e he; exact hne e (by rw [he])⟩
 ·rename_i f' e hp hf hu
  cases h
  exact ⟨i, m, true, .pointer e, hi, hm, by simpa using hp, hf, hu, by simp⟩
 ·cases h
theorem method_run {t : TypeId} {name : String} {f : FuncId} (h : methodOf P t name = some f) (v : Value) (n : Nat) : (method (n + 1) t v name).run P w = .ok (f, v) w := by
 obtain ⟨i, m, pr, d, h1, h2, h3, h4, h5, h6⟩ := methodOf_spec h
 simp only [method, Sem.run_bind, run_typeInfo' h1, Result.andThen_ok, h2, h3, follow, pure_bind, h4]
 cases pr with
 | true =>
  obtain ⟨e, rfl⟩ := h6.1 rfl
  simp [receiverAt, run_underlying' h5, Place.get]
 | false =>
  have hd : ∀ e, d ≠ .pointer e := fun e he => by have := h6.2 ⟨e, he⟩; cases this
  cases d <;> first | exact absurd rfl (hd _) | simp [receiverAt, run_underlying' h5, Place.get]
theorem nilAhead_run {t : TypeId} {name : String} {f : FuncId} (h : methodOf P t name = some f) (v : Value) (n : Nat) : (nilAhead (n + 1) t v name).run P w = .ok (some false) w := by
 obtain ⟨i, m, pr, d, h1, h2, h3, h4, h5, h6⟩ := methodOf_spec h
 simp only [nilAhead, Sem.run_bind, run_typeInfo' h1, Result.andThen_ok, h2, h3, followBlind, pure_bind, h4]
 cases pr with
 | true => simp [followBlind]
 | false =>
  have hd : ∀ e, d ≠ .pointer e := fun e he => by have := h6.2 ⟨e, he⟩; cases this
  cases d <;> first | exact absurd rfl (hd _) | simp [run_underlying' h5, followBlind]
end
end Go.Ab
end

noncomputable section
namespace Go.Ab
section
variable {P : Program} {M : Mem} {loc : Locs} {H : List AObj} {w : World} {K : AV → List AObj → Prop}
theorem Rel.move (hr : Rel M loc H w) (id : Nat) (o : AObj) (l : Loc) (hid : H[id]? = some o) (hg : o = .gone → False) (hl : loc id = some l) :
  Rel M (locSet loc H.length l) (H.set id .gone ++ [o]) w ∧ Step M loc H w M (locSet loc H.length l) (H.set id .gone ++ [o]) w := by
 have hlow : ∀ i, i < H.length → locSet loc H.length l i = loc i := fun i hi => by simp only [locSet]; rw [if_neg (Nat.ne_of_lt hi)]
 have hnew : locSet loc H.length l H.length = some l := by simp [locSet]
 have hk : Keeps M w loc M w (locSet loc H.length l) := ⟨fun _ _ _ h => h, fun _ cs _ fr h => ⟨cs, fr, h, rfl⟩, fun j x hx => by rw [hlow j (hr.lt hx)]; exact hx⟩
 have hget : ∀ (i : Nat) (q : AObj), (H.set id .gone ++ [o])[i]? = some q → (q = .gone) ∨ (i < H.length ∧ i ≠ id ∧ H[i]? = some q) ∨ (i = H.length ∧ q = o) := by
  intro i q hi
  by_cases h : i < H.length
  ·rw [List.getElem?_append_left (by simpa using h), List.getElem?_set] at hi
   split at hi
   ·split at hi
    ·cases hi; exact .inl rfl
    ·cases hi
   ·rename_i e; exact .inr (.inl ⟨h, fun x => e x.symm, hi⟩)
  ·rw [List.getElem?_append_right (by simpa using h)] at hi
   have hz : i - (H.set id AObj.gone).length = 0 := by
    rcases Nat.eq_zero_or_pos (i - (H.set id AObj.gone).length) with z | z
    ·exact z
    ·rw [List.getElem?_eq_none (by simp only [List.length_singleton]; omega)] at hi; cases hi
   rw [hz] at hi
   cases hi
   simp only [List.length_set] at hz
   exact .inr (.inr ⟨by omega, rfl⟩)
 refine ⟨⟨hr.base, hr.ext, fun i hi => ?_, ?_, ?_⟩, ⟨rfl, Nat.le_refl _, rfl, rfl, rfl, fun _ _ _ => ⟨rfl, rfl⟩, fun _ _ _ h => h, fun _ cs _ fr h => ⟨cs, fr, h, rfl⟩, ?_, hlow, by simp⟩⟩
 ·have hi' : H.length + 1 ≤ i := by simpa using hi
  simp only [locSet]; rw [if_neg (by omega)]; exact hr.dom i (by omega)
 ·intro i q hi
  rcases hget i q hi with rfl | ⟨h1, h2, h3⟩ | ⟨rfl, rfl⟩
  ·trivial
  ·rw [hlow i h1]; exact (hr.objs i q h3).keeps_far hk rfl (fun b hb => ⟨rfl, rfl⟩)
  ·have := hr.objs id q hid
   rw [hl] at this
   rw [hnew]; exact this.keeps_far hk rfl (fun b hb => ⟨rfl, rfl⟩)
 ·intro i j oi oj li lj c hi hj gi gj hli hlj bi bj
  rcases hget i oi hi with e | ⟨h1, h2, h3⟩ | ⟨e1, e2⟩
  ·exact (gi e).elim
  ·rw [hlow i h1] at hli
   rcases hget j oj hj with e | ⟨k1, k2, k3⟩ | ⟨f1, f2⟩
   ·exact (gj e).elim
   ·rw [hlow j k1] at hlj
    exact hr.inj i j oi oj li lj c h3 k3 gi gj hli hlj bi bj
   ·subst f1 f2
    rw [hnew] at hlj; cases hlj
    exact (h2 (hr.inj i id oi _ li _ c h3 hid gi hg hli hl bi bj)).elim
  ·subst e1 e2
   rw [hnew] at hli; cases hli
   rcases hget j oj hj with e | ⟨k1, k2, k3⟩ | ⟨f1, f2⟩
   ·exact (gj e).elim
   ·rw [hlow j k1] at hlj
    exact (k2 (hr.inj id j _ oj _ lj c hid k3 hg gj hl hlj bi bj).symm).elim
   ·rw [f1]
 ·intro c hc ⟨i, q, x, hi, hgq, hx, hb⟩
  rcases hget i q hi with e | ⟨h1, h2, h3⟩ | ⟨e1, e2⟩
  ·exact (hgq e).elim
  ·rw [hlow i h1] at hx; exact ⟨i, q, x, h3, hgq, hx, hb⟩
  ·subst e1 e2; rw [hnew] at hx; cases hx; exact ⟨id, _, _, hid, hgq, hl, hb⟩
theorem append_grow_arr {t tx ty e : TypeId} {i : TypeInfo} {z : Value} (ht : P.underlying t = some (.slice e)) (hi : P.info? e = some i) (hz : i.zero = some z) (hzs : z.cells.size = i.size) (hsz : 1 ≤ i.size)
  (hr : Rel M loc H w) {base : Option Addr} {sCap : Nat} {s s' : Seq} {vals vals' : Nat → Nat → Value} (hc : Cells M w loc s.toList.length i.size s.toList vals)
  (hold : (Builtin.firstCells i.size s.toList.length (.slice base s.toList.length sCap)).run P w.drew = .ok (flatVals s.toList.length i.size vals).toArray w.drew)
  {x : Value} (hs : Src P i.size tx x s'.toList.length (flatVals s'.toList.length i.size vals') w) (hc' : Cells M w loc s'.toList.length i.size s'.toList vals')
  (hg : sCap < s.toList.length + s'.toList.length) (hfit : (s.toList.length + s'.toList.length) * i.bytes ≤ 140737488351232) (h63 : s.toList.length + s'.toList.length ≤ 9223372036854775807)
  (hK : K (.msl i.size H.length 0 (s.toList.length + s'.toList.length)) (H ++ [.arr i.size (s.app s')])) :
  GoodV P M loc H w K ((Builtin.append_ #[t, tx] ty #[.slice base s.toList.length sCap, x]).run P w) := by
 rw [run_append_grow_src w t tx ty e i z ht hi hz base _ sCap _ hold x _ _ hs hg (by omega) (growslice_fits hg (by omega))]
 have hsame := drew_same w
 have hr' := (hr.same hsame).1
 have hkd := hsame.keeps M loc
 have hca := (hc.app hc').keeps hkd
 have hcap := Question.cut_ge (w := w) (n := s.toList.length + s'.toList.length) (o := sCap) (e := e)
 have hzc : (Builtin.zeroCells z.cells (grownCap w (s.toList.length + s'.toList.length) sCap e - (s.toList.length + s'.toList.length))).size = (grownCap w (s.toList.length + s'.toList.length) sCap e - (s.toList.length + s'.toList.length)) * i.size := by
  simp [Builtin.zeroCells, hzs]
 refine GoodV.same_first hsame hr ?_
 refine new_arr (w := w.drew) (T := e) hr' hsz (s := s.app s') (n := s.toList.length + s'.toList.length) hca _ hcap ?_ (grow_cells vals _ vals' hsz _) hK
 simp only [Array.size_append, List.size_toArray, List.length_append, flatVals_length, hzc]
 rw [← Nat.add_mul, ← Nat.add_mul]
 congr 1; omega
theorem aappendM_sound {ts : Array TypeId} {T : TypeId} {xs : List AV} {vs : Array Value} (h : aappendM P ts.toList xs H K) (hr : Rel M loc H w) (hv : VRels M w loc xs vs) :
  GoodV P M loc H w K ((Builtin.append_ ts T vs).run P w) := by
 unfold aappendM at h
 split at h
 case h_2 => exact h.elim
 case h_1 t t' sz id off n x hts =>
 have hts' : ts = #[t, t'] := extract2 _ _ _ hts
 subst hts'
 obtain ⟨hs, hv⟩ := hv
 have hv0 := hv 0 (by simp)
 have hv1 := hv 1 (by simp)
 simp only [List.getElem_cons_zero, List.getElem_cons_succ] at hv0 hv1
 have hvs : vs = #[vs[0]'(by simp at hs; omega), vs[1]'(by simp at hs; omega)] := by
  apply Array.ext
  ·simpa using hs
  ·intro i h1 h2
   have : i < 2 := by simpa using h2
   match i, this with
   | 0, _ => rfl
   | 1, _ => rfl
 generalize vs[0]'(by simp at hs; omega) = v0 at hv0 hvs
 generalize vs[1]'(by simp at hs; omega) = v1 at hv1 hvs
 subst hvs
 clear hv hs
 split at h
 case h_2 => exact h.elim
 case h_1 e hu hsk =>
 split at h
 case h_2 => exact h.elim
 case h_1 k by_ z hn hby hz =>
 obtain ⟨hb, hq1⟩ := chk_elim h
 clear h
 simp only [Bool.and_eq_true] at hb
 have hn1 := Nat.le_of_ble_eq_true hb.1.1.1.1
 have hksz := Nat.eq_of_beq_eq_true hb.1.1.1.2
 have hzl := Nat.eq_of_beq_eq_true hb.1.1.2
 have hby1 := Nat.le_of_ble_eq_true hb.1.2
 have hoff := Nat.eq_of_beq_eq_true hb.2
 subst hoff
 subst hksz
 obtain ⟨zv, hzrun, rfl, i, hi, hiz⟩ := zeroT_run hz w
 have hisz : i.size = k := by
  obtain ⟨i', hi', e'⟩ := sizeT_info hn
  rw [hi] at hi'; cases hi'; exact e'
 have hiby : i.bytes = by_ := by
  obtain ⟨i', hi', e'⟩ := bytesT_info hby
  rw [hi] at hi'; cases hi'; exact e'
 subst hisz
 subst hiby
 have hzs : zv.cells.size = i.size := by simpa using hzl
 obtain ⟨d, hu', hkind⟩ : ∃ d, P.underlying t' = some d ∧ ((∃ e', d = .slice e') ∨ d = .string) := by
  unfold srcKind at hsk
  split at hsk
  ·rename_i e' hu'; exact ⟨_, hu', .inl ⟨_, rfl⟩⟩
  ·rename_i hu'; exact ⟨_, hu', .inr rfl⟩
  ·cases hsk
 split at hq1
 case h_2 => exact hq1.elim
 case h_1 sz' s ho =>
 obtain ⟨hb2, hq0⟩ := chk_elim hq1
 clear hq1
 have hsz' := Nat.eq_of_beq_eq_true hb2
 subst hsz'
 obtain ⟨s', hq2, hsrcs⟩ := appendedP_elim hr hn1 hq0 hv1 hu' hkind
 clear hq0
 obtain ⟨hone, hq3⟩ := onesP_elim hq2
 clear hq2
 obtain ⟨⟨hn2, hfit⟩, hK⟩ := needP_elim hq3
 clear hq3
 rw [Seq.len_eq] at hn2 hfit
 subst hn2
 obtain ⟨vals', hsrc, hc'⟩ := hsrcs hone
 have hsum : s.toList.length + s'.toList.length ≤ 140737488351232 := Nat.le_trans (Nat.le_mul_of_pos_right _ hby1) hfit
 rw [Seq.len_eq] at hK
 cases hv0 with
 | msl _ _ _ _ b cap hl hle hcb =>
 obtain ⟨cs, Tb, fr, hbase, hext, hbk, hsoftE, hds, hdz, hdc⟩ := obj_arr hr hl ho
 have hsoft := hsoftE.1
 have hfite : cap * i.size = cs.size := by
  obtain ⟨cs2, T2, fr2, e2, h2⟩ := hcb
  rw [hbk] at e2; cases e2
  rw [Nat.zero_add] at h2; exact h2
 have hfitb : cap * i.size ≤ cs.size := Nat.le_of_eq hfite
 rw [Nat.zero_mul]
 have hc : Cells M w loc s.toList.length i.size s.toList (fun i' j => (cs[i' * i.size + j]?).getD undef) := by
  refine ⟨rfl, hdz, fun a j ha hj => ?_⟩
  obtain ⟨v, hv1, hv2⟩ := hdc a j ha hj
  simp only [hv1, Option.getD_some]; exact hv2
 have hnl : (flatVals s'.toList.length i.size vals').length = s'.toList.length * i.size := flatVals_length _ _ _
 by_cases hroom : s.toList.length + s'.toList.length ≤ cap
 ·-- in place
  have hle2 : (s.toList.length + s'.toList.length) * i.size ≤ cap * i.size := Nat.mul_le_mul_right _ hroom
  rw [Nat.add_mul] at hle2
  have hfit2 : 0 + s.toList.length * i.size + (flatVals s'.toList.length i.size vals').length ≤ cs.size := by rw [hnl]; omega
  rw [run_append_room_all t t' T e i hu hi b 0 s.toList.length cap v1 s'.toList.length _ hsrc hroom hbk hsoft hfit2]
  have hget := storeAll_get (flatVals s'.toList.length i.size vals') cs (0 + s.toList.length * i.size)
  generalize hcs1 : storeAll cs (0 + s.toList.length * i.size) (flatVals s'.toList.length i.size vals') = cs1 at hget ⊢
  have hsz1 : cs1.size = cs.size := by rw [← hcs1]; exact storeAll_size _ _ _
  have hlt := cells_lt hbk
  have hkk : Keeps M w loc M (setBlk w b (.cells cs1 Tb fr)) loc := by
   refine ⟨fun c q v hi' => ?_, fun c cs0 T0 fr0 hc0 => ?_, fun j x hx => hx⟩
   ·obtain ⟨h1, h2⟩ := hi'
    have hcb' : c ≠ b := by
     rintro rfl
     rcases h2 with h2 | h2
     ·omega
     ·omega
    exact ⟨by rw [cell_of_heap (setBlk_other hcb')]; exact h1, h2⟩
   ·by_cases hcb' : c = b
    ·subst hcb'
     rw [hbk] at hc0; cases hc0
     exact ⟨cs1, fr, setBlk_same hlt, hsz1⟩
    ·exact ⟨cs0, fr0, by rw [setBlk_other hcb']; exact hc0, rfl⟩
  have hca := (hc.app hc').keeps hkk
  have hlen2 : (s.app s').toList.length = s.toList.length + s'.toList.length := by rw [app_toList, List.length_append]
  obtain ⟨r1, r2⟩ := hr.write id b (.arr i.size s) (.arr i.size (s.app s')) (.cells cs1 Tb fr) ho (by intro h; cases h) hl
   (fun cs0 T0 fr0 hc0 => by rw [hbk] at hc0; cases hc0; exact ⟨cs1, fr, rfl, hsz1⟩)
   ⟨b, cs1, Tb, fr, rfl, hbase, hext, setBlk_same hlt, ⟨fun q hq => hsoft q (by omega), fun hz => by rw [hsz1]; exact hsoftE.2 hz⟩, by rw [hlen2, hsz1, Nat.add_mul]; omega, fun a ha => hca.each a ha, fun a j ha hj => by
    have hin : a < s.toList.length + s'.toList.length := by rw [← hlen2]; exact ha
    have hjn : j < i.size := by rw [← hca.each a ha]; exact hj
    have h9 := Nat.mul_le_mul_right i.size (show a + 1 ≤ s.toList.length + s'.toList.length from hin)
    rw [Nat.succ_mul] at h9
    refine ⟨_, ?_, hca.rel a j ha hj⟩
    rw [hget _ hfit2]
    by_cases hal : a < s.toList.length
    ·have h8 := Nat.mul_le_mul_right i.size (show a + 1 ≤ s.toList.length from hal)
     rw [Nat.succ_mul] at h8
     rw [if_neg (by omega), if_pos hal]
     obtain ⟨v, hv1, _⟩ := hdc a j hal (by rw [hdz]; exact hjn)
     rw [hv1]; rfl
    ·have h8 := Nat.mul_le_mul_right i.size (show s.toList.length ≤ a by omega)
     rw [if_pos (by rw [hnl]; rw [Nat.add_mul] at h9; omega), if_neg hal]
     have := flatVals_get (vals := vals') (n := s'.toList.length) (i := a - s.toList.length) (j := j) (sz := i.size) (by omega) hjn
     rw [← this]
     congr 1
     rw [Nat.sub_mul]; omega⟩
  obtain ⟨r3, r4⟩ := r1.move id (.arr i.size (s.app s')) (.blk b) (by rw [List.getElem?_set_self]; exact (List.getElem?_eq_some_iff.1 ho).1) (by intro h; cases h) hl
  simp only [List.length_set, List.set_set] at r3 r4
  have hg := VRel.msl (M := M) (w := setBlk w b (.cells cs1 Tb fr)) (loc := locSet loc H.length (.blk b)) i.size H.length 0 (s.toList.length + s'.toList.length) b cap (by simp [locSet]) hroom
   ⟨cs1, Tb, fr, setBlk_same hlt, by rw [Nat.zero_add, hsz1]; exact hfite⟩
  rw [Nat.zero_mul] at hg
  exact ⟨_, _, _, _, _, _, rfl, hK, r3, hg, r2.trans r4⟩
 ·have hlen : (H.set id .gone).length = H.length := by simp
  refine GoodV.drop_first id hr ?_
  refine append_grow_arr (ty := T) hu hi hiz hzs hn1 (hr.drop id).1 hc ?_ hsrc hc' (by omega) hfit (by omega) (by rw [hlen]; exact hK)
  refine run_firstCells_some w.drew i.size _ _ _ _ _ (flatVals_length _ _ _) ?_
  intro j v hj
  have hjl : j < s.toList.length * i.size := by
   have := (List.getElem?_eq_some_iff.1 hj).1
   rwa [flatVals_length] at this
  have hi2 : j / i.size < s.toList.length := Nat.div_lt_of_lt_mul (by rwa [Nat.mul_comm] at hjl)
  have hm : j % i.size < i.size := Nat.mod_lt _ (by omega)
  have e2 : j / i.size * i.size + j % i.size = j := by rw [Nat.mul_comm]; exact Nat.div_add_mod j _
  have hg := flatVals_get (vals := (fun i' j => (cs[i' * i.size + j]?).getD undef)) hi2 hm
  rw [e2] at hg
  rw [hg] at hj
  cases hj
  obtain ⟨v, hv1, _⟩ := hdc (j / i.size) (j % i.size) hi2 (by rw [hdz]; exact hm)
  rw [e2] at hv1
  have hbk' : w.drew.heap[b]? = some (.cells cs Tb fr) := hbk
  rw [add_mk, Nat.zero_add, cell_eq hbk', hv1]; rfl
end
end Go.Ab
end

noncomputable section
namespace Go.Ab
section
variable {P : Program} {M : Mem} {loc : Locs} {H : List AObj} {w : World} {K : AV → List AObj → Prop}
theorem write_row (hr : Rel M loc H w) {id n b off : Nat} {d s : Seq} {vals' : Nat → Nat → Value} (ho : H[id]? = some (.arr n d)) (hl : loc id = some (.blk b)) (hn1 : 1 ≤ n) (hc' : Cells M w loc s.toList.length n s.toList vals')
  (hfit : off + s.toList.length ≤ d.toList.length) :
  ∃ (cs : Array Value) (T' : TypeId) (fr : Nat × Nat), w.heap[b]? = some (.cells cs T' fr) ∧ soft cs fr ∧ off * n + (flatVals s.toList.length n vals').length ≤ cs.size ∧
   Rel M loc (H.set id (.arr n (copied d off s))) (setBlk w b (.cells (storeAll cs (off * n) (flatVals s.toList.length n vals')) T' fr)) ∧
   Step M loc H w M loc (H.set id (.arr n (copied d off s))) (setBlk w b (.cells (storeAll cs (off * n) (flatVals s.toList.length n vals')) T' fr)) := by
 obtain ⟨cs, T', fr, h1, h2, hbk, hsoftE, hds, hdz, hdc⟩ := obj_arr hr hl ho
 have hsoft := hsoftE.1
 have hm1 : (off + s.toList.length) * n ≤ d.toList.length * n := Nat.mul_le_mul_right n hfit
 rw [Nat.add_mul] at hm1
 have hnl : (flatVals s.toList.length n vals').length = s.toList.length * n := flatVals_length _ _ _
 have hfit2 : off * n + (flatVals s.toList.length n vals').length ≤ cs.size := by rw [hnl]; omega
 have hlt := cells_lt hbk
 have hget := storeAll_get (flatVals s.toList.length n vals') cs (off * n)
 have hkeep : Keeps M w loc M (setBlk w b (.cells (storeAll cs (off * n) (flatVals s.toList.length n vals')) T' fr)) loc := by
  refine ⟨?_, ?_, fun _ _ h => h⟩
  ·intro c k v hi
   by_cases e : c = b
   ·subst e; rcases hi.2 with q | q <;> omega
   ·exact ⟨by rw [cell_of_heap (setBlk_other e)]; exact hi.1, hi.2⟩
  ·intro c ds T2 fr' hc2
   by_cases e : c = b
   ·subst e; rw [hbk] at hc2; cases hc2
    exact ⟨_, fr, setBlk_same hlt, by rw [storeAll_size]⟩
   ·exact ⟨ds, fr', by rw [setBlk_other e]; exact hc2, rfl⟩
 have hcl : (copied d off s).toList.length = d.toList.length := by
  simp only [copied, Seq.toList, List.length_append, List.length_take, List.length_drop]; omega
 have hcget : ∀ k (hk : k < (copied d off s).toList.length), (∃ h1 : off ≤ k, ∃ h2 : k - off < s.toList.length, (copied d off s).toList[k] = s.toList[k - off]) ∨
   ((k < off ∨ off + s.toList.length ≤ k) ∧ ∃ h : k < d.toList.length, (copied d off s).toList[k] = d.toList[k]) := by
  intro k hk
  have hkd : k < d.toList.length := by rw [← hcl]; exact hk
  have hg : (copied d off s).toList[k]? = some (copied d off s).toList[k] := List.getElem?_eq_getElem hk
  simp only [copied, Seq.toList] at hg ⊢
  by_cases c1 : k < off
  ·right; refine ⟨.inl c1, hkd, ?_⟩
   rw [List.getElem?_append_left (by simp; omega), List.getElem?_take, if_pos c1, List.getElem?_eq_getElem hkd] at hg
   exact (Option.some.inj hg).symm
  ·have hmn : min off d.toList.length = off := by omega
   rw [List.getElem?_append_right (by simp; omega)] at hg
   simp only [List.length_take, hmn] at hg
   by_cases c2 : k - off < s.toList.length
   ·left; refine ⟨by omega, c2, ?_⟩
    rw [List.getElem?_append_left c2, List.getElem?_eq_getElem c2] at hg
    exact (Option.some.inj hg).symm
   ·right; refine ⟨.inr (by omega), hkd, ?_⟩
    rw [List.getElem?_append_right (by omega), List.getElem?_drop] at hg
    rw [show off + s.toList.length + (k - off - s.toList.length) = k by omega, List.getElem?_eq_getElem hkd] at hg
    exact (Option.some.inj hg).symm
 have heach : ∀ k (hk : k < (copied d off s).toList.length), (copied d off s).toList[k].length = n := by
  intro k hk
  rcases hcget k hk with ⟨_, h2, e⟩ | ⟨_, h, e⟩
  ·rw [e]; exact hc'.each _ h2
  ·rw [e]; exact hdz k h
 have hfin : ∀ k j (hk : k < (copied d off s).toList.length) (hj : j < (copied d off s).toList[k].length),
   ∃ v, (storeAll cs (off * n) (flatVals s.toList.length n vals'))[k * n + j]? = some v ∧ VRel M (setBlk w b (.cells (storeAll cs (off * n) (flatVals s.toList.length n vals')) T' fr)) loc (copied d off s).toList[k][j] v := by
  intro k j hk hj
  have hjn : j < n := by rw [← heach k hk]; exact hj
  rcases hcget k hk with ⟨g1, g2, e⟩ | ⟨g1, g2, e⟩
  ·have h8 := Nat.mul_le_mul_right n (show k - off + 1 ≤ s.toList.length from g2)
   rw [Nat.succ_mul, Nat.sub_mul] at h8
   have h9 := Nat.mul_le_mul_right n g1
   rw [hget _ hfit2, if_pos (by rw [hnl]; omega)]
   refine ⟨vals' (k - off) j, ?_, ?_⟩
   ·have := flatVals_get (vals := vals') (n := s.toList.length) (i := k - off) (j := j) (sz := n) g2 hjn
    rw [← this]; congr 1; rw [Nat.sub_mul]; omega
   ·have := hc'.rel (k - off) j g2 (by rw [← e]; exact hj)
    simp only [e]; exact this.keeps hkeep
  ·obtain ⟨v, hv1, hv2⟩ := hdc k j g2 (by rw [← e]; exact hj)
   refine ⟨v, ?_, ?_⟩
   ·rw [hget _ hfit2, if_neg ?_]
    ·exact hv1
    ·rw [hnl]
     rcases g1 with g1 | g1
     ·have h8 := Nat.mul_le_mul_right n (show k + 1 ≤ off from g1)
      rw [Nat.succ_mul] at h8; omega
     ·have h8 := Nat.mul_le_mul_right n g1
      rw [Nat.add_mul] at h8; omega
   ·simp only [e]; exact hv2.keeps hkeep
 obtain ⟨r1, r2⟩ := hr.write id b (.arr n d) (.arr n (copied d off s)) (.cells (storeAll cs (off * n) (flatVals s.toList.length n vals')) T' fr) ho (by intro h; cases h) hl
  (fun ds T2 fr' hd => by rw [hbk] at hd; cases hd; exact ⟨_, fr, rfl, by rw [storeAll_size]⟩)
  ⟨b, _, T', fr, rfl, h1, h2, setBlk_same hlt, ⟨fun k hk => hsoft k (by rwa [storeAll_size] at hk), fun hz => by rw [storeAll_size]; exact hsoftE.2 hz⟩, by rw [storeAll_size, hcl]; exact hds, heach, hfin⟩
 exact ⟨cs, T', fr, hbk, hsoft, hfit2, r1, r2⟩
theorem aappendI_sound {ts : Array TypeId} {T : TypeId} {xs : List AV} {vs : Array Value} (h : aappendI P ts.toList xs H K) (hr : Rel M loc H w) (hv : VRels M w loc xs vs) :
  GoodV P M loc H w K ((Builtin.append_ ts T vs).run P w) := by
 unfold aappendI at h
 split at h
 case h_2 => exact h.elim
 case h_1 t t' sz id off len x hts =>
 have hts' : ts = #[t, t'] := extract2 _ _ _ hts
 subst hts'
 obtain ⟨hs, hv⟩ := hv
 have hv0 := hv 0 (by simp)
 have hv1 := hv 1 (by simp)
 simp only [List.getElem_cons_zero, List.getElem_cons_succ] at hv0 hv1
 have hvs : vs = #[vs[0]'(by simp at hs; omega), vs[1]'(by simp at hs; omega)] := by
  apply Array.ext
  ·simpa using hs
  ·intro i h1 h2
   have : i < 2 := by simpa using h2
   match i, this with
   | 0, _ => rfl
   | 1, _ => rfl
 generalize vs[0]'(by simp at hs; omega) = v0 at hv0 hvs
 generalize vs[1]'(by simp at hs; omega) = v1 at hv1 hvs
 subst hvs
 clear hv hs
 split at h
 case h_2 => exact h.elim
 case h_1 e sz' d hu hsk ho =>
 split at h
 case h_2 => exact h.elim
 case h_1 n hn =>
 obtain ⟨hb, hq1⟩ := chk_elim h
 clear h
 simp only [Bool.and_eq_true] at hb
 have e1 := Nat.eq_of_beq_eq_true hb.1.1
 have e2 := Nat.eq_of_beq_eq_true hb.1.2
 have hn1 := Nat.le_of_ble_eq_true hb.2
 subst e1
 subst e2
 obtain ⟨i, hi, hisz⟩ := sizeT_info hn
 subst hisz
 obtain ⟨dd, hu', hkind⟩ : ∃ d, P.underlying t' = some d ∧ ((∃ e', d = .slice e') ∨ d = .string) := by
  unfold srcKind at hsk
  split at hsk
  ·rename_i e' hu'; exact ⟨_, hu', .inl ⟨_, rfl⟩⟩
  ·rename_i hu'; exact ⟨_, hu', .inr rfl⟩
  ·cases hsk
 obtain ⟨s, hq2, hsrcs⟩ := appendedP_elim hr hn1 hq1 hv1 hu' hkind
 clear hq1
 obtain ⟨hone, hq3⟩ := onesP_elim hq2
 clear hq2
 obtain ⟨hfit, hK⟩ := needP_elim hq3
 clear hq3
 rw [Seq.len_eq, Seq.len_eq] at hfit
 rw [Seq.len_eq] at hK
 obtain ⟨vals', hsrc, hc'⟩ := hsrcs hone
 cases hv0 with
 | msl _ _ _ _ b cap hl hle hcb =>
 obtain ⟨cs, T', fr, hbk, hsoft, hfit2, r1, r2⟩ := write_row hr (off := off + len) ho hl hn1 hc' (by omega)
 obtain ⟨cs2, T2, fr2, e2, h2⟩ := hcb
 rw [hbk] at e2; cases e2
 have hds : d.toList.length * i.size ≤ cs.size := by
  obtain ⟨cs3, T3, fr3, _, _, e3, _, h3, _⟩ := obj_arr hr hl ho
  rw [hbk] at e3; cases e3; exact h3
 have hroom : len + s.toList.length ≤ cap := by
  rw [← h2] at hds
  have := Nat.le_of_mul_le_mul_right hds (by omega)
  omega
 rw [Nat.add_mul] at hfit2
 rw [run_append_room_all t t' T e i hu hi b (off * i.size) len cap v1 s.toList.length _ hsrc hroom hbk hsoft hfit2]
 rw [← Nat.add_mul]
 have hlt := cells_lt hbk
 exact ⟨_, _, _, _, M, loc, rfl, hK, r1, .msl _ _ _ _ b cap hl (by omega) ⟨_, T', fr, setBlk_same hlt, by rw [storeAll_size]; exact h2⟩, r2⟩
theorem aclear_sound {ts : Array TypeId} {T : TypeId} {xs : List AV} {vs : Array Value} (h : aclear P ts.toList xs H K) (hr : Rel M loc H w) (hv : VRels M w loc xs vs) :
    GoodV P M loc H w K ((Builtin.clear_ ts T vs).run P w) := by
  unfold aclear at h
  split at h
  case h_3 => exact h.elim
  case h_2 t id hts =>
    have hts' : ts = #[t] := by
      obtain ⟨l⟩ := ts
      simp only at hts
      subst hts; rfl
    subst hts'
    obtain ⟨hs, hv⟩ := hv
    have hv0 := hv 0 (by simp)
    simp only [List.getElem_cons_zero] at hv0
    have hvs : vs = #[vs[0]'(by simp at hs; omega)] := by
      apply Array.ext
      · simpa using hs
      · intro i h1 h2
        have : i < 1 := by simpa using h2
        match i, this with
        | 0, _ => rfl
    generalize vs[0]'(by simp at hs; omega) = v0 at hv0 hvs
    subst hvs
    split at h
    case h_2 => exact h.elim
    case h_1 d m hu ho => exact aclearMap_sound ho h hr hv0 ⟨d, hu⟩
  case h_1 t sz id off len hts =>
  have hts' : ts = #[t] := by
    obtain ⟨l⟩ := ts
    simp only at hts
    subst hts; rfl
  subst hts'
  obtain ⟨hs, hv⟩ := hv
  have hv0 := hv 0 (by simp)
  simp only [List.getElem_cons_zero] at hv0
  have hvs : vs = #[vs[0]'(by simp at hs; omega)] := by
    apply Array.ext
    · simpa using hs
    · intro i h1 h2
      have : i < 1 := by simpa using h2
      match i, this with
      | 0, _ => rfl
  generalize vs[0]'(by simp at hs; omega) = v0 at hv0 hvs
  subst hvs
  clear hv hs
  split at h
  case h_2 => exact h.elim
  case h_1 e sz' d hu ho =>
  split at h
  case h_2 => exact h.elim
  case h_1 n z hn hz =>
  obtain ⟨hb, hq1⟩ := chk_elim h
  clear h
  simp only [Bool.and_eq_true] at hb
  have e1 := Nat.eq_of_beq_eq_true hb.1.1.1.1
  have e2 := Nat.eq_of_beq_eq_true hb.1.1.1.2
  have hn1 := Nat.le_of_ble_eq_true hb.1.1.2
  have hzl := Nat.eq_of_beq_eq_true hb.1.2
  have hzo := hb.2
  subst e1
  subst e2
  obtain ⟨hfit, hK⟩ := needP_elim hq1
  rw [Seq.len_eq] at hfit
  obtain ⟨zv, hzrun, rfl, i, hi, hiz⟩ := zeroT_run hz w
  have hzs : zv.cells.size = n := by simpa using hzl
  have pair : VRel M w loc (.tup []) (.tuple #[]) := .tup _ _ rfl (fun i hi => by simp at hi)
  cases hv0 with
  | msl _ _ _ _ b cap hl hle hcb =>
  have hlen : (Seq.raw (List.replicate len (zv.cells.toList.map ofCell))).toList.length = len := by simp [Seq.toList]
  have hzcell : ∀ j (hj : j < zv.cells.size), VRel M w loc (ofCell zv.cells[j]) zv.cells[j]! := by
    intro j hj
    rw [getElem!_pos zv.cells j hj]
    exact vrel_cell _
  have hc' : Cells M w loc (Seq.raw (List.replicate len (zv.cells.toList.map ofCell))).toList.length n (Seq.raw (List.replicate len (zv.cells.toList.map ofCell))).toList (fun _ j => zv.cells[j]!) := by
    refine ⟨rfl, fun i hi => ?_, fun i j hi hj => ?_⟩
    · simp only [Seq.toList, List.getElem_replicate, List.length_map, Array.length_toList]; exact hzs
    · simp only [Seq.toList, List.getElem_replicate, List.length_map, Array.length_toList] at hj
      simp only [Seq.toList, List.getElem_replicate, List.getElem_map, Array.getElem_toList]
      exact hzcell j hj
  obtain ⟨cs, T', fr, hbk, hsoft, hfit2, r1, r2⟩ := write_row hr (off := off) ho hl hn1 hc' (by rw [hlen]; exact hfit)
  rw [hlen] at hfit2 r1 r2
  by_cases h0 : len = 0
  · subst h0
    have e : (Builtin.clear_ #[t] T #[.slice (some ⟨b, off * n, none⟩) 0 cap]).run P w = .ok (.tuple #[]) w := by simp [Builtin.clear_, run_underlying' hu]
    rw [e]
    have hf : flatVals 0 n (fun _ j => zv.cells[j]!) = [] := by simp [flatVals]
    rw [hf] at r1 r2
    simp only [storeAll, setBlk_self hbk] at r1 r2
    exact ⟨_, _, _, _, M, loc, rfl, hK, r1, pair, r2⟩
  · have hdone : True := trivial
    have hflat : flatVals len n (fun _ j => zv.cells[j]!) = (Builtin.zeroCells zv.cells len).toList := by
      simp only [flatVals, Builtin.zeroCells, Array.toList_map, Array.toList_range, hzs]
    rw [hflat] at hfit2 r1 r2
    have hst := run_storeAll P b (off * n) T' fr (Builtin.zeroCells zv.cells len).toList 0 cs w hbk hsoft (by omega) (by
      intro v hv
      simp only [Builtin.zeroCells, Array.toList_map, Array.toList_range, List.mem_map, List.mem_range] at hv
      obtain ⟨k, hk, rfl⟩ := hv
      have hp : 0 < zv.cells.size := by omega
      have hm : k % zv.cells.size < zv.cells.size := Nat.mod_lt _ hp
      refine oneCell_of (M := M) (w := w) (loc := loc) (a := ofCell zv.cells[k % zv.cells.size]) ?_ (hzcell _ hm)
      exact List.all_eq_true.1 hzo _ (List.mem_map.2 ⟨_, Array.getElem_mem_toList hm, rfl⟩))
    simp only [Nat.add_zero] at hst
    have e : (Builtin.clear_ #[t] T #[.slice (some ⟨b, off * n, none⟩) len cap]).run P w = .ok (.tuple #[]) (setBlk w b (.cells (storeAll cs (off * n) (Builtin.zeroCells zv.cells len).toList) T' fr)) := by
      obtain ⟨k, rfl⟩ := Nat.exists_eq_succ_of_ne_zero h0
      simp [Builtin.clear_, run_underlying' hu, hzrun, hst]
    rw [e]
    exact ⟨_, _, _, _, M, loc, rfl, hK, r1, .tup _ _ rfl (fun i hi => by simp at hi), r2⟩
end
end Go.Ab
end

noncomputable section
namespace Go.Ab
section
variable {P : Program} {M : Mem} {loc : Locs} {H : List AObj} {w : World} {K : AV → List AObj → Prop}
theorem two_vals {xs : List AV} {vs : Array Value} {a b : AV} (h : VRels M w loc [a, b] vs) : ∃ u v, vs = #[u, v] ∧ VRel M w loc a u ∧ VRel M w loc b v := by
 obtain ⟨hs, hv⟩ := h
 have hv0 := hv 0 (by simp)
 have hv1 := hv 1 (by simp)
 simp only [List.getElem_cons_zero, List.getElem_cons_succ] at hv0 hv1
 refine ⟨vs[0]'(by simp at hs; omega), vs[1]'(by simp at hs; omega), ?_, hv0, hv1⟩
 apply Array.ext
 ·simpa using hs
 ·intro i h1 h2
  have : i < 2 := by simpa using h2
  match i, this with
  | 0, _ => rfl
  | 1, _ => rfl
theorem one_val {vs : Array Value} {a : AV} (h : VRels M w loc [a] vs) : ∃ u, vs = #[u] ∧ VRel M w loc a u := by
 obtain ⟨hs, hv⟩ := h
 have hv0 := hv 0 (by simp)
 simp only [List.getElem_cons_zero] at hv0
 refine ⟨vs[0]'(by simp at hs; omega), ?_, hv0⟩
 apply Array.ext
 ·simpa using hs
 ·intro i h1 h2
  have : i < 1 := by simpa using h2
  match i, this with
  | 0, _ => rfl
theorem VRels.two {a b : AV} {u v : Value} (h : VRel M w loc a u) (k : VRel M w loc b v) : VRels M w loc [a, b] #[u, v] := by
 refine ⟨rfl, fun i hi => ?_⟩
 have : i < 2 := by simpa using hi
 match i, this with
 | 0, _ => exact h
 | 1, _ => exact k
theorem chk_intro {b : Bool} {A : Prop} (h : b = true) (k : A) : chk b A := by subst h; exact k
theorem needP_intro {p A : Prop} (h : p) (k : A) : needP p A := ⟨h, fun _ => k⟩
theorem onesP_all {s : Seq} {A : Prop} (h : onesP s A) : (∀ x ∈ s.toList, ∀ c ∈ x, oneAV c = true) ∧ A := onesP_elim h
theorem acopyF_acopy {ts : List TypeId} {sz id off len sz' id' off' l : Nat} (h : acopyF P ts sz id off len sz' id' off' l H K) : acopy P ts [.msl sz id off len, .msl sz' id' off' l] H K := by
 unfold acopyF at h
 split at h
 case h_2 => exact h.elim
 case h_1 t t' =>
 split at h
 case h_2 => exact h.elim
 case h_1 e sz1 d sz2 a b hu hk ho ho' =>
 split at h
 case h_2 => exact h.elim
 case h_1 n hn =>
 obtain ⟨hb, h1⟩ := chk_elim h
 obtain ⟨hfit, h2⟩ := needP_elim h1
 obtain ⟨hone, h3⟩ := onesP_all h2
 obtain ⟨hlen, hK⟩ := needP_elim h3
 simp only [Bool.and_eq_true] at hb
 have e1 := Nat.eq_of_beq_eq_true hb.1.1.1.1
 have e2 := Nat.eq_of_beq_eq_true hb.1.1.1.2
 have e4 := Nat.eq_of_beq_eq_true hb.1.2
 have e5 := Nat.eq_of_beq_eq_true hb.2
 have e3 := hb.1.1.2
 subst e1; subst e2; subst e4; subst e5
 rw [Seq.len_eq] at hfit
 have hsub : ((Seq.app a b).sub off' (off' + l)).toList = (a.sub off' (off' + l)).toList := by
  rw [Seq.sub_toList, Seq.sub_toList]
  simp only [Seq.toList]
  rw [List.take_append_of_le_length hfit]
 have hl : ((Seq.app a b).sub off' (off' + l)).len = (a.sub off' (off' + l)).len := by rw [Seq.len_eq, Seq.len_eq, hsub]
 have hc : copied d off ((Seq.app a b).sub off' (off' + l)) = copied d off (a.sub off' (off' + l)) := by simp only [copied, hsub]
 simp only [acopy, hu, hk, ho, hn, appendedP, ho']
 refine chk_intro (by simp [e3]) (chk_intro (by simp) (needP_intro (by rw [Seq.len_eq]; simp only [Seq.toList, List.length_append]; omega) ?_))
 have hraw : ∃ r, (Seq.app a b).sub off' (off' + l) = .raw r := ⟨_, rfl⟩
 obtain ⟨r, hr⟩ := hraw
 rw [hl, hc, hr]
 refine chk_intro ?_ (needP_intro hlen hK)
 rw [List.all_eq_true]
 intro x hx
 rw [List.all_eq_true]
 intro c hc'
 refine hone x ?_ c hc'
 rw [← hsub, hr]; exact hx
theorem acopyM_sound {ts : Array TypeId} {T : TypeId} {xs : List AV} {vs : Array Value} (h : acopyM P ts.toList xs H K) (hr : Rel M loc H w) (hv : VRels M w loc xs vs) :
  GoodV P M loc H w K ((Builtin.copy_ ts T vs).run P w) := by
 unfold acopyM at h
 split at h
 case h_2 => exact acopy_sound (T := T) h hr hv
 case h_1 sz id off len sz' id' off' len' =>
 obtain ⟨v0, v1, rfl, h0, h1⟩ := two_vals (xs := []) hv
 cases h0 with
 | msl _ _ _ _ b cap hl hle hc =>
 cases h1 with
 | msl _ _ _ _ b' cap' hl' hle' hc' =>
 have hmin : min len' len ≤ cap' := by omega
 have h : acopy P ts.toList [.msl sz id off len, .msl sz' id' off' (min len' len)] H K := by
  split at h
  ·exact acopyF_acopy h
  ·exact h
 have hg := acopy_sound (T := T) h hr (VRels.two (VRel.msl sz id off len b cap hl hle hc) (VRel.msl sz' id' off' (min len' len) b' cap' hl' hmin hc'))
 have e : (Builtin.copy_ ts T #[.slice (some ⟨b, off * sz, none⟩) len cap, .slice (some ⟨b', off' * sz', none⟩) len' cap']).run P w =
   (Builtin.copy_ ts T #[.slice (some ⟨b, off * sz, none⟩) len cap, .slice (some ⟨b', off' * sz', none⟩) (min len' len) cap']).run P w := by
  have : Nat.min (min len' len) len = Nat.min len' len := by
   show min (min len' len) len = min len' len
   omega
  unfold Builtin.copy_
  simp only [Builtin.lenOf, pure_bind, Builtin.firstCells]
  congr 1
  cases ts[0]? with
  | none => rfl
  | some t => simp [this]
 rw [e]; exact hg
theorem acap_sound {ts : Array TypeId} {T : TypeId} {xs : List AV} {vs : Array Value} (h : acap P ts.toList xs H K) (hr : Rel M loc H w) (hv : VRels M w loc xs vs) :
    GoodV P M loc H w K ((Builtin.cap_ ts T vs).run P w) := by
  unfold acap at h
  split at h
  case h_2 => exact h.elim
  case h_1 t sz id off len hts =>
  have hts' : ts = #[t] := by
    obtain ⟨l⟩ := ts
    simp only at hts
    subst hts; rfl
  subst hts'
  obtain ⟨v0, rfl, h0⟩ := one_val hv
  split at h
  case h_2 => exact h.elim
  case h_1 e sz' s hu ho =>
  obtain ⟨hb, hk⟩ := chk_elim h
  rw [Bool.and_eq_true] at hb
  have e1 := Nat.eq_of_beq_eq_true hb.1
  have hs1 := Nat.le_of_ble_eq_true hb.2
  subst e1
  cases h0 with
  | msl _ _ _ _ b cap hl hle hc =>
  have hro := hr.objs id _ ho
  obtain ⟨b', vs', T', fr', g1, g2, g3, g4, g5, g6, g7, g8⟩ := hro
  rw [hl] at g1; cases g1
  obtain ⟨cs, Tc, frc, c1, c2⟩ := hc
  rw [g4] at c1; cases c1
  have hcap : s.toList.length ≤ off + cap := by
    rw [← c2] at g6
    exact Nat.le_of_mul_le_mul_right g6 (show 0 < sz by omega)
  have hK := hk cap ⟨hle, by rw [Seq.len_eq]; exact hcap⟩
  rw [Seq.len_eq] at hK
  have hrun : (Builtin.cap_ #[t] T #[.slice (some ⟨b, off * sz, none⟩) len cap]).run P w = .ok (.int .i64 cap) w := by
    simp [Builtin.cap_, run_underlying' hu, goInt]
  rw [hrun]
  have hlen : (s.app (bads sz (off + cap - s.toList.length))).toList.length = off + cap := by
    simp [Seq.toList, bads]; omega
  obtain ⟨r1, r2⟩ := hr.respell id (.arr sz s) (.arr sz (s.app (bads sz (off + cap - s.toList.length)))) ho (by intro h; cases h) (by intro h; cases h) (fun _ => by
    rw [hl]
    refine ⟨b, vs', T', fr', rfl, g2, g3, g4, g5, by rw [hlen, c2]; exact Nat.le_refl _, fun i hi => ?_, fun i j hi hj => ?_⟩
    · simp only [Seq.toList, bads] at hi ⊢
      by_cases hi2 : i < s.toList.length
      · rw [List.getElem_append_left hi2]; exact g7 i hi2
      · rw [List.getElem_append_right (by omega)]; simp
    · simp only [Seq.toList, bads] at hi hj ⊢
      by_cases hi2 : i < s.toList.length
      · rw [List.getElem_append_left hi2] at hj
        obtain ⟨v, q1, q2⟩ := g8 i j hi2 hj
        refine ⟨v, q1, ?_⟩
        simp only [List.getElem_append_left hi2]
        exact q2
      · rw [List.getElem_append_right (by omega)] at hj
        have hj2 : j < sz := by simpa using hj
        have hi3 : i < off + cap := by rw [← hlen]; exact hi
        have h3 := Nat.mul_le_mul_right sz (show i + 1 ≤ off + cap from hi3)
        rw [Nat.succ_mul] at h3
        refine ⟨vs'[i * sz + j]'(by omega), Array.getElem?_eq_getElem (by omega), ?_⟩
        simp only [List.getElem_append_right (show s.toList.length ≤ i by omega), List.getElem_replicate]
        exact .bad _)
  obtain ⟨r3, r4⟩ := r1.ghost (.csz id sz (off + cap)) (by
    have hlt : id < (H.set id (.arr sz (s.app (bads sz (off + cap - s.toList.length))))).length := by
      rw [List.length_set]; exact (List.getElem?_eq_some_iff.1 ho).1
    refine ⟨rfl, b, vs', T', fr', ?_, g4, c2.symm⟩
    simp only [locSet]; rw [if_neg (Nat.ne_of_lt hlt)]; exact hl)
  exact ⟨_, _, _, _, _, _, rfl, hK, r3, .int _ _, r2.trans r4⟩
theorem capOf_spec (hr : Rel M loc H w) {sz id c : Nat} (h : capOf sz id H = some c) : ∃ b vs T fr, loc id = some (.blk b) ∧ w.heap[b]? = some (.cells vs T fr) ∧ vs.size = c * sz := by
 have key : ∀ (L : List AObj), (∀ o ∈ L, ∃ i : Nat, H[i]? = some o) → capOf sz id L = some c → ∃ b vs T fr, loc id = some (.blk b) ∧ w.heap[b]? = some (.cells vs T fr) ∧ vs.size = c * sz := by
  intro L
  induction L with
  | nil => intro _ h; cases h
  | cons o L ih =>
   intro hm h
   have hm' : ∀ o ∈ L, ∃ i : Nat, H[i]? = some o := fun o ho => hm o (List.mem_cons_of_mem _ ho)
   cases o with
   | csz id' sz' c' =>
    simp only [capOf] at h
    cases hq : (Nat.beq id' id && Nat.beq sz' sz) with
    | true =>
     rw [hq] at h
     simp only [cond_true, Option.some.injEq] at h
     have h9 := h
     clear h
     rw [Bool.and_eq_true] at hq
     have e1 := Nat.eq_of_beq_eq_true hq.1
     have e2 := Nat.eq_of_beq_eq_true hq.2
     subst e1 e2 h9
     obtain ⟨i, hi⟩ := hm _ (List.mem_cons_self ..)
     exact (hr.objs i _ hi).2
    | false => rw [hq] at h; exact ih hm' h
   | _ => exact ih hm' h
 exact key H (fun o ho => List.getElem?_of_mem ho) h
theorem aappendZ_sound {ts : Array TypeId} {T : TypeId} {xs : List AV} {vs : Array Value} (h : aappendZ P ts.toList xs H K) (hr : Rel M loc H w) (hv : VRels M w loc xs vs) :
  GoodV P M loc H w K ((Builtin.append_ ts T vs).run P w) := by
 unfold aappendZ at h
 split at h
 case h_2 => exact h.elim
 case h_1 t t' sz id off n kq m hts =>
 have hts' : ts = #[t, t'] := extract2 _ _ _ hts
 subst hts'
 obtain ⟨v0, v1, rfl, h0, h1⟩ := two_vals (xs := []) hv
 split at h
 case h_2 => exact h.elim
 case h_1 e kn sz' s c hu hu' ho hcap =>
 split at h
 case h_2 => exact h.elim
 case h_1 k by_ z hk hby hz =>
 obtain ⟨hb, h9⟩ := chk_elim h
 simp only [Bool.and_eq_true] at hb
 have hk1 := Nat.le_of_ble_eq_true hb.1.1.1.1
 have e1 := Nat.eq_of_beq_eq_true hb.1.1.1.2
 have e2 := Nat.eq_of_beq_eq_true hb.1.1.2
 have hzl := Nat.eq_of_beq_eq_true hb.1.2
 have hby1 := Nat.le_of_ble_eq_true hb.2
 subst e1
 subst e2
 obtain ⟨⟨hm0, hoff, hgrow, hfit⟩, hK⟩ := needP_elim h9
 rw [Seq.len_eq] at hoff
 cases h1
 obtain ⟨mm, rfl⟩ := Int.eq_ofNat_of_zero_le (Int.le_of_lt hm0)
 rw [Int.toNat_natCast] at hgrow hfit hK
 have hmm : 0 < mm := by omega
 obtain ⟨i, hi, hisz⟩ := sizeT_info hk
 obtain ⟨i2, hi2, hiby⟩ := bytesT_info hby
 rw [hi] at hi2; cases hi2
 subst hisz
 subst hiby
 obtain ⟨zv, hzrun, rfl, i3, hi3, hiz⟩ := zeroT_run hz w
 rw [hi] at hi3; cases hi3
 have hzs : zv.cells.size = i.size := by simpa using hzl
 cases h0 with
 | msl _ _ _ _ b cap hl hle hc =>
 obtain ⟨b2, vs2, T2, fr2, k1, k2, k3⟩ := capOf_spec hr hcap
 rw [hl] at k1; cases k1
 obtain ⟨cs, Tc, frc, c1, c2⟩ := hc
 rw [k2] at c1; cases c1
 have hce : off + cap = c := by
  rw [k3] at c2
  exact Nat.eq_of_mul_eq_mul_right (by omega) c2
 have hcn : cap < n + mm := by omega
 obtain ⟨cs', T', fr', q1, q2, q3, q4, q5, q6, q7⟩ := obj_arr hr hl ho
 rw [k2] at q3; cases q3
 have hlsub : (s.sub off (off + n)).toList.length = n := by rw [Seq.sub_toList]; simp; omega
 have hget : ∀ j (hj : j < (s.sub off (off + n)).toList.length), ∃ hj' : off + j < s.toList.length, (s.sub off (off + n)).toList[j] = s.toList[off + j] := by
  intro j hj
  have hj2 : off + j < s.toList.length := by omega
  refine ⟨hj2, ?_⟩
  have e5 : (s.sub off (off + n)).toList[j]? = some s.toList[off + j] := by
   rw [Seq.sub_toList, List.getElem?_drop, List.getElem?_take, if_pos (by omega), List.getElem?_eq_getElem hj2]
  rw [List.getElem?_eq_getElem hj] at e5
  exact Option.some.inj e5
 have hcl : Cells M w loc n i.size (s.sub off (off + n)).toList (fun a j => vs2.getD ((off + a) * i.size + j) undef) := by
  refine ⟨hlsub, fun a ha => ?_, fun a j ha hj => ?_⟩
  ·obtain ⟨h1, h2⟩ := hget a ha
   rw [h2]; exact q6 _ h1
  ·obtain ⟨h1, h2⟩ := hget a ha
   obtain ⟨v, w1, w2⟩ := q7 (off + a) j h1 (by rw [← h2]; exact hj)
   simp only [h2]
   rw [Array.getD_eq_getD_getElem?, w1]
   exact w2
 have hzc : Cells M w loc mm i.size (Seq.raw (List.replicate mm (zv.cells.toList.map ofCell))).toList (fun _ j => zv.cells[j]!) := by
  refine ⟨by simp [Seq.toList], fun a ha => ?_, fun a j ha hj => ?_⟩
  ·simp only [Seq.toList, List.getElem_replicate, List.length_map, Array.length_toList]; exact hzs
  ·simp only [Seq.toList, List.getElem_replicate, List.length_map, Array.length_toList] at hj
   simp only [Seq.toList, List.getElem_replicate, List.getElem_map, Array.getElem_toList]
   rw [getElem!_pos zv.cells j hj]
   exact vrel_cell _
 have hnc : n * i.size = (flatVals n i.size (fun a j => vs2.getD ((off + a) * i.size + j) undef)).length := (flatVals_length _ _ _).symm
 have hcellsget : ∀ j u, (flatVals n i.size (fun a j => vs2.getD ((off + a) * i.size + j) undef))[j]? = some u → w.cell? ⟨b, off * i.size + j, none⟩ = some u := by
  intro j u hj
  have hjl : j < n * i.size := by rw [hnc]; exact (List.getElem?_eq_some_iff.1 hj).1
  unfold flatVals at hj
  rw [List.getElem?_map, List.getElem?_range hjl] at hj
  simp only [Option.map_some, Option.some.injEq] at hj
  have hj4 : j / i.size < n := Nat.div_lt_of_lt_mul (by rwa [Nat.mul_comm] at hjl)
  have e3 : (off + j / i.size) * i.size + j % i.size = off * i.size + j := by
   rw [Nat.add_mul, Nat.add_assoc]; congr 1
   rw [Nat.mul_comm]; exact Nat.div_add_mod j i.size
  rw [e3] at hj
  have hle2 : (off + n) * i.size ≤ s.toList.length * i.size := Nat.mul_le_mul_right _ hoff
  rw [Nat.add_mul] at hle2
  have hlt : off * i.size + j < vs2.size := by omega
  rw [cell_eq k2, Array.getElem?_eq_getElem hlt]
  rw [← hj]
  simp [Array.getD, hlt]
 have hold : (Builtin.firstCells i.size n (.slice (some ⟨b, off * i.size, none⟩) n cap)).run P w.drew = .ok (flatVals n i.size (fun a j => vs2.getD ((off + a) * i.size + j) undef)).toArray w.drew :=
  run_firstCells_some w.drew i.size n ⟨b, off * i.size, none⟩ n cap _ (flatVals_length _ _ _) (fun j u hj => by
   rw [Addr.add_lit]; exact hcellsget j u hj)
 have hbig : ((n + mm : Nat) : Int) ≤ 9223372036854775807 := by
  have := Nat.mul_le_mul_left (n + mm) hby1
  omega
 have hmi : mm * i.bytes ≤ (n + mm) * i.bytes := Nat.mul_le_mul_right _ (by omega)
 rw [Lib.run_append_grow_zeros w t t' T e i zv kq kn hu hu' hi hiz (some ⟨b, off * i.size, none⟩) n cap _ hold mm hmm (by omega) hcn hbig (by omega) (growslice_fits hcn (by omega))]
 have hsame := drew_same w
 have hr' := (hr.same hsame).1
 have hkd := hsame.keeps M loc
 have hca := (hcl.app hzc).keeps hkd
 have hcapge := Question.cut_ge (w := w) (n := n + mm) (o := cap) (e := e)
 have hzflat : flatVals mm i.size (fun _ j => zv.cells[j]!) = (Builtin.zeroCells zv.cells mm).toList := by
  simp only [flatVals, Builtin.zeroCells, Array.toList_map, Array.toList_range, hzs]
 have hzcs : ∀ q, (Builtin.zeroCells zv.cells q).size = q * i.size := by intro q; simp [Builtin.zeroCells, hzs]
 refine GoodV.same_first hsame hr ?_
 refine new_arr (w := w.drew) (T := e) hr' (by omega) (s := (s.sub off (off + n)).app (.raw (List.replicate mm (zv.cells.toList.map ofCell)))) (n := n + mm) hca _ hcapge ?_ ?_ hK
 ·simp only [Array.size_append, List.size_toArray, flatVals_length, hzcs]
  rw [← Nat.add_mul, ← Nat.add_mul]
  congr 1
  show n + mm + (grownCap w (n + mm) cap e - (n + mm)) = grownCap w (n + mm) cap e
  omega
 ·have hgc := grow_cells (n := n) (sz := i.size) (fun a j => vs2.getD ((off + a) * i.size + j) undef) mm (fun _ j => zv.cells[j]!) (by omega) (Builtin.zeroCells zv.cells (grownCap w (n + mm) cap e - (n + mm)))
  rw [hzflat] at hgc
  have e9 : ((flatVals n i.size (fun a j => vs2.getD ((off + a) * i.size + j) undef)) ++ (Builtin.zeroCells zv.cells mm).toList).toArray = (flatVals n i.size (fun a j => vs2.getD ((off + a) * i.size + j) undef)).toArray ++ Builtin.zeroCells zv.cells mm := by
   apply Array.ext'; simp
  rw [e9] at hgc
  exact hgc
theorem aextern_sound {g : FuncId} {xs : List AV} {vs : Array Value} (h : aextern P g xs H K) (hr : Rel M loc H w) (hv : VRels M w loc xs vs) :
  ∃ r : Result Value, (callFunc g vs).run P w = r.andThen (fun v w' => .ok (.value v) w') ∧ GoodV P M loc H w K r := by
 unfold aextern at h
 split at h
 case h_3 => exact h.elim
 case h_2 t id =>
  obtain ⟨hs, hv⟩ := hv
  obtain ⟨v0, rfl⟩ : ∃ v0, vs = #[v0] := by
   obtain ⟨l⟩ := vs
   match l, hs with
   | [v0], _ => exact ⟨v0, rfl⟩
  have h0 := hv 0 (by simp)
  simp only [List.getElem_cons_zero, List.getElem_toArray] at h0
  cases h0 with
  | iface _ _ u hu =>
  cases hu with
  | map _ b hl =>
  split at h
  case h_2 => exact h.elim
  case h_1 m ho =>
  obtain ⟨⟨fn, hf, hname, hbody, hnext, hfind⟩, hK⟩ := needP_elim h
  refine ⟨_, run_callFunc_extern hf hname hbody hnext hfind _ w, ?_⟩
  have hobj := hr.objs id _ ho
  rw [hl] at hobj
  obtain ⟨b', ents, clock, e1, hb1, hb2, h3, hbn, h4, h5⟩ := hobj
  cases e1
  have e : (Extern.MapsClone.clone #[.iface t (.map (some b))]).run P w = .ok (.iface t (.map (some w.heap.size))) (w.alloc (.map ents clock)) := by
   have e : Extern.MapsClone.clone #[.iface t (.map (some b))] = (getObj b >>= fun o => match o with
     | .map entries clock => (newObj (.map entries clock) >>= fun n => pure (.iface t (.map (some n))))
     | _ => stuck "maps.clone: a map expected") := rfl
   rw [e]
   simp [getObj, Sem.run, h3, run_newObj]
  rw [e]
  have hk := keeps_alloc hr (.map ents clock) 0 (some (.blk w.heap.size))
  have hn := hr.new (.map ents clock) 0 (fun h => absurd h (Nat.lt_irrefl 0)) (.blk w.heap.size) (.mp m) (.inr rfl)
   ⟨w.heap.size, ents, clock, rfl, hr.base, by simp [Mem.grow], heap_alloc_new _ _, hbn, h4, fun i hi => ⟨(h5 i hi).1, (h5 i hi).2.keeps hk⟩⟩
  exact ⟨_, _, _, _, _, _, rfl, hK, hn.1, .iface _ _ _ (.map _ _ (by simp [locSet])), hn.2⟩
 case h_1 szv s tip sz id off len =>
 obtain ⟨v0, v1, rfl, h0, h1⟩ := two_vals (xs := []) hv
 obtain ⟨hb, h⟩ := chk_elim h
 rw [Bool.and_eq_true, Bool.and_eq_true] at hb
 obtain ⟨⟨hsm, hsz⟩, hszv⟩ := hb
 have hsz1 : sz ≠ 1 := by
  intro e; subst e; simp at hsz
 obtain ⟨⟨fn, t, e, rs, hf, hname, hbody, hnext, hfind, hu, hsize⟩, hK⟩ := needP_elim h
 refine ⟨_, run_callFunc_extern hf hname hbody hnext hfind _ w, ?_⟩
 have fin : (Extern.SlicesOverlaps.overlaps #[t, t] rs #[v0, v1]).run P w = .ok (.bool false) w := by
  unfold sameSz at hsm
  split at hsm
  case h_2 => cases hsm
  case h_1 sz' d ho =>
  rw [Bool.and_eq_true] at hsm
  have hsm1 := Nat.eq_of_beq_eq_true hsm.1
  have hsm2 := Nat.le_of_ble_eq_true hsm.2
  subst hsm1
  cases h1 with
  | msl _ _ _ _ b cap hl hle hc =>
  obtain ⟨cs, T, fr, hd1, hd2, hbk, hsoftE, hds, hdz, hdc⟩ := obj_arr hr hl ho
  have hbig := hc
  obtain ⟨cs2, T2, fr2, e2, hc2⟩ := hc
  rw [hbk] at e2; cases e2
  have hzr : ∀ w : World, (Go.sizeOf e).run P w = .ok sz w := fun w => run_sizeOf' hsize w
  have hcoll : ∀ (a : Option Addr) (la ca : Nat), (∀ a', a = some a' → la ≠ 0 → a'.block ≠ b ∧ ∃ csA TA frA, w.heap[a'.block]? = some (.cells csA TA frA) ∧ csA.size ≠ 0) →
    (Extern.SlicesOverlaps.overlaps #[t, t] rs #[.slice a la ca, .slice (some ⟨b, off * sz, none⟩) len cap]).run P w = .ok (.bool false) w := by
   intro a la ca ha
   change Sem.run P (α := Value) (do
    let some t := (#[t, t] : Array TypeId)[0]? | stuck "slices.overlaps: no parameter types"
    let .slice elem ← underlying t | stuck "slices.overlaps: slice type expected"
    let size ← sizeOf elem
    match a, (some ⟨b, off * sz, none⟩ : Option Addr) with
    | some a, some b =>
     if la = 0 ∨ len = 0 ∨ size = 0 then pure (Value.bool false)
     else if a.block != b.block && (← frozen a) && (← frozen b) then unsupported .addressObserved
     else do
      if a.block != b.block then do
       noView a; noView b
       if ← mayBeOne a b then return Value.bool ((← choose (.extern "sameAddr.stringBytes" 2)) == 1)
      pure (Value.bool (a.block == b.block && a.off < b.off + len * size && b.off < a.off + la * size))
    | _, _ => pure (Value.bool false)) w = _
   cases a with
   | none => simp [run_underlying' hu, hzr]
   | some a =>
    by_cases hz : la = 0 ∨ len = 0 ∨ sz = 0
    ·simp [run_underlying' hu, hzr, hz]
    ·have hla : la ≠ 0 := fun e => hz (.inl e)
     have hlb : len ≠ 0 := fun e => hz (.inr (.inl e))
     obtain ⟨hne, csA, TA, frA, hA, hAs⟩ := ha a rfl hla
     have hb1 : off * sz < cs.size := by
      have := Nat.mul_le_mul_right sz (show off + 1 ≤ off + cap by omega)
      rw [hc2, Nat.succ_mul] at this
      omega
     have hfb : w.frozen? ⟨b, off * sz, none⟩ = false := by
      have := hsoftE.1 (off * sz) hb1
      simp only [World.frozen?, hbk]
      simpa using this
     have hfe : w.frozen? ⟨b, cs.size, none⟩ = false := by
      have := hsoftE.2 hsz1
      simp only [World.frozen?, hbk]
      simpa using this
     have hnb : (a.block != b) = true := by simpa using hne
     have hnb' : (a.block == b) = false := by simpa using hne
     have hsA : w.shape? a.block = some (TA, csA.size) := by simp [World.shape?, hA]
     have hsB : w.shape? b = some (T, cs.size) := by simp [World.shape?, hbk]
     have hA0 : ∃ k, csA.size = k + 1 := ⟨csA.size - 1, by omega⟩
     obtain ⟨kA, hkA⟩ := hA0
     have hB0 : ∃ k, cs.size = k + 1 := ⟨cs.size - 1, by omega⟩
     obtain ⟨kB, hkB⟩ := hB0
     rw [hkA] at hsA
     rw [hkB] at hsB hfe
     cases hfa : w.frozen? a <;> cases hfae : w.frozen? ⟨a.block, kA + 1, none⟩ <;>
      simp [run_underlying' hu, hzr, hz, hnb, hnb', frozen, noView, viewAt, mayBeOne, stringish, shape, Sem.run, hsA, hsB, hfa, hfb, hfe, hfae, hne]
  cases h0 with
  | slnil _ _ _ h1 h2 => exact hcoll none 0 0 (fun a' h => by cases h)
  | slz _ _ _ ad h1 hn h2 => exact hcoll (some ad) 0 0 (fun a' h h0 => absurd rfl h0)
  | sl _ _ _ b' o cap' vals hz h1 h2 hcap hnil hfull htok =>
   refine hcoll _ _ _ (fun a' h h0 => ?_)
   cases h
   have hl0 : 0 < s.toList.length := by omega
   have hszv2 : 0 < szv := by
    rw [Bool.or_eq_true] at hszv
    rcases hszv with h | h
    ·have := Nat.eq_of_beq_eq_true h
     omega
    ·cases s with
     | raw l => cases l with
      | nil => simp [Seq.toList] at hl0
      | cons _ _ => cases h
     | _ => cases h
   obtain ⟨i1, i2⟩ := h1 0 0 hl0 hszv2
   have hne : b' ≠ b := by
    rintro rfl
    rcases i2 with q | q <;> omega
   refine ⟨hne, ?_⟩
   unfold World.cell? at i1
   split at i1
   case h_2 => cases i1
   case h_1 csA TA frA hA =>
    refine ⟨csA, TA, frA, hA, fun h0 => ?_⟩
    simp only [Option.isSome_none, Bool.false_eq_true, if_false] at i1
    have := (Array.getElem?_eq_some_iff.1 i1).1
    omega
 rw [fin]
 exact GoodV.pure hr (.bool false) hK
end
end Go.Ab
end
