/- own texts -/
import Derived.Test.YtkmolhmdikjmpaaGreatA1
import Derived.Maps.RangeRun
set_option linter.unusedVariables false
set_option linter.unusedSimpArgs false
set_option linter.unusedSectionVars false
set_option maxRecDepth 100000
set_option maxHeartbeats 4000000
noncomputable section
namespace Go.Ab
section
variable {P : Program} {M : Mem} {loc : Locs} {H : List AObj} {w : World} {K : AV → List AObj → Prop}
theorem amrange_sound {t kt et : TypeId} {id : Nat} {m : MM} {v : Value} (hu : P.underlying t = some (.map kt et)) (ho : H[id]? = some (.mp m))
    (h : ∀ z : List Nat × Nat, z.1.Nodup ∧ z.1.length = m.len → K (.ptr H.length 0) (H.set id (.mpv m z) ++ [.mit id z []])) (hr : Rel M loc H w) (hv : VRel M w loc (.map id) v) :
    GoodV P M loc H w K ((Instr.range t v).run P w) := by
  cases hv with
  | map _ b hl =>
  have hobj := hr.objs id _ ho
  rw [hl] at hobj
  obtain ⟨b', ents, clock, e1, hb1, hb2, h3, hbn, h4, h5⟩ := hobj
  cases e1
  have e : (Instr.range t (.map (some b))).run P w = .ok (.pointer (some ⟨w.heap.size, 0, none⟩)) (w.alloc (.mapIter (some b) clock #[] clock)) := by
    simp [Instr.range, run_underlying' hu, getObj, Sem.run, h3, run_newObj]
  rw [e]
  have hid : id < H.length := hr.lt hl
  obtain ⟨r1, s1⟩ := hr.respell id (.mp m) (.mpv m (ents.toList.map (·.born), clock)) ho (by intro h; cases h) (by intro h; cases h) (fun hO => by
    obtain ⟨b2, ents2, clock2, q1, q2, q3, q4, q5, q6, q7⟩ := hO
    have hbb : b2 = b := by rw [hl] at q1; cases q1; rfl
    subst hbb
    rw [h3] at q4; cases q4
    exact ⟨b2, ents, clock, q1, q2, q3, h3, ⟨hbn, rfl, rfl⟩, h4, h5⟩)
  have hn := r1.new (.mapIter (some b) clock #[] clock) 0 (fun h => absurd h (Nat.lt_irrefl 0)) (.blk w.heap.size) (.mit id (ents.toList.map (·.born), clock) []) (.inr rfl)
    ⟨w.heap.size, b, #[], rfl, hr.base, by simp [Mem.grow], heap_alloc_new _ _, by simp only [locSet, List.length_set]; rw [if_neg (Nat.ne_of_lt hid)]; exact hl, rfl⟩
  rw [List.length_set] at hn
  refine ⟨_, _, _, _, _, _, rfl, h (ents.toList.map (·.born), clock) ⟨hbn.1, by simp [h4, MM.len_eq]⟩, hn.1, .ptr _ _ _ (by simp [locSet]), StepN.trans s1 hn.2 (by simp)⟩
theorem entP_elim {M' : Mem} {w' : World} {loc' : Locs} : ∀ {m : MM} {i : Nat} {K : ByteArray → AV → Prop}, entP m i K → (hi : i < m.toList.length) → K m.toList[i].1 m.toList[i].2
 | .nil, i, K, h, hi => by simp [MM.toList] at hi
 | .typed E l, i, K, h, hi => by
  have hi' : i < l.length := by simpa [MM.toList] using hi
  have := h l[i].1 l[i].2 (by rw [List.getElem?_eq_getElem hi'])
  have := E.ok _ _ this
  simpa [MM.toList] using this
 | .put _ _ _, i, K, h, hi => h.elim
theorem seen_mem {l : List Nat} {z : List Nat} {ps : List Nat} (h : l.map some = ps.reverse.map (fun i => z[i]?)) (x : Nat) : x ∈ l ↔ ∃ i ∈ ps, z[i]? = some x := by
 have e : x ∈ l ↔ some x ∈ l.map some := by simp
 rw [e, h, List.mem_map]
 constructor
 ·rintro ⟨i, hi, he⟩; exact ⟨i, by simpa using hi, he⟩
 ·rintro ⟨i, hi, he⟩; exact ⟨i, by simpa using hi, he⟩
theorem aentry_sound {x : AV} {v : Value} (h : aentry x H K) (hr : Rel M loc H w) (hv : VRel M w loc x v) : GoodV P M loc H w K ((Instr.entry v).run P w) := by
 unfold aentry at h
 split at h
 case h_2 => exact h.elim
 case h_1 id off =>
 split at h
 case h_2 => exact h.elim
 case h_1 mid z i ps ho =>
 split at h
 case h_2 => exact h.elim
 case h_1 m z' hm =>
 obtain ⟨hb, h⟩ := chk_elim h
 have e0 := Nat.eq_of_beq_eq_true hb
 subst e0
 obtain ⟨⟨hz, hi⟩, h⟩ := h
 subst hz
 have hE := h ⟨rfl, hi⟩
 cases hv with
 | ptr _ _ b hl =>
 have hobj := hr.objs id _ ho
 rw [hl] at hobj
 obtain ⟨b', mb, seen, e1, h1, h2, h3, h4, h5⟩ := hobj
 cases e1
 have hmo := hr.objs mid _ hm
 rw [h4] at hmo
 obtain ⟨mb', ents, clock, e2, k1, k2, k3, ⟨kb, kz, kc⟩, k4, k5⟩ := hmo
 cases e2
 have hml : i < m.toList.length := by rw [MM.len_eq] at hi; exact hi
 have hi' : i < ents.size := by omega
 have hborn : z'.1[i]? = some ents[i].born := by
  rw [← kz, List.getElem?_map, Array.getElem?_toList, Array.getElem?_eq_getElem hi']; rfl
 obtain ⟨seen0, rfl⟩ : ∃ seen0 : Array Nat, seen = seen0.push ents[i].born := by
  rw [List.reverse_cons, List.map_append, List.map_cons, List.map_nil, hborn] at h5
  rcases List.eq_nil_or_concat seen.toList with e | ⟨l0, y, e⟩
  ·rw [e] at h5
   have := congrArg List.length h5
   simp at this
  ·rw [e] at h5
   have h6 : l0.map some ++ [some y] = ps.reverse.map (fun i => z'.1[i]?) ++ [some ents[i].born] := by simpa using h5
   have h7 := (List.append_inj' h6 rfl).2
   have h8 : y = ents[i].born := by simpa using h7
   subst h8
   refine ⟨l0.toArray, ?_⟩
   apply Array.ext'
   rw [e]; simp
 have hrun := run_entry_at (P := P) w b mb z'.2 seen0 ents clock ents[i] (by rw [kc]; exact h3) k3 (by simp) kb.1
 rw [hrun]
 obtain ⟨hkey, hval⟩ := k5 i hml
 refine GoodV.pure hr (.tup _ _ rfl (fun q hq => ?_)) (entP_elim (M' := M) (w' := w) (loc' := loc) hE hml)
 match q, hq with
 | 0, _ => simp only [List.getElem_cons_zero, List.getElem_toArray, hkey]; exact .str _
 | 1, _ => exact hval
theorem amnext_sound {T : TypeId} {id off mid : Nat} {z z' : List Nat × Nat} {ps : List Nat} {m : MM} {v : Value} (ho : H[id]? = some (.mit mid z ps)) (hm : H[mid]? = some (.mpv m z'))
  (h : chk (Nat.beq off 0) (needP (z' = z) (((∀ i, i < m.len → i ∈ ps) → K (.tup [.bool false]) H) ∧
     ∀ i, i < m.len → (i ∈ ps → False) → entP m i fun k v => K (.tup [.bool true, .str k, v]) (H.set id (.mit mid z (i :: ps))))))
  (hr : Rel M loc H w) (hv : VRel M w loc (.ptr id off) v) : GoodV P M loc H w K ((Instr.next v false T).run P w) := by
 obtain ⟨hb, h⟩ := chk_elim h
 have e0 := Nat.eq_of_beq_eq_true hb
 subst e0
 obtain ⟨hz, h⟩ := h
 subst hz
 obtain ⟨hA, hB⟩ := h rfl
 cases hv with
 | ptr _ _ b hl =>
 have hobj := hr.objs id _ ho
 rw [hl] at hobj
 obtain ⟨b', mb, seen, e1, h1, h2, h3, h4, h5s⟩ := hobj
 cases e1
 have h5 := seen_mem h5s
 have hmo := hr.objs mid _ hm
 rw [h4] at hmo
 obtain ⟨mb', ents, clock, e2, k1, k2, k3, ⟨kb, kz, kc⟩, k4, k5⟩ := hmo
 cases e2
 have hborn : ∀ i (hi : i < ents.size), z'.1[i]? = some ents[i].born := by
  intro i hi
  rw [← kz, List.getElem?_map, Array.getElem?_toList, Array.getElem?_eq_getElem hi]; rfl
 have hnd : z'.1.Nodup := by rw [← kz]; exact kb.1
 rcases run_next_at (P := P) w T b mb z'.2 z'.2 seen ents clock h3 k3 (fun x hx => by rw [← kc]; exact kb.2 x hx) (Nat.le_refl _) with ⟨h0, hrun⟩ | ⟨e, he, w1, hw1, hrun⟩
 ·rw [hrun]
  refine GoodV.pure hr (.tup _ _ rfl (fun i hi => ?_)) (hA fun i hi => ?_)
  ·match i, hi with
   | 0, _ => exact .bool _
  ·have hi' : i < ents.size := by rw [MM.len_eq] at hi; omega
   have hin : ents[i].born ∈ seen.toList := by
    apply Classical.byContradiction
    intro hn
    have : ents[i] ∈ (leftOf ents seen) := by
     unfold leftOf
     rw [Array.mem_filter]
     refine ⟨by simp, ?_⟩
     have hc : seen.contains ents[i].born = false := by
      rw [Bool.eq_false_iff]; intro hc; exact hn (by simpa using hc)
     rw [hc]; rfl
    have := Array.size_pos_of_mem this
    omega
   obtain ⟨j, hj, hjb⟩ := (h5 _).1 hin
   have hjl : j < z'.1.length := (List.getElem?_eq_some_iff.1 hjb).1
   have hil : i < z'.1.length := (List.getElem?_eq_some_iff.1 (hborn i hi')).1
   have e1 := (List.getElem?_eq_some_iff.1 hjb).2
   have e2 := (List.getElem?_eq_some_iff.1 (hborn i hi')).2
   have : j = i := by
    rcases Nat.lt_trichotomy j i with hlt | he | hlt
    ·exact absurd (e1.trans e2.symm) (List.pairwise_iff_getElem.1 hnd j i hjl hil hlt)
    ·exact he
    ·exact absurd (e2.trans e1.symm) (List.pairwise_iff_getElem.1 hnd i j hil hjl hlt)
   subst this; exact hj
 ·rw [hrun]
  have hsm : SameMem w w1 := by rcases hw1 with rfl | rfl <;> exact ⟨rfl, rfl, rfl, rfl⟩
  obtain ⟨rs, ss⟩ := hr.same hsm
  have hmem : e ∈ leftOf ents seen := by simpa using he
  unfold leftOf at hmem
  rw [Array.mem_filter] at hmem
  obtain ⟨hm1, hm2⟩ := hmem
  obtain ⟨i, hi, rfl⟩ := Array.mem_iff_getElem.1 hm1
  have hns : ents[i].born ∉ seen.toList := by
   intro hc
   have hc2 : seen.contains ents[i].born = true := by simpa using hc
   rw [hc2] at hm2; cases hm2
  have hml : i < m.toList.length := by omega
  have hK := entP_elim (M' := M) (w' := w) (loc' := loc) (hB i (by rw [MM.len_eq]; exact hml) (fun hp => hns ((h5 _).2 ⟨i, hp, hborn i hi⟩))) hml
  obtain ⟨hkey, hval⟩ := k5 i hml
  have hw := rs.write id b (.mit mid z' ps) (.mit mid z' (i :: ps)) (.mapIter (some mb) z'.2 (seen.push ents[i].born) clock) ho (by intro h; cases h) hl
   (fun cs T fr hc => by rw [hsm.heap, h3] at hc; cases hc) ⟨b, mb, seen.push ents[i].born, rfl, h1, h2, by rw [← kc]; exact setBlk_same (by rw [hsm.heap]; exact cells_lt h3), h4, ?_⟩
  ·have hval' := (hval.keeps (ss.keeps hr)).keeps (hw.2.keeps rs)
   refine ⟨_, _, _, _, M, loc, rfl, hK, hw.1, .tup _ _ rfl (fun q hq => ?_), StepN.trans ss hw.2 (Nat.le_refl _)⟩
   match q, hq with
   | 0, _ => exact .bool _
   | 1, _ => simp only [List.getElem_cons_succ, List.getElem_cons_zero, List.getElem_toArray, hkey]; exact .str _
   | 2, _ => exact hval'
  ·rw [Array.toList_push, List.map_append, h5s, List.reverse_cons, List.map_append]
   simp [hborn i hi]
theorem arange_sound {t : TypeId} {x : AV} {v : Value} (h : arange P t x H K) (hr : Rel M loc H w) (hv : VRel M w loc x v) : GoodV P M loc H w K ((Instr.range t v).run P w) := by
 unfold arange at h
 split at h
 case h_3 => exact h.elim
 case h_2 kt et id hu =>
  split at h
  case h_2 => exact h.elim
  case h_1 m ho => exact amrange_sound hu ho h hr hv
 case h_1 s hu =>
 cases hv
 have e : (Instr.range t (.string s)).run P w = .ok (.pointer (some ⟨w.heap.size, 0, none⟩)) (w.alloc (.stringIter s 0)) := by
  simp [Instr.range, run_underlying' hu, run_newObj]
 rw [e]
 have hn := hr.new (.stringIter s 0) 0 (fun h => absurd h (Nat.lt_irrefl 0)) (.blk w.heap.size) (.siter s 0) (.inr rfl)
  ⟨w.heap.size, rfl, hr.base, by simp [Mem.grow], heap_alloc_new _ _⟩
 exact ⟨_, _, _, _, _, _, rfl, h, hn.1, .ptr _ _ _ (by simp [locSet]), hn.2⟩
theorem anext_sound {str : Bool} {x : AV} {T : TypeId} {v : Value} (h : anext str x H K) (hr : Rel M loc H w) (hv : VRel M w loc x v) : GoodV P M loc H w K ((Instr.next v str T).run P w) := by
 unfold anext at h
 split at h
 case h_3 => exact h.elim
 case h_2 id off =>
  split at h
  case h_2 => exact h.elim
  case h_1 mid z ps ho =>
  split at h
  case h_2 => exact h.elim
  case h_1 m z' hm => exact amnext_sound ho hm h hr hv
 case h_1 id off =>
 split at h
 case h_2 => exact h.elim
 case h_1 s pos ho =>
 obtain ⟨hb, h⟩ := chk_elim h
 have e0 := Nat.eq_of_beq_eq_true hb
 subst e0
 cases hv with
 | ptr _ _ b hl =>
 have hobj := hr.objs id _ ho
 rw [hl] at hobj
 obtain ⟨b', e, h1, h2, h3⟩ := hobj
 cases e
 by_cases hp : pos < s.size
 ·rw [decide_eq_true hp] at h
  have e : (Instr.next (.pointer (some ⟨b, 0, none⟩)) true T).run P w = .ok (.tuple #[.bool true, .int .i64 pos, .int .i32 (Utf8.decode s pos).1]) (setBlk w b (.stringIter s (pos + (Utf8.decode s pos).2))) := by
   simp only [Instr.next, getObj, setObj, Sem.run_bind, Sem.run, h3, Result.andThen, hp, if_true]
   simp [goInt, setBlk, Sem.run]
  rw [e]
  have hw := hr.write id b (.siter s pos) (.siter s (pos + (Utf8.decode s pos).2)) (.stringIter s (pos + (Utf8.decode s pos).2)) ho (by intro h; cases h) hl
   (fun cs T fr hc => by rw [h3] at hc; cases hc) ⟨b, rfl, h1, h2, setBlk_same (cells_lt h3)⟩
  refine ⟨_, _, _, _, M, loc, rfl, h, hw.1, .tup _ _ rfl (fun i hi => ?_), hw.2⟩
  match i, hi with
  | 0, _ => exact .bool _
  | 1, _ => exact .int _ _
  | 2, _ => exact .int _ _
 ·rw [decide_eq_false hp] at h
  have e : (Instr.next (.pointer (some ⟨b, 0, none⟩)) true T).run P w = .ok (.tuple #[.bool false]) w := by
   simp [Instr.next, getObj, Sem.run, h3, hp]
  rw [e]
  refine GoodV.pure hr (.tup _ _ rfl (fun i hi => ?_)) h
  match i, hi with
  | 0, _ => exact .bool _
end
end Go.Ab
end
