/- Soundness of boxes, builds, fields, indexes, slices of strings and rows. -/
import Derived.Test.YtifbfcljgagacaaDoorAbSound2
set_option linter.unusedVariables false
set_option linter.unusedSimpArgs false
namespace Go.Ab
section
variable {P : Program} {M : Mem} {loc : Locs} {H : List AObj} {w : World} {K : AV → List AObj → Prop}

theorem new_cells (hr : Rel M loc H w) (cs : List AV) (vs : Array Value) (T : TypeId) (hs : vs.size = cs.length) (hc : ∀ i (h : i < cs.length), VRel M w loc cs[i] (vs[i]'(by omega)))
    (hK : K (.ptr H.length 0) (H ++ [.cells cs])) : GoodV P M loc H w K (.ok (.pointer (some ⟨w.heap.size, 0, none⟩)) (w.alloc (.cells vs T))) := by
  have hk := keeps_alloc hr (.cells vs T) 0 (some (.blk w.heap.size))
  obtain ⟨r1, r2⟩ := hr.new (.cells vs T) 0 (fun h => absurd h (by omega)) (.blk w.heap.size) (.cells cs) (.inr rfl)
    ⟨w.heap.size, vs, T, (0, 0), rfl, hr.base, by simp [Mem.grow], heap_alloc_new _ _, fun k _ h => by omega, hs, fun i hi => (hc i hi).keeps hk⟩
  exact ⟨_, _, _, _, _, _, rfl, hK, r1, .ptr _ _ _ (by simp [locSet]), r2⟩

theorem abox_sound {t : TypeId} {x : AV} {v : Value} (h : abox x H K) (hr : Rel M loc H w) (hv : VRel M w loc x v) :
    GoodV P M loc H w K ((Instr.box t v).run P w) := by
  unfold abox at h
  split at h
  · rename_i cs hcs
    obtain ⟨hs, hc⟩ := cellsOf_rel hcs hv
    exact new_cells hr cs v.cells t hs hc h
  · exact h.elim

theorem aalloc_sound {t : TypeId} {cs : List AV} (hz : zeroT P t = some cs) (hK : K (.ptr H.length 0) (H ++ [.cells cs])) (hr : Rel M loc H w) :
    GoodV P M loc H w K ((Instr.alloc t true (.tuple #[])).run P w) := by
  obtain ⟨v, hrun, rfl, _⟩ := zeroT_run hz w
  have := new_cells (P := P) hr (v.cells.toList.map ofCell) v.cells t (by simp) (fun i hi => cells_ofCell_rel _ i hi) hK
  have hr' : (Instr.alloc t true (.tuple #[])).run P w = .ok (.pointer (some ⟨w.heap.size, 0, none⟩)) (w.alloc (.cells v.cells t)) := by
    simp only [Instr.alloc, Sem.run_bind, hrun, Result.andThen_ok, newVar, newRow, run_newObj, Sem.run_pure]
    rfl
  rw [hr']; exact this

theorem foldl_store : ∀ (vs : List Value) (i off : Nat) (cells : Array Value),
    (vs.zipIdx i).foldl (fun cs (x : Value × Nat) => cs.setIfInBounds (off + x.2) x.1) cells = storeAll cells (off + i) vs
  | [], i, off, cells => rfl
  | v :: r, i, off, cells => by
    simp only [List.zipIdx_cons, List.foldl_cons, storeAll]
    rw [foldl_store r (i + 1) off]; rfl

theorem fill_sound (place : Nat → Option (Nat × Nat)) : ∀ (parts : List (Nat × AV)) (vparts : List (Nat × Value)) (cells : List AV) (vs : Array Value) (out : List AV),
    vparts.length = parts.length → (∀ i (h : i < parts.length) (h' : i < vparts.length), vparts[i].1 = parts[i].1 ∧ VRel M w loc parts[i].2 vparts[i].2) →
    ∀ (hs : vs.size = cells.length), (∀ i (h : i < cells.length), VRel M w loc cells[i] (vs[i]'(by omega))) →
    fillA place cells parts = some out →
    ∃ us, Instr.fill place vs vparts = some us ∧ out.length = cells.length ∧ ∃ hu : us.size = out.length, ∀ i (h : i < out.length), VRel M w loc out[i] (us[i]'(by omega))
  | [], [], cells, vs, out, _, _, hs, hc, h => by
    simp only [fillA, Option.some.injEq] at h
    subst h
    exact ⟨vs, rfl, rfl, hs, hc⟩
  | [], _ :: _, _, _, _, hl, _, _, _, _ => by cases hl
  | _ :: _, [], _, _, _, hl, _, _, _, _ => by cases hl
  | (i, x) :: rest, (i', v) :: vrest, cells, vs, out, hl, hp, hs, hc, h => by
    have h0 := hp 0 (by simp) (by simp)
    simp only [List.getElem_cons_zero] at h0
    obtain ⟨rfl, hv⟩ := h0
    simp only [fillA] at h
    split at h
    case h_2 => cases h
    case h_1 off size xs hpl hxs =>
    cases hb : (Nat.beq xs.length size && Nat.ble (off + size) cells.length) with
    | false => rw [hb] at h; cases h
    | true =>
      rw [hb] at h
      simp only [cond_true] at h
      rw [Bool.and_eq_true] at hb
      have e1 := Nat.eq_of_beq_eq_true hb.1
      have e2 := Nat.le_of_ble_eq_true hb.2
      obtain ⟨hus, hu⟩ := cellsOf_rel hxs hv
      have hsp := splice_rel (M := M) (w := w) (loc := loc) hs hc hus hu (off := off) (by omega)
      have hsz : (storeAll vs off v.cells.toList).size = (splice cells off xs).length := by rw [storeAll_size, splice_length (by omega), hs]
      obtain ⟨us, hf, hlen, huu⟩ := fill_sound place rest vrest (splice cells off xs) (storeAll vs off v.cells.toList) out (by simpa using hl)
        (fun j hj hj' => by have := hp (j + 1) (by simpa using hj) (by simpa using hj'); simpa using this) hsz hsp h
      refine ⟨us, ?_, by rw [hlen, splice_length (by omega)], huu⟩
      simp only [Instr.fill, hpl]
      have hcond : ¬ ((decide (v.cells.size ≠ size) || decide (off + v.cells.size > vs.size)) = true) := by simp; omega
      rw [if_neg hcond]
      have : v.cells.zipIdx.foldl (fun cs (x : Value × Nat) => cs.setIfInBounds (off + x.2) x.1) vs = storeAll vs off v.cells.toList := by
        rw [← Array.foldl_toList, Array.toList_zipIdx, foldl_store]; rfl
      exact this ▸ hf

theorem parts_rel {s : Slots} {a : Act} (hs : SRel M w loc s a.tmps) (parts : Array (Nat × Operand)) :
    ((parts.map fun (x : Nat × Operand) => (x.1, a.eval x.2)).toList).length = (parts.toList.map fun (x : Nat × Operand) => (x.1, ev s x.2)).length ∧
    ∀ i (h : i < (parts.toList.map fun (x : Nat × Operand) => (x.1, ev s x.2)).length) (h' : i < ((parts.map fun (x : Nat × Operand) => (x.1, a.eval x.2)).toList).length),
      ((parts.map fun (x : Nat × Operand) => (x.1, a.eval x.2)).toList)[i].1 = (parts.toList.map fun (x : Nat × Operand) => (x.1, ev s x.2))[i].1 ∧
      VRel M w loc (parts.toList.map fun (x : Nat × Operand) => (x.1, ev s x.2))[i].2 ((parts.map fun (x : Nat × Operand) => (x.1, a.eval x.2)).toList)[i].2 := by
  refine ⟨by simp, fun i h h' => ?_⟩
  simp only [Array.toList_map, List.getElem_map, true_and]
  exact vrel_ev hs _

theorem mapM_places (fs : List Field) (hall : fs.all (fun f => (sizeT P f.type).isSome) = true) : ∀ (w : World),
    (fs.mapM (fun f => do pure (f.offset, ← sizeOf f.type)) : Sem (List (Nat × Nat))).run P w = .ok (fs.map fun f => (f.offset, (sizeT P f.type).getD 0)) w := by
  induction fs with
  | nil => intro w; rfl
  | cons f r ih =>
    intro w
    simp only [List.all_cons, Bool.and_eq_true] at hall
    obtain ⟨n, hn⟩ := Option.isSome_iff_exists.1 hall.1
    simp only [List.mapM_cons, Sem.run_bind, run_sizeOf' hn, Result.andThen_ok, Sem.run_pure, ih hall.2, List.map_cons, hn, Option.getD_some]

theorem mapM_places_arr (fs : Array Field) (hall : fs.all (fun f => (sizeT P f.type).isSome) = true) (w : World) :
    (fs.mapM (fun f => do pure (f.offset, ← sizeOf f.type)) : Sem (Array (Nat × Nat))).run P w = .ok (fs.map fun f => (f.offset, (sizeT P f.type).getD 0)) w := by
  have h := mapM_places (P := P) fs.toList (by rw [← Array.all_toList] at hall; exact hall) w
  rw [Array.mapM_eq_mapM_toList]
  simp only [Sem.run_map, h, Result.andThen_ok]
  congr 1
  apply Array.ext'
  simp

theorem abuild_sound {t : TypeId} {parts : Array (Nat × Operand)} {s : Slots} {a : Act} (h : abuild P t (parts.toList.map fun (i, x) => (i, ev s x)) (fun v => K v H)) (hr : Rel M loc H w)
    (hs : SRel M w loc s a.tmps) : GoodV P M loc H w K ((Instr.build t (parts.map fun (i, x) => (i, a.eval x))).run P w) := by
  obtain ⟨p1, p2⟩ := parts_rel (M := M) (w := w) (loc := loc) hs parts
  unfold abuild at h
  split at h
  · rename_i fs z hu hz
    obtain ⟨v, hrun, rfl, _⟩ := zeroT_run hz w
    split at h
    · rename_i cs hf
      obtain ⟨hall, hK⟩ := chk_elim h
      have hplace : ∀ (i : Nat), placeT P fs i = (fs.map fun f => (f.offset, (sizeT P f.type).getD 0))[i]? := by
        intro i
        unfold placeT
        rw [Array.getElem?_map]
        cases hfi : fs[i]? with
        | none => rfl
        | some f =>
          have hmem : f ∈ fs := Array.mem_of_getElem? hfi
          have hsome : (sizeT P f.type).isSome = true := by
            have := Array.all_eq_true_iff_forall_mem.1 hall f hmem
            exact this
          obtain ⟨n, hn⟩ := Option.isSome_iff_exists.1 hsome
          simp [hn]
      have hfe : placeT P fs = fun i => (fs.map fun f => (f.offset, (sizeT P f.type).getD 0))[i]? := funext hplace
      rw [hfe] at hf
      obtain ⟨us, h1, h2, h3, h4⟩ := fill_sound (M := M) (w := w) (loc := loc) _ _ ((parts.map fun (i, x) => (i, a.eval x)).toList) _ v.cells cs p1 p2 (by simp) (fun i hi => cells_ofCell_rel _ i hi) hf
      have hrun' : (Instr.build t (parts.map fun (i, x) => (i, a.eval x))).run P w = .ok (.agg us) w := by
        simp only [Instr.build, Sem.run_bind, hrun, Result.andThen_ok, run_underlying' hu, mapM_places_arr fs hall]
        rw [h1]; rfl
      rw [hrun']
      exact GoodV.pure hr (.agg _ _ h3 h4) hK
    · exact h.elim
  · rename_i n e z hu hz
    obtain ⟨v, hrun, rfl, _⟩ := zeroT_run hz w
    split at h
    · rename_i n' hn
      split at h
      · rename_i cs hf
        obtain ⟨us, h1, h2, h3, h4⟩ := fill_sound (M := M) (w := w) (loc := loc) _ _ ((parts.map fun (i, x) => (i, a.eval x)).toList) _ v.cells cs p1 p2 (by simp) (fun i hi => cells_ofCell_rel _ i hi) hf
        have hrun' : (Instr.build t (parts.map fun (i, x) => (i, a.eval x))).run P w = .ok (.agg us) w := by
          simp only [Instr.build, Sem.run_bind, hrun, Result.andThen_ok, run_underlying' hu, run_sizeOf' hn]
          rw [h1]; rfl
        rw [hrun']
        exact GoodV.pure hr (.agg _ _ h3 h4) h
      · exact h.elim
    · exact h.elim
  · exact h.elim

theorem flat_get (z : List AV) (hz : 0 < z.length) : ∀ (len k : Nat), k < len * z.length → (List.replicate len z).flatten[k]? = z[k % z.length]?
  | 0, k, h => by omega
  | len + 1, k, h => by
    rw [List.replicate_succ, List.flatten_cons]
    by_cases hk : k < z.length
    · rw [List.getElem?_append_left hk, Nat.mod_eq_of_lt hk]
    · rw [List.getElem?_append_right (by omega), flat_get z hz len _ (by rw [Nat.succ_mul] at h; omega)]
      rw [← Nat.mod_eq_sub_mod (by omega)]

theorem flat_length (z : List AV) (len : Nat) : (List.replicate len z).flatten.length = len * z.length := by
  simp

theorem chunks_length (sz : Nat) : ∀ (n : Nat) (cs : List AV), (chunks sz n cs).length = n
  | 0, cs => rfl
  | n + 1, cs => by simp [chunks, chunks_length sz n]

theorem chunks_get (sz : Nat) : ∀ (n : Nat) (cs : List AV) (i : Nat) (h : i < (chunks sz n cs).length), (chunks sz n cs)[i] = (cs.drop (i * sz)).take sz
  | 0, cs, i, h => by simp [chunks] at h
  | n + 1, cs, 0, h => by simp [chunks]
  | n + 1, cs, i + 1, h => by
    simp only [chunks, List.getElem_cons_succ]
    rw [chunks_get sz n _ i, List.drop_drop, Nat.succ_mul, Nat.add_comm]

/-- zeros in a row -/
theorem zeros_rel (v : Value) (len : Nat) (n : Nat) (hz : v.cells.size = n) (hn : 0 < n) :
    ∃ hs : ((Array.range (len * n)).map (fun i => v.cells[i % v.cells.size]!)).size = (List.replicate len (v.cells.toList.map ofCell)).flatten.length,
      ∀ i (h : i < (List.replicate len (v.cells.toList.map ofCell)).flatten.length), VRel M w loc ((List.replicate len (v.cells.toList.map ofCell)).flatten[i]) (((Array.range (len * n)).map (fun i => v.cells[i % v.cells.size]!))[i]'(by omega)) := by
  have hlen : (v.cells.toList.map ofCell).length = n := by simp [hz]
  refine ⟨by rw [flat_length, hlen]; simp, fun i hi => ?_⟩
  rw [flat_length, hlen] at hi
  have h1 := flat_get (v.cells.toList.map ofCell) (by omega) len i (by rw [hlen]; exact hi)
  rw [hlen] at h1
  have hm : i % n < n := Nat.mod_lt _ hn
  rw [List.getElem?_eq_getElem (by rw [flat_length, hlen]; exact hi), List.getElem?_eq_getElem (by rw [hlen]; exact hm)] at h1
  rw [Option.some.inj h1]
  simp only [Array.getElem_map, Array.getElem_range, hz]
  rw [getElem!_pos v.cells (i % n) (by omega)]
  simp only [List.getElem_map, Array.getElem_toList]
  exact vrel_cell _

theorem abuildSlice_sound {t : TypeId} {len : Nat} {parts : Array (Nat × Operand)} {s : Slots} {a : Act} (h : abuildSlice P t len (parts.toList.map fun (i, x) => (i, ev s x)) (fun v => K v H)) (hr : Rel M loc H w)
    (hs : SRel M w loc s a.tmps) : GoodV P M loc H w K ((Instr.buildSlice t len (parts.map fun (i, x) => (i, a.eval x))).run P w) := by
  obtain ⟨p1, p2⟩ := parts_rel (M := M) (w := w) (loc := loc) hs parts
  unfold abuildSlice at h
  split at h
  case h_2 => exact h.elim
  case h_1 e hu =>
  split at h
  case h_2 => exact h.elim
  case h_1 n z hn hz =>
  obtain ⟨hb, h⟩ := chk_elim h
  simp only [Bool.and_eq_true] at hb
  have e1 := Nat.le_of_ble_eq_true hb.1.1
  have e2 := Nat.eq_of_beq_eq_true hb.1.2
  have e3 := Nat.le_of_ble_eq_true hb.2
  obtain ⟨v, hrun, rfl, _⟩ := zeroT_run hz w
  have hvs : v.cells.size = n := by simpa using e2
  split at h
  case h_2 => exact h.elim
  case h_1 cs hf =>
  obtain ⟨z1, z2⟩ := zeros_rel (M := M) (w := w) (loc := loc) v len n hvs (by omega)
  obtain ⟨us, h1, h2, h3, h4⟩ := fill_sound (M := M) (w := w) (loc := loc) _ _ ((parts.map fun (i, x) => (i, a.eval x)).toList) _ _ cs p1 p2 z1 z2 hf
  have hlen : cs.length = len * n := by rw [h2, flat_length]; simp [hvs]
  have hrun' : (Instr.buildSlice t len (parts.map fun (i, x) => (i, a.eval x))).run P w = .ok (.slice (some ⟨w.heap.size, 0, none⟩) len len) (w.alloc (.cells us e)) := by
    simp only [Instr.buildSlice, Sem.run_bind, run_underlying' hu, Result.andThen_ok, run_sizeOf' hn]
    have hcond : ¬ (len * n > 2 ^ 24) := by omega
    rw [if_neg hcond]
    by_cases h0 : len * n = 0
    · rw [if_pos h0]
      have h1' := h1
      have h00 : Array.range 0 = #[] := rfl
      simp only [h0, h00, Array.map_empty] at h1' ⊢
      simp only [pure_bind, h1', Sem.run_bind, newRow, run_newObj, Result.andThen_ok, Sem.run_pure]
      rfl
    · rw [if_neg h0]
      simp only [pure_bind, h1, Sem.run_bind, hrun, newRow, run_newObj, Result.andThen_ok, Sem.run_pure]
      rfl
  rw [hrun']
  obtain ⟨r1, r2⟩ := hr.data (.cells us e) (len * n) (fun _ => ⟨us, e, (0, 0), rfl, by omega⟩)
  have hk := keeps_alloc hr (.cells us e) (len * n) none
  have hcl : (Seq.raw (chunks n len cs)).toList.length = len := chunks_length n len cs
  refine ⟨_, _, _, _, _, _, rfl, h, r1, ?_, r2⟩
  have hg := VRel.sl (M := M.grow w.heap.size (len * n)) (w := w.alloc (.cells us e)) (loc := loc) n (.raw (chunks n len cs)) .full w.heap.size 0 len (fun i j => us.getD (i * n + j) undef)
    (fun i hi => by
      have hi' : i < len := by rw [← hcl]; exact hi
      rw [show (Seq.raw (chunks n len cs)).toList[i] = (cs.drop (i * n)).take n from chunks_get n len cs i hi]
      have := Nat.mul_le_mul_right n (show i + 1 ≤ len from hi')
      rw [Nat.succ_mul] at this
      simp; omega)
    (fun i j hi hj => by
      have hi' : i < len := by rw [← hcl]; exact hi
      have := Nat.mul_le_mul_right n (show i + 1 ≤ len from hi')
      rw [Nat.succ_mul] at this
      refine ⟨?_, .inr ?_⟩
      · rw [cell_eq (heap_alloc_new _ _), Nat.zero_add]
        rw [Array.getElem?_eq_getElem (by omega)]
        simp [Array.getD, show i * n + j < us.size by omega]
      · simp only [Mem.grow, if_true]; omega)
    (fun i j hi hj => by
      have hi' : i < len := by rw [← hcl]; exact hi
      have := Nat.mul_le_mul_right n (show i + 1 ≤ len from hi')
      rw [Nat.succ_mul] at this
      have eg : (Seq.raw (chunks n len cs)).toList[i] = (cs.drop (i * n)).take n := chunks_get n len cs i hi
      have hjn : j < n := by
        have := hj; rw [eg] at this
        simp at this; omega
      have e : (Seq.raw (chunks n len cs)).toList[i][j] = cs[i * n + j]'(by omega) := by
        simp only [eg, List.getElem_take, List.getElem_drop]
      rw [e]
      have := (h4 (i * n + j) (by omega)).keeps hk
      simpa [Array.getD, show i * n + j < us.size by omega] using this)
    (by omega) (by intro h; cases h) (fun _ => by omega) (fun id h => by cases h)
  rw [hcl] at hg
  exact hg

end
end Go.Ab
