/- Soundness of arithmetic, comparisons, conversions, fields, indexes, slicing. -/
import Derived.Test.YtifbfcljgagacaaDoorAbSound3
import Derived.Laws.Wrap64
set_option linter.unusedVariables false
set_option linter.unusedSimpArgs false
namespace Go.Ab
section
variable {P : Program} {M : Mem} {loc : Locs} {H : List AObj} {w : World} {K : AV → List AObj → Prop}

theorem getD_lt {α : Type _} (l : List α) (i : Nat) (d : α) (h : i < l.length) : l.getD i d = l[i] := by simp [h]

theorem wrap_i64 {n : Int} (h : 0 ≤ n) (h' : n ≤ 9223372036854775807) : IntKind.i64.wrap n = n := by
  simp only [IntKind.wrap, IntKind.bits, IntKind.signed]
  simp
  omega

theorem amakeSlice_sound {mu : Bool} {t : TypeId} {l c : AV} {vl vc : Value} (h : amakeSlice P mu t l c H K) (hr : Rel M loc H w) (hl : VRel M w loc l vl) (hc : VRel M w loc c vc) :
    GoodV P M loc H w K ((Instr.makeSlice t vl vc).run P w) := by
  unfold amakeSlice at h
  split at h
  case h_2 => exact h.elim
  case h_1 e l c hu =>
  split at h
  case h_2 => exact h.elim
  case h_1 n by_ z hn hby hz =>
  cases hl; cases hc
  obtain ⟨hb, h⟩ := chk_elim h
  simp only [Bool.and_eq_true] at hb
  have e1 := Nat.le_of_ble_eq_true hb.1
  have e2 := Nat.eq_of_beq_eq_true hb.2
  obtain ⟨⟨b1, b2, b3, b4⟩, h'⟩ := needP_elim h
  clear h
  obtain ⟨v, hrun, rfl, _⟩ := zeroT_run hz w
  obtain ⟨i, hi, ei⟩ := bytesT_info hby
  have hvs : v.cells.size = n := by simpa using e2
  obtain ⟨ln, rfl⟩ := Int.eq_ofNat_of_zero_le b1
  obtain ⟨cn, rfl⟩ := Int.eq_ofNat_of_zero_le (show 0 ≤ c by omega)
  have hlc : ln ≤ cn := by omega
  obtain ⟨z1, z2⟩ := zeros_rel (M := M) (w := w) (loc := loc) v cn n hvs (by omega)
  have hrun' : (Instr.makeSlice t (.int .i64 ln) (.int .i64 cn)).run P w = .ok (.slice (some ⟨w.heap.size, 0, none⟩) ln cn) (w.alloc (.cells ((Array.range (cn * n)).map (fun i => v.cells[i % v.cells.size]!)) e)) := by
    simp only [Instr.makeSlice, Sem.run_bind, run_underlying' hu, Result.andThen_ok, asInt, asIntOf, pure_bind, run_typeInfo' hi, Sem.run_pure, wrap_i64 b1 (by omega), wrap_i64 (show (0 : Int) ≤ (cn : Int) by omega) b3, ei]
    have hcond : ¬ (((decide ((cn : Int) < 0) || decide ((by_ : Int) * (cn : Int) > 2 ^ 48)) || decide ((ln : Int) < 0) || decide ((ln : Int) > (cn : Int))) = true) := by
      simp; omega
    rw [if_neg hcond]
    simp only [Sem.run_bind, run_askRoom, Result.andThen_ok, run_sizeOf' hn, Int.toNat_natCast]
    by_cases h0 : cn * n = 0
    · rw [if_pos h0]
      have h00 : Array.range 0 = #[] := rfl
      simp only [h0, h00, Array.map_empty, pure_bind, Sem.run_bind, newRow, run_newObj, Result.andThen_ok, Sem.run_pure]
      rfl
    · rw [if_neg h0]
      simp only [pure_bind, Sem.run_bind, hrun, newRow, run_newObj, Result.andThen_ok, Sem.run_pure]
      rfl
  have hsz : ((Array.range (cn * n)).map (fun i => v.cells[i % v.cells.size]!)).size = cn * n := by simp
  have hln : ln * n ≤ cn * n := Nat.mul_le_mul_right n hlc
  have hel : ∀ i (h : i < (List.replicate ln (v.cells.toList.map ofCell)).length), (List.replicate ln (v.cells.toList.map ofCell))[i].length = n := by
    intro i hi; simp [hvs]
  rw [hrun']
  have hcells : ∀ i j, i < ln → j < n → VRel M w loc ((v.cells.toList.map ofCell).getD j .bad) (((Array.range (cn * n)).map (fun i => v.cells[i % v.cells.size]!)).getD (i * n + j) undef) := by
    intro i j hi hj
    have := Nat.mul_le_mul_right n (show i + 1 ≤ ln from hi)
    rw [Nat.succ_mul] at this
    have hlt : i * n + j < cn * n := by omega
    have hm : (i * n + j) % n = j := by rw [Nat.mul_comm, Nat.mul_add_mod, Nat.mod_eq_of_lt hj]
    simp only [Array.getD, hsz, hlt, dite_true, Array.getInternal_eq_getElem, Array.getElem_map, Array.getElem_range, hvs, hm]
    rw [getElem!_pos v.cells j (by omega)]
    rw [List.getD_eq_getElem?_getD, List.getElem?_map]
    simp only [Array.length_toList, List.getElem?_eq_getElem (show j < v.cells.toList.length by simpa using (by omega : j < v.cells.size)), Option.map_some, Option.getD_some, Array.getElem_toList]
    first
    | exact vrel_cell _
    | (rw [dif_pos (by rw [← hvs, hsz, hvs]; exact hlt)]; exact vrel_cell _)
    | (rw [dif_pos (by simp; exact hlt)]; exact vrel_cell _)
  cases mu with
  | true =>
    have h := h'
    simp only at h
    have hk := keeps_alloc hr (.cells ((Array.range (cn * n)).map (fun i => v.cells[i % v.cells.size]!)) e) 0 (some (.blk w.heap.size))
    obtain ⟨r1, r2⟩ := hr.new (.cells ((Array.range (cn * n)).map (fun i => v.cells[i % v.cells.size]!)) e) 0 (fun h => absurd h (by omega)) (.blk w.heap.size)
      (.arr n (.raw (List.replicate ln (v.cells.toList.map ofCell)))) (.inr rfl)
      ⟨w.heap.size, _, e, (0, 0), rfl, hr.base, by simp [Mem.grow], heap_alloc_new _ _, fun k _ h => by omega, by simp only [Seq.toList, List.length_replicate, hsz]; exact hln, hel, fun i j hi hj => by
        have hi' : i < ln := by simpa [Seq.toList] using hi
        have hj' : j < n := by have := hel i (by simpa using hi'); simp only [Seq.toList] at hj; omega
        have := (hcells i j hi' hj').keeps hk
        have h3 := Nat.mul_le_mul_right n (show i + 1 ≤ ln from hi')
        rw [Nat.succ_mul] at h3
        refine ⟨_, Array.getElem?_eq_getElem (by omega), ?_⟩
        simp only [Seq.toList, List.getElem_replicate]
        rw [getD_lt _ _ _ (by simp [hvs]; omega)] at this
        simpa [Array.getD, show i * n + j < cn * n by omega] using this⟩
    rw [Int.toNat_natCast] at h
    refine ⟨_, _, _, _, _, _, rfl, h, r1, ?_, r2⟩
    have hb' : ∃ cs T fr, (w.alloc (.cells ((Array.range (cn * n)).map (fun i => v.cells[i % v.cells.size]!)) e)).heap[w.heap.size]? = some (.cells cs T fr) ∧ (0 + cn) * n ≤ cs.size :=
      ⟨_, e, (0, 0), heap_alloc_new _ _, by rw [hsz]; simp⟩
    have := VRel.msl (M := M.grow w.heap.size 0) (loc := locSet loc H.length (.blk w.heap.size)) n H.length 0 ln w.heap.size cn (by simp [locSet]) hlc hb'
    rwa [Nat.zero_mul] at this
  | false =>
    have h := h'
    simp only at h
    have hk := keeps_alloc hr (.cells ((Array.range (cn * n)).map (fun i => v.cells[i % v.cells.size]!)) e) (ln * n) (some (.tok w.heap.size (ln * n)))
    obtain ⟨r1, r2⟩ := hr.new (.cells ((Array.range (cn * n)).map (fun i => v.cells[i % v.cells.size]!)) e) (ln * n) (fun _ => ⟨_, e, (0, 0), rfl, by rw [hsz]; exact hln⟩) (.tok w.heap.size (ln * n)) .tok (.inr rfl)
      (.inr ⟨w.heap.size, ln * n, _, e, (0, 0), rfl, hr.base, by simp [Mem.grow], heap_alloc_new _ _, fun k _ h => by omega⟩)
    rw [Int.toNat_natCast] at h
    refine ⟨_, _, _, _, _, _, rfl, h, r1, ?_, r2⟩
    have hcl : (Seq.raw (List.replicate ln (v.cells.toList.map ofCell))).toList.length = ln := by simp [Seq.toList]
    have hg := VRel.sl (M := M.grow w.heap.size (ln * n)) (w := w.alloc (.cells ((Array.range (cn * n)).map (fun i => v.cells[i % v.cells.size]!)) e)) (loc := locSet loc H.length (.tok w.heap.size (ln * n))) n
      (.raw (List.replicate ln (v.cells.toList.map ofCell))) (.tok H.length) w.heap.size 0 cn (fun i j => ((Array.range (cn * n)).map (fun i => v.cells[i % v.cells.size]!)).getD (i * n + j) undef)
      (fun i hi => hel i hi)
      (fun i j hi hj => by
        have hi' : i < ln := by rw [← hcl]; exact hi
        have h3 := Nat.mul_le_mul_right n (show i + 1 ≤ ln from hi')
        rw [Nat.succ_mul] at h3
        refine ⟨?_, .inr ?_⟩
        · rw [cell_eq (heap_alloc_new _ _), Nat.zero_add, Array.getElem?_eq_getElem (by omega)]
          simp [Array.getD, show i * n + j < cn * n by omega]
        · simp only [Mem.grow, if_true]; omega)
      (fun i j hi hj => by
        have hi' : i < ln := by rw [← hcl]; exact hi
        have hj' : j < n := by have := hel i hi; simp only [Seq.toList] at hj; omega
        have := (hcells i j hi' hj').keeps hk
        rw [getD_lt _ _ _ (by simp [hvs]; omega)] at this
        simp only [Seq.toList, List.getElem_replicate]
        exact this)
      (by rw [hcl]; exact hlc) (by intro h; cases h) (fun h => by cases h)
      (fun id hid => by
        cases hid
        refine .inr ⟨?_, _, e, (0, 0), heap_alloc_new _ _, ?_⟩
        · simp [locSet, Seq.toList]
        · rw [hsz]; simp)
    rw [hcl] at hg
    exact hg

theorem fieldT_spec {t : TypeId} {f o : Nat} {ft : TypeId} (h : fieldT P t f = some (o, ft)) : ∃ fs fd n, P.underlying t = some (.struct fs) ∧ fs[f]? = some fd ∧ fd.offset = o ∧ fd.type = ft ∧ sizeT P fd.type = some (n + 1) := by
  unfold fieldT at h
  split at h
  case h_2 => cases h
  case h_1 fs hu =>
  split at h
  case h_2 => cases h
  case h_1 fd hfd =>
  split at h
  case h_2 => cases h
  case h_1 n hn =>
  cases h
  exact ⟨fs, fd, n, hu, hfd, rfl, rfl, hn⟩

theorem afieldAddr_sound {t : TypeId} {x : AV} {f : Nat} {v : Value} (h : afieldAddr P t x f (fun v => K v H)) (hr : Rel M loc H w) (hv : VRel M w loc x v) :
    GoodV P M loc H w K ((Instr.fieldAt t v f).run P w) := by
  unfold afieldAddr at h
  split at h
  case h_2 => exact h.elim
  case h_1 o ft hf =>
  obtain ⟨fs, fd, n, hu, hfd, ho, hft, hn⟩ := fieldT_spec hf
  have hrun : ∀ b off, (Instr.fieldAt t (.pointer (some ⟨b, off, none⟩)) f).run P w = .ok (.pointer (some ⟨b, off + o, none⟩)) w := by
    intro b off
    simp only [Instr.fieldAt, Sem.run_bind, run_underlying' hu, Result.andThen_ok, hfd, Instr.sureAddr, pure_bind, fieldPlace, run_sizeOf' hn]
    rw [if_neg (by omega)]
    simp only [Sem.run_pure, Sem.run_bind, Result.andThen_ok, add_mk, ho]
  cases hv with
  | ptr id off b hl => rw [hrun]; exact GoodV.pure hr (.ptr _ _ _ hl) h
  | iptr cs off b o' vals h1 h2 => rw [hrun, Nat.add_assoc]; exact GoodV.pure hr (.iptr _ _ _ _ vals h1 h2) h
  | mptr sz id i off b hl => rw [hrun, Nat.add_assoc]; exact GoodV.pure hr (.mptr _ _ _ _ _ hl) h
  | _ => exact h.elim

theorem part_sound {t : TypeId} {cs : List AV} {vs : Array Value} {off : Nat} {av : AV} (h : partOf P t cs off = some av) (hs : vs.size = cs.length) (hc : ∀ i (h : i < cs.length), VRel M w loc cs[i] (vs[i]'(by omega))) :
    ∃ v, (part t vs off).run P w = .ok v w ∧ VRel M w loc av v := by
  unfold partOf at h
  cases ha : aggT P t with
  | none => simp [ha] at h
  | some q =>
    cases hz : sizeT P t with
    | none => cases q <;> simp [ha, hz] at h
    | some n =>
      cases q with
      | true =>
        simp only [ha, hz] at h
        cases hb : Nat.ble (off + n) cs.length with
        | false => simp [hb] at h
        | true =>
          simp only [hb, cond_true, Option.some.injEq] at h
          subst h
          have hle : off + n ≤ cs.length := Nat.le_of_ble_eq_true hb
          refine ⟨.agg (vs.extract off (off + n)), ?_, .agg _ _ (by simp; omega) (fun i hi => ?_)⟩
          · simp only [part, Sem.run_bind, run_isAgg' ha, Result.andThen_ok, if_true, run_sizeOf' hz, Sem.run_pure]
          · have hi' : i < n := by simp at hi; omega
            simp only [List.getElem_take, List.getElem_drop, Array.getElem_extract]
            exact hc (off + i) (by omega)
      | false =>
        simp only [ha, hz] at h
        obtain ⟨hlt, e⟩ := List.getElem?_eq_some_iff.1 h
        subst e
        refine ⟨vs[off], ?_, hc off hlt⟩
        simp only [part, Sem.run_bind, run_isAgg' ha, Result.andThen_ok, Bool.false_eq_true, if_false]
        rw [Array.getElem?_eq_getElem (by omega)]
        rfl

theorem afield_sound {t : TypeId} {x : AV} {f : Nat} {v : Value} (h : afield P t x f (fun v => K v H)) (hr : Rel M loc H w) (hv : VRel M w loc x v) :
    GoodV P M loc H w K ((Instr.field t v f).run P w) := by
  unfold afield at h
  split at h
  case h_2 => exact h.elim
  case h_1 fs cs hu =>
  cases hv with
  | agg cs vs hs hc =>
  split at h
  case h_2 => exact h.elim
  case h_1 fd hfd =>
  obtain ⟨av, hp, hK⟩ := optP_elim h
  obtain ⟨v, hrun, hv⟩ := part_sound (P := P) hp hs hc
  have : (Instr.field t (.agg vs) f).run P w = .ok v w := by
    simp only [Instr.field, Sem.run_bind, run_underlying' hu, Result.andThen_ok, hfd, asAgg, pure_bind, hrun]
  rw [this]
  exact GoodV.pure hr hv hK

theorem aindexAddr_sound {t : TypeId} {x i : AV} {v vi : Value} (h : aindexAddr P t x i (fun v => K v H)) (hr : Rel M loc H w) (hv : VRel M w loc x v) (hi : VRel M w loc i vi) :
    GoodV P M loc H w K ((Instr.indexAt t v vi).run P w) := by
  unfold aindexAddr at h
  split at h
  · rename_i e sz s tip k i hu
    split at h
    case h_2 => exact h.elim
    case h_1 n hn =>
    obtain ⟨hb, h⟩ := chk_elim h
    obtain ⟨⟨h0, hlt⟩, hK⟩ := needP_elim h
    cases hi
    obtain ⟨j, rfl⟩ := Int.eq_ofNat_of_zero_le h0
    have hj : j < s.toList.length := by rw [Seq.len_eq] at hlt; omega
    cases hv with
    | slnil _ _ _ hs _ => rw [hs] at hj; simp at hj
    | slz _ _ _ _ hs _ _ => rw [hs] at hj; simp at hj
    | sl _ _ _ b o cap vals hz h1 h2 hcap hnil hfull htok =>
      have hzj := hz j hj
      rw [Int.toNat_natCast, Seq.getD_eq s j hj] at hK
      by_cases hnz : n = sz
      · subst hnz
        have hrun : (Instr.indexAt t (.slice (some ⟨b, o, none⟩) s.toList.length cap) (.int k j)).run P w = .ok (.pointer (some ⟨b, o + j * n, none⟩)) w := by
          simp only [Instr.indexAt, asIntOf, pure_bind, Sem.run_bind, run_underlying' hu, Result.andThen_ok, Sem.run_pure, run_sizeOf' hn]
          rw [if_pos (by omega)]
          simp only [Sem.run_bind, run_sizeOf' hn, Result.andThen_ok, Sem.run_pure, Int.toNat_natCast, add_mk]
        rw [hrun]
        have := VRel.iptr (M := M) (w := w) (loc := loc) s.toList[j] 0 b (o + j * n) (vals j) (fun q hq => h1 j q hj (by omega)) (fun q hq => h2 j q hj hq)
        exact GoodV.pure hr this hK
      · have hz0 : sz = 0 := by
          simp only [Bool.or_eq_true] at hb
          rcases hb with hb | hb
          · exact absurd (Nat.eq_of_beq_eq_true hb) hnz
          · exact Nat.eq_of_beq_eq_true hb
        subst hz0
        have he : s.toList[j] = [] := List.length_eq_zero_iff.1 hzj
        have hrun : (Instr.indexAt t (.slice (some ⟨b, o, none⟩) s.toList.length cap) (.int k j)).run P w = .ok (.pointer (some ⟨b, o + j * n, none⟩)) w := by
          simp only [Instr.indexAt, asIntOf, pure_bind, Sem.run_bind, run_underlying' hu, Result.andThen_ok, Sem.run_pure, run_sizeOf' hn]
          rw [if_pos (by omega)]
          simp only [Sem.run_bind, run_sizeOf' hn, Result.andThen_ok, Sem.run_pure, Int.toNat_natCast, add_mk]
        rw [hrun]
        rw [he] at hK
        exact GoodV.pure hr (VRel.iptr (M := M) (w := w) (loc := loc) [] 0 b (o + j * n) (vals j) (fun q hq => by simp at hq) (fun q hq => by simp at hq)) hK
  · rename_i e sz id off len k i hu
    split at h
    case h_2 => exact h.elim
    case h_1 n hn =>
    obtain ⟨hb, h⟩ := chk_elim h
    have hb := Nat.eq_of_beq_eq_true hb
    subst hb
    obtain ⟨⟨h0, hlt⟩, hK⟩ := needP_elim h
    cases hi
    obtain ⟨j, rfl⟩ := Int.eq_ofNat_of_zero_le h0
    cases hv with
    | msl _ _ _ _ b cap hl hle hc =>
      have hrun : (Instr.indexAt t (.slice (some ⟨b, off * n, none⟩) len cap) (.int k j)).run P w = .ok (.pointer (some ⟨b, off * n + j * n, none⟩)) w := by
        simp only [Instr.indexAt, asIntOf, pure_bind, Sem.run_bind, run_underlying' hu, Result.andThen_ok, Sem.run_pure, run_sizeOf' hn]
        rw [if_pos (by omega)]
        simp only [Sem.run_bind, run_sizeOf' hn, Result.andThen_ok, Sem.run_pure, Int.toNat_natCast, add_mk]
      rw [hrun, ← Nat.add_mul]
      rw [Int.toNat_natCast] at hK
      exact GoodV.pure hr (VRel.mptr (M := M) (w := w) (loc := loc) n id (off + j) 0 b hl) hK
  · rename_i n e id off k i hu
    split at h
    case h_2 => exact h.elim
    case h_1 sz hn =>
    obtain ⟨⟨h0, hlt⟩, hK⟩ := needP_elim h
    cases hi
    obtain ⟨j, rfl⟩ := Int.eq_ofNat_of_zero_le h0
    cases hv with
    | ptr _ _ b hl =>
      have hrun : (Instr.indexAt t (.pointer (some ⟨b, off, none⟩)) (.int k j)).run P w = .ok (.pointer (some ⟨b, off + j * sz, none⟩)) w := by
        simp only [Instr.indexAt, asIntOf, pure_bind, Sem.run_bind, run_underlying' hu, Result.andThen_ok, Sem.run_pure, run_sizeOf' hn, Instr.sureAddr]
        rw [if_pos (by omega)]
        simp only [Sem.run_bind, run_sizeOf' hn, Result.andThen_ok, Sem.run_pure, Int.toNat_natCast, add_mk]
      rw [hrun]
      exact GoodV.pure hr (.ptr _ _ _ hl) (by simpa using hK)
  · rename_i n e cs off k i hu
    split at h
    case h_2 => exact h.elim
    case h_1 sz hn =>
    obtain ⟨⟨h0, hlt⟩, hK⟩ := needP_elim h
    cases hi
    obtain ⟨j, rfl⟩ := Int.eq_ofNat_of_zero_le h0
    cases hv with
    | iptr _ _ b o vals h1 h2 =>
      have hrun : (Instr.indexAt t (.pointer (some ⟨b, o + off, none⟩)) (.int k j)).run P w = .ok (.pointer (some ⟨b, o + off + j * sz, none⟩)) w := by
        simp only [Instr.indexAt, asIntOf, pure_bind, Sem.run_bind, run_underlying' hu, Result.andThen_ok, Sem.run_pure, run_sizeOf' hn, Instr.sureAddr]
        rw [if_pos (by omega)]
        simp only [Sem.run_bind, run_sizeOf' hn, Result.andThen_ok, Sem.run_pure, Int.toNat_natCast, add_mk]
      rw [hrun, Nat.add_assoc]
      exact GoodV.pure hr (.iptr _ _ _ _ vals h1 h2) (by simpa using hK)
  · exact h.elim

theorem aindex_sound {t : TypeId} {x i : AV} {v vi : Value} (h : aindex P t x i (fun v => K v H)) (hr : Rel M loc H w) (hv : VRel M w loc x v) (hi : VRel M w loc i vi) :
    GoodV P M loc H w K ((Instr.index t v vi).run P w) := by
  unfold aindex at h
  split at h
  · rename_i s k i hu
    obtain ⟨⟨h0, hlt⟩, hK⟩ := needP_elim h
    cases hi; cases hv
    obtain ⟨j, rfl⟩ := Int.eq_ofNat_of_zero_le h0
    have hj : j < s.size := by omega
    have hrun : (Instr.index t (.string s) (.int k j)).run P w = .ok (.int .u8 (s.data.toList.getD j 0).toNat) w := by
      simp only [Instr.index, asIntOf, pure_bind, Sem.run_bind, run_underlying' hu, Result.andThen_ok, Sem.run_pure, Int.toNat_natCast]
      rw [if_pos (by omega)]
      have : s[j]? = some (s.data.toList.getD j 0) := by
        have hj' : j < s.data.size := hj
        rw [getElem?_pos s j hj, getD_lt _ _ _ (by simpa using hj')]
        rfl
      rw [this]; rfl
    rw [hrun]
    rw [Int.toNat_natCast] at hK
    exact GoodV.pure hr (.int _ _) hK
  · rename_i n e cs k i hu
    split at h
    case h_2 => exact h.elim
    case h_1 sz hn =>
    obtain ⟨⟨h0, hlt⟩, h⟩ := needP_elim h
    obtain ⟨av, hp, hK⟩ := optP_elim h
    cases hi
    cases hv with
    | agg _ vs hs hc =>
    obtain ⟨j, rfl⟩ := Int.eq_ofNat_of_zero_le h0
    rw [Int.toNat_natCast] at hp
    obtain ⟨v, hrun, hv⟩ := part_sound (P := P) hp hs hc
    have hrun' : (Instr.index t (.agg vs) (.int k j)).run P w = .ok v w := by
      simp only [Instr.index, asIntOf, pure_bind, Sem.run_bind, run_underlying' hu, Result.andThen_ok, Sem.run_pure, Int.toNat_natCast]
      rw [if_pos (by omega)]
      simp only [Sem.run_bind, run_sizeOf' hn, Result.andThen_ok, hrun]
    rw [hrun']
    exact GoodV.pure hr hv hK
  · exact h.elim

theorem aextract_sound {x : AV} {i : Nat} {v : Value} (h : aextract x i (fun v => K v H)) (hr : Rel M loc H w) (hv : VRel M w loc x v) :
    GoodV P M loc H w K ((Instr.extract v i).run P w) := by
  unfold aextract at h
  cases hv with
  | tup cs vs hs hc =>
    simp only at h
    obtain ⟨av, hp, hK⟩ := optP_elim h
    obtain ⟨hlt, rfl⟩ := List.getElem?_eq_some_iff.1 hp
    have : (Instr.extract (.tuple vs) i).run P w = .ok (vs[i]'(by omega)) w := by
      simp only [Instr.extract]
      rw [Array.getElem?_eq_getElem (by omega)]
      rfl
    rw [this]
    exact GoodV.pure hr (hc i hlt) hK
  | _ => exact h.elim

end
end Go.Ab
