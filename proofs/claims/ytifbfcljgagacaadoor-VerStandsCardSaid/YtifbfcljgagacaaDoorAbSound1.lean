/- The operations' abstract meaning is sound: reading, writing, building. -/
import Derived.Test.YtifbfcljgagacaaDoorAbOps
import Derived.Test.YtifbfcljgagacaaDoorAbMem
import Derived.Laws.Sem
import Derived.Laws.Entries
import Derived.Laws.Cells
set_option linter.unusedVariables false
set_option linter.unusedSimpArgs false
namespace Go.Ab

/-- a result that continues -/
def GoodV (P : Program) (M : Mem) (loc : Locs) (H : List AObj) (w : World) (K : AV → List AObj → Prop) (r : Result Value) : Prop :=
  ∃ v w' av H' M' loc', r = .ok v w' ∧ K av H' ∧ Rel M' loc' H' w' ∧ VRel M' w' loc' av v ∧ Step M loc H w M' loc' H' w'

section
variable {P : Program} {M : Mem} {loc : Locs} {H : List AObj} {w : World} {K : AV → List AObj → Prop}

theorem GoodV.pure (hr : Rel M loc H w) {v av} (hv : VRel M w loc av v) (hK : K av H) : GoodV P M loc H w K (.ok v w) :=
  ⟨v, w, av, H, M, loc, rfl, hK, hr, hv, Step.refl _ _ _ _⟩

theorem vrel_cell (v : Value) : VRel M w loc (ofCell v) v := by
  unfold ofCell
  split <;> first
    | exact .int _ _ | exact .bool _ | exact .str _ | exact .nilp | exact .nilf | exact .nili | exact .nmap | exact .bad _
    | exact .slnil _ _ _ rfl (fun _ h => by cases h)

theorem vrel_const (v : Value) : VRel M w loc (ofConst v) v := by
  cases v with
  | agg cs =>
    refine .agg _ _ (by simp) (fun i hi => ?_)
    simp only [List.getElem_map, Array.getElem_toList]
    exact vrel_cell _
  | _ => (simp only [ofConst]; exact vrel_cell _)

theorem vrel_ev {s : Slots} {a : Act} (hs : SRel M w loc s a.tmps) (x : Operand) : VRel M w loc (ev s x) (a.eval x) := by
  cases x with
  | tmp t => exact hs t
  | const v => exact vrel_const v
  | global g => exact .bad _
  | func f => exact .fn f [] #[] rfl (fun i h => by cases h)

theorem cellsOf_rel {a v cs} (h : cellsOf a = some cs) (hv : VRel M w loc a v) :
    ∃ hs : v.cells.size = cs.length, ∀ i (h : i < cs.length), VRel M w loc cs[i] (v.cells[i]'(by omega)) := by
  cases hv <;> simp only [cellsOf, Option.some.injEq, reduceCtorEq] at h <;> subst h <;>
    first
    | exact ⟨by assumption, by assumption⟩
    | (refine ⟨rfl, fun i hi => ?_⟩
       have : i = 0 := by simpa using hi
       subst this
       first
       | exact .int _ _ | exact .bool _ | exact .str _ | exact .nilp | exact .nilf | exact .nili | exact .nmap
       | (constructor <;> assumption)
       | (refine .iptr _ _ _ _ _ ?_ ?_ <;> assumption)
       | (refine .sl _ _ _ _ _ _ _ ?_ ?_ ?_ ?_ ?_ ?_ ?_ <;> assumption))

theorem oneCell_of {a v} (h : oneAV a = true) (hv : VRel M w loc a v) : v.oneCell' = true := by
  cases hv <;> first | rfl | (simp [oneAV] at h)

theorem run_underlying' {t : TypeId} {d : TypeDesc} (h : P.underlying t = some d) (w : World) : (underlying t).run P w = .ok d w := by
  simp [underlying, h]

theorem run_typeInfo' {t : TypeId} {i : TypeInfo} (h : P.info? t = some i) (w : World) : (typeInfo t).run P w = .ok i w := by
  simp [typeInfo, h]

theorem sizeT_info {t : TypeId} {n : Nat} (h : sizeT P t = some n) : ∃ i, P.info? t = some i ∧ i.size = n := by
  unfold sizeT at h
  cases hi : P.info? t with
  | none => simp [hi] at h
  | some i => exact ⟨i, rfl, by simpa [hi] using h⟩

theorem bytesT_info {t : TypeId} {n : Nat} (h : bytesT P t = some n) : ∃ i, P.info? t = some i ∧ i.bytes = n := by
  unfold bytesT at h
  cases hi : P.info? t with
  | none => simp [hi] at h
  | some i => exact ⟨i, rfl, by simpa [hi] using h⟩

theorem run_sizeOf' {t : TypeId} {n : Nat} (h : sizeT P t = some n) (w : World) : (sizeOf t).run P w = .ok n w := by
  obtain ⟨i, hi, e⟩ := sizeT_info h
  simp [sizeOf, run_typeInfo' hi, e]

theorem run_isAgg' {t : TypeId} {b : Bool} (h : aggT P t = some b) (w : World) : (isAgg t).run P w = .ok b w := by
  unfold aggT at h
  cases hu : P.underlying t with
  | none => simp [hu] at h
  | some d =>
    simp [hu] at h
    subst h
    simp only [isAgg, Sem.run_bind, run_underlying' hu, Result.andThen_ok]
    cases d <;> rfl

theorem zeroT_run {t : TypeId} {z : List AV} (h : zeroT P t = some z) (w : World) : ∃ v, (zeroValue t).run P w = .ok v w ∧ z = v.cells.toList.map ofCell ∧
    ∃ i, P.info? t = some i ∧ i.zero = some v := by
  unfold zeroT at h
  cases hi : P.info? t with
  | none => simp [hi] at h
  | some i =>
    cases hz : i.zero with
    | none => simp [hi, hz] at h
    | some v =>
      simp [hi, hz] at h
      exact ⟨v, by simp [zeroValue, run_typeInfo' hi, hz], h.symm, i, rfl, hz⟩

theorem cells_ofCell_rel (cs : Array Value) : ∀ i (h : i < (cs.toList.map ofCell).length), VRel M w loc ((cs.toList.map ofCell)[i]) (cs[i]'(by simpa using h)) := by
  intro i hi
  simp only [List.getElem_map, Array.getElem_toList]
  exact vrel_cell _

theorem add_mk (b o n : Nat) : (⟨b, o, none⟩ : Addr).add n = ⟨b, o + n, none⟩ := by
  unfold Addr.add
  split
  · subst_vars; rfl
  · rfl

/-- READING: cells that stand to abstract ones -/
theorem load_part {t : TypeId} {cs : List AV} {off : Nat} {av : AV} (h : partOf P t cs off = some av) (b o : Nat) (vals : Nat → Value)
    (h1 : ∀ j, j < cs.length → w.cell? ⟨b, o + j, none⟩ = some (vals j)) (h2 : ∀ j (hj : j < cs.length), VRel M w loc cs[j] (vals j)) :
    ∃ v, (loadVar t ⟨b, o + off, none⟩).run P w = .ok v w ∧ VRel M w loc av v := by
  unfold partOf at h
  cases ha : aggT P t with
  | none => simp [ha] at h
  | some q =>
    cases hz : sizeT P t with
    | none => cases q <;> simp [ha, hz] at h
    | some n =>
      cases q with
      | true =>
        simp only [ha, hz] at h
        cases hb : Nat.ble (off + n) cs.length with
        | false => simp [hb] at h
        | true =>
          simp only [hb, cond_true, Option.some.injEq] at h
          subst h
          have hle : off + n ≤ cs.length := Nat.le_of_ble_eq_true hb
          refine ⟨.agg ((List.range n).map fun j => vals (off + j)).toArray, ?_, ?_⟩
          · simp only [loadVar, Sem.run_bind, run_isAgg' ha, Result.andThen_ok, if_true, run_sizeOf' hz]
            rw [run_loadCells w ⟨b, o + off, none⟩ n (fun j => vals (off + j)) (fun j hj => by
              rw [add_mk]; have := h1 (off + j) (by omega); rwa [← Nat.add_assoc] at this)]
            rfl
          · refine .agg _ _ (by simp; omega) (fun i hi => ?_)
            have hi' : i < n := by simp at hi; omega
            simp only [List.getElem_take, List.getElem_drop, List.getElem_toArray, List.getElem_map, List.getElem_range]
            exact h2 (off + i) (by omega)
      | false =>
        simp only [ha, hz] at h
        obtain ⟨hlt, e⟩ := List.getElem?_eq_some_iff.1 h
        subst e
        refine ⟨vals off, ?_, h2 off hlt⟩
        simp only [loadVar, Sem.run_bind, run_isAgg' ha, Result.andThen_ok]
        simp [h1 off hlt]

/-! ### writing -/

def storeAll : Array Value → Nat → List Value → Array Value
  | cs, _, [] => cs
  | cs, o, v :: r => storeAll (cs.setIfInBounds o v) (o + 1) r

theorem storeAll_size : ∀ (vs : List Value) (cs : Array Value) (o : Nat), (storeAll cs o vs).size = cs.size
  | [], cs, o => rfl
  | v :: r, cs, o => by simp [storeAll, storeAll_size r]

theorem storeAll_get : ∀ (vs : List Value) (cs : Array Value) (o k : Nat), o + vs.length ≤ cs.size →
    (storeAll cs o vs)[k]? = if o ≤ k ∧ k < o + vs.length then vs[k - o]? else cs[k]?
  | [], cs, o, k, h => by
    simp only [storeAll, List.length_nil, Nat.add_zero]
    rw [if_neg (by omega)]
  | v :: r, cs, o, k, h => by
    simp only [List.length_cons] at h
    simp only [storeAll]
    rw [storeAll_get r _ _ _ (by simp; omega)]
    simp only [List.length_cons, Array.getElem?_setIfInBounds]
    by_cases e : k = o
    · subst e
      rw [if_neg (by omega), if_pos rfl, if_pos (by omega), if_pos (by omega)]
      simp
    · by_cases h1 : o + 1 ≤ k ∧ k < o + 1 + r.length
      · rw [if_pos h1, if_pos (by omega)]
        rw [show k - o = (k - (o + 1)) + 1 by omega]
        simp
      · rw [if_neg h1, if_neg (by omega), if_neg (by omega)]

theorem setCell_eq_setBlk {w : World} {b o : Nat} {cs : Array Value} {T : TypeId} {fr : Nat × Nat} (hb : w.heap[b]? = some (.cells cs T fr)) (v : Value) :
    w.setCell ⟨b, o, none⟩ v = setBlk w b (.cells (cs.setIfInBounds o v) T fr) := by
  have hlt := (Array.getElem?_eq_some_iff.1 hb).1
  have he := (Array.getElem?_eq_some_iff.1 hb).2
  unfold World.setCell setBlk
  congr 1
  apply Array.ext_getElem?
  intro i
  rw [Array.getElem?_modify, Array.getElem?_setIfInBounds]
  by_cases e : b = i
  · subst e
    simp only [if_true, hb, Option.map_some]
    rw [if_pos hlt]
    obtain ⟨lo, hi⟩ := fr
    rfl
  · rw [if_neg e, if_neg e]

theorem setBlk_setBlk (w : World) (b : Nat) (o o' : Obj) : setBlk (setBlk w b o) b o' = setBlk w b o' := by
  simp [setBlk]

theorem setBlk_self {w : World} {b : Nat} {o : Obj} (h : w.heap[b]? = some o) : setBlk w b o = w := by
  have hlt := (Array.getElem?_eq_some_iff.1 h).1
  have he := (Array.getElem?_eq_some_iff.1 h).2
  cases w
  simp only [setBlk] at *
  congr 1
  apply Array.ext_getElem?
  intro i
  rw [Array.getElem?_setIfInBounds]
  by_cases e : b = i
  · subst e; rw [if_pos rfl, if_pos hlt]; exact h.symm
  · rw [if_neg e]

theorem run_storeAll (P : Program) (b o : Nat) (T : TypeId) (fr : Nat × Nat) : ∀ (vs : List Value) (i : Nat) (cs : Array Value) (w : World),
    w.heap[b]? = some (.cells cs T fr) → (∀ k, k < cs.size → ¬ (fr.1 ≤ k ∧ k < fr.2)) → o + i + vs.length ≤ cs.size → (∀ v ∈ vs, v.oneCell' = true) →
    (storeCells ⟨b, o, none⟩ vs i).run P w = .ok () (setBlk w b (.cells (storeAll cs (o + i) vs) T fr))
  | [], i, cs, w, hb, _, _, _ => by
    simp only [storeCells, storeAll, setBlk_self hb]
    rfl
  | v :: r, i, cs, w, hb, hs, hl, h1 => by
    simp only [List.length_cons] at hl
    have hcell : w.cell? ⟨b, o + i, none⟩ = some (cs[o + i]'(by omega)) := by
      simp only [World.cell?, hb]; simp; try omega
    have hfro : w.frozen? ⟨b, o + i, none⟩ = false := by
      obtain ⟨lo, hi⟩ := fr
      simp only [World.frozen?, hb]
      have := hs (o + i) (by omega)
      simp only [Bool.and_eq_false_iff, decide_eq_false_iff_not]
      simp only at this
      omega
    have hst : (store ((⟨b, o, none⟩ : Addr).add i) v).run P w = .ok () (setBlk w b (.cells (cs.setIfInBounds (o + i) v) T fr)) := by
      rw [add_mk, run_store P w _ v _ (h1 v (by simp)), hcell]
      simp [hfro, setCell_eq_setBlk hb]
    have hlt := (Array.getElem?_eq_some_iff.1 hb).1
    have ih := run_storeAll P b o T fr r (i + 1) (cs.setIfInBounds (o + i) v) (setBlk w b (.cells (cs.setIfInBounds (o + i) v) T fr)) (setBlk_same hlt)
      (fun k hk => hs k (by simpa using hk)) (by simp; omega) (fun x hx => h1 x (by simp [hx]))
    simp only [storeCells, Sem.run_bind, hst, Result.andThen_ok, ih, setBlk_setBlk, storeAll, Nat.add_assoc]

theorem splice_length {cs : List AV} {off : Nat} {xs : List AV} (h : off + xs.length ≤ cs.length) : (splice cs off xs).length = cs.length := by
  simp [splice]; omega

theorem splice_get {cs : List AV} {off : Nat} {xs : List AV} (h : off + xs.length ≤ cs.length) (k : Nat) :
    (splice cs off xs)[k]? = if off ≤ k ∧ k < off + xs.length then xs[k - off]? else cs[k]? := by
  unfold splice
  by_cases h1 : k < off
  · rw [List.getElem?_append_left (by simp; omega), if_neg (by omega), List.getElem?_take, if_pos h1]
  · rw [List.getElem?_append_right (by simp; omega)]
    have e : min off cs.length = off := by omega
    simp only [List.length_take, e]
    by_cases h2 : k < off + xs.length
    · rw [List.getElem?_append_left (by omega), if_pos (by omega)]
    · rw [List.getElem?_append_right (by omega), if_neg (by omega), List.getElem?_drop]
      congr 1; omega

/-- cells and abstract cells, both written at a place -/
theorem splice_rel {cs : List AV} {vs : Array Value} (hs : vs.size = cs.length) (hc : ∀ i (h : i < cs.length), VRel M w loc cs[i] (vs[i]'(by omega)))
    {xs : List AV} {us : Array Value} (hu : us.size = xs.length) (hx : ∀ i (h : i < xs.length), VRel M w loc xs[i] (us[i]'(by omega))) {off : Nat} (hl : off + xs.length ≤ cs.length) :
    ∀ i (h : i < (splice cs off xs).length), VRel M w loc (splice cs off xs)[i] ((storeAll vs off us.toList)[i]'(by rw [storeAll_size, hs]; rwa [splice_length hl] at h)) := by
  intro i hi
  have hi' : i < cs.length := by rwa [splice_length hl] at hi
  have e1 := splice_get hl i
  have e2 := storeAll_get us.toList vs off i (by simp; omega)
  rw [List.getElem?_eq_getElem hi] at e1
  rw [Array.getElem?_eq_getElem (by rw [storeAll_size, hs]; exact hi')] at e2
  simp only [Array.length_toList] at e2
  by_cases h : off ≤ i ∧ i < off + xs.length
  · rw [if_pos h, List.getElem?_eq_getElem (by omega)] at e1
    rw [if_pos (by omega), List.getElem?_eq_getElem (by simp; omega)] at e2
    rw [Option.some.inj e1, Option.some.inj e2]
    exact hx (i - off) (by omega)
  · rw [if_neg h, List.getElem?_eq_getElem hi'] at e1
    rw [if_neg (by omega), Array.getElem?_eq_getElem (by omega)] at e2
    rw [Option.some.inj e1, Option.some.inj e2]
    exact hc i hi'

end
end Go.Ab
