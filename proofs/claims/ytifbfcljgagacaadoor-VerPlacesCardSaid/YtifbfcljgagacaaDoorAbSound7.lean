/- Soundness of append and copy. -/
import Derived.Test.YtifbfcljgagacaaDoorAbSound6
import Derived.Deep.AppendSrc
set_option linter.unusedVariables false
set_option linter.unusedSimpArgs false
namespace Go.Ab
section
variable {P : Program} {M : Mem} {loc : Locs} {H : List AObj} {w : World} {K : AV → List AObj → Prop}

theorem onesP_elim : ∀ {s : Seq} {A : Prop}, onesP s A → (∀ x ∈ s.toList, ∀ c ∈ x, oneAV c = true) ∧ A
  | .raw l, A, h => by
    obtain ⟨h1, h2⟩ := chk_elim h
    refine ⟨fun x hx c hc => ?_, h2⟩
    exact List.all_eq_true.1 (List.all_eq_true.1 h1 x hx) c hc
  | .map enc d xs, A, h => by
    obtain ⟨h1, h2⟩ := needP_elim h
    refine ⟨fun x hx c hc => ?_, h2⟩
    obtain ⟨y, _, rfl⟩ := List.mem_map.1 hx
    exact List.all_eq_true.1 (h1 y) c hc
  | .app a b, A, h => by
    obtain ⟨h1, h2⟩ := onesP_elim (s := a) h
    obtain ⟨h3, h4⟩ := onesP_elim (s := b) h2
    refine ⟨fun x hx c hc => ?_, h4⟩
    rcases List.mem_append.1 hx with h | h
    · exact h1 x h c hc
    · exact h3 x h c hc

/-- the cells of rows, one behind the other -/
def flatVals (n sz : Nat) (vals : Nat → Nat → Value) : List Value := (List.range (n * sz)).map fun k => vals (k / sz) (k % sz)

theorem flatVals_length (n sz : Nat) (vals : Nat → Nat → Value) : (flatVals n sz vals).length = n * sz := by simp [flatVals]

theorem flatVals_get {n sz : Nat} {vals : Nat → Nat → Value} {i j : Nat} (hi : i < n) (hj : j < sz) : (flatVals n sz vals)[i * sz + j]? = some (vals i j) := by
  have h := Nat.mul_le_mul_right sz (show i + 1 ≤ n from hi)
  rw [Nat.succ_mul] at h
  have e1 : (i * sz + j) / sz = i := by rw [Nat.mul_comm, Nat.mul_add_div (by omega), Nat.div_eq_of_lt hj]; rfl
  have e2 : (i * sz + j) % sz = j := by rw [Nat.mul_comm, Nat.mul_add_mod, Nat.mod_eq_of_lt hj]
  unfold flatVals
  rw [List.getElem?_map, List.getElem?_range (by omega)]
  simp [e1, e2]

/-- the cells of a slice, as they stand in memory -/
structure Cells (M : Mem) (w : World) (loc : Locs) (n sz : Nat) (es : List (List AV)) (vals : Nat → Nat → Value) : Prop where
  len : es.length = n
  each : ∀ (i : Nat) (h : i < es.length), es[i].length = sz
  rel : ∀ i j (h : i < es.length) (hj : j < es[i].length), VRel M w loc es[i][j] (vals i j)

/-- what is appended, as the machine reads it -/
theorem src_of {tx : TypeId} {n : Nat} (hn : 1 ≤ n) {x : AV} {s' : Seq} {v : Value} (ha : appended n x = some s') (hone : ∀ x ∈ s'.toList, ∀ c ∈ x, oneAV c = true) (hv : VRel M w loc x v)
    {d : TypeDesc} (hd : P.underlying tx = some d) (hk : (∃ e, d = .slice e) ∨ d = .string) :
    ∃ vals, Src P n tx v s'.toList.length (flatVals s'.toList.length n vals) w ∧ Cells M w loc s'.toList.length n s'.toList vals := by
  have hkind : (∃ e', P.underlying tx = some (.slice e')) ∨ P.underlying tx = some .string := by
    rcases hk with ⟨e, rfl⟩ | rfl
    · exact .inl ⟨e, hd⟩
    · exact .inr hd
  have honev : ∀ vals, Cells M w loc s'.toList.length n s'.toList vals → ∀ u ∈ flatVals s'.toList.length n vals, u.oneCell' = true := by
    intro vals hc u hu
    unfold flatVals at hu
    obtain ⟨k, hk, rfl⟩ := List.mem_map.1 hu
    have hk' : k < s'.toList.length * n := by simpa using hk
    have hi : k / n < s'.toList.length := Nat.div_lt_of_lt_mul (by rwa [Nat.mul_comm] at hk')
    have hj : k % n < n := Nat.mod_lt _ (by omega)
    have hj' : k % n < s'.toList[k / n].length := by rw [hc.each]; exact hj
    exact oneCell_of (hone _ (List.getElem_mem hi) _ (List.getElem_mem hj')) (hc.rel _ _ hi hj')
  unfold appended at ha
  cases x with
  | sl sz' s tip =>
    simp only at ha
    cases hb : (Nat.beq n sz' || emptyRaw s) with
    | false => rw [hb] at ha; cases ha
    | true =>
      rw [hb] at ha
      simp only [cond_true, Option.some.injEq] at ha
      subst ha
      have hz0 : s.toList = [] ∨ n = sz' := by
        rw [Bool.or_eq_true] at hb
        rcases hb with hb | hb
        · exact .inr (Nat.eq_of_beq_eq_true hb)
        · left
          cases s with
          | raw l => cases l with
            | nil => rfl
            | cons => cases hb
          | _ => cases hb
      cases hv with
      | slnil _ _ _ hs _ =>
        have hc : Cells M w loc s.toList.length n s.toList (fun _ _ => undef) := ⟨rfl, fun i h => by rw [hs] at h; simp at h, fun i j h => by rw [hs] at h; simp at h⟩
        refine ⟨_, ⟨hkind, ?_, ?_, ?_, flatVals_length _ _ _, honev _ hc⟩, hc⟩
        · intro w'; rw [hs]; rfl
        · rw [hs]; simp [Builtin.firstCells, flatVals]
        · rw [hs]; simp [Builtin.firstCells, flatVals]
      | slz _ _ _ ad hs _ _ =>
        have hc : Cells M w loc s.toList.length n s.toList (fun _ _ => undef) := ⟨rfl, fun i h => by rw [hs] at h; simp at h, fun i j h => by rw [hs] at h; simp at h⟩
        refine ⟨_, ⟨hkind, ?_, ?_, ?_, flatVals_length _ _ _, honev _ hc⟩, hc⟩
        · intro w'; rw [hs]; rfl
        · rw [hs]; (simp [Builtin.firstCells, flatVals, loadCells]; rfl)
        · rw [hs]; (simp [Builtin.firstCells, flatVals, loadCells]; rfl)
      | sl _ _ _ b o cap vals hz h1 h2 hcap hnil hfull htok =>
        have hz' : ∀ (i : Nat) (h : i < s.toList.length), s.toList[i].length = n := by
          intro i h
          rcases hz0 with e | e
          · rw [e] at h; simp at h
          · rw [e]; exact hz i h
        have hc : Cells M w loc s.toList.length n s.toList vals := ⟨rfl, hz', h2⟩
        have hcell : ∀ j v, (flatVals s.toList.length n vals)[j]? = some v → w.cell? ((⟨b, o, none⟩ : Addr).add j) = some v := by
          intro j v hj
          have hjl : j < s.toList.length * n := by
            have := (List.getElem?_eq_some_iff.1 hj).1
            rwa [flatVals_length] at this
          have hi : j / n < s.toList.length := Nat.div_lt_of_lt_mul (by rwa [Nat.mul_comm] at hjl)
          have hm : j % n < n := Nat.mod_lt _ (by omega)
          have e : j / n * n + j % n = j := by rw [Nat.mul_comm]; exact Nat.div_add_mod j n
          have hg := flatVals_get (vals := vals) hi hm
          rw [e] at hg
          rw [hg] at hj
          cases hj
          have hsz : n = sz' := by
            rcases hz0 with e | e
            · rw [e] at hi; simp at hi
            · exact e
          subst hsz
          have := (h1 (j / n) (j % n) hi hm).1
          rw [Nat.add_assoc, e] at this
          rw [add_mk]; exact this
        refine ⟨vals, ⟨hkind, fun w' => rfl, run_firstCells_some w n _ _ _ _ _ (flatVals_length _ _ _) hcell, run_firstCells_some w.drew n _ _ _ _ _ (flatVals_length _ _ _) (by simpa using hcell), flatVals_length _ _ _, honev _ hc⟩, hc⟩
  | str q =>
    simp only at ha
    cases hb : Nat.beq n 1 with
    | false => rw [hb] at ha; cases ha
    | true =>
      rw [hb] at ha
      simp only [cond_true, Option.some.injEq] at ha
      subst ha
      have hn1 := Nat.eq_of_beq_eq_true hb
      subst hn1
      cases hv
      have hlen : (bytesSeq q).toList.length = q.size := by rw [bytesSeq_toList]; simp
      have hc : Cells M w loc (bytesSeq q).toList.length 1 (bytesSeq q).toList (fun i _ => .int .u8 (q.data.toList.getD i 0).toNat) := by
        refine ⟨rfl, fun i h => by simp [bytesSeq_toList, encB], fun i j h hj => ?_⟩
        have hj0 : j = 0 := by simp [bytesSeq_toList, encB] at hj; exact hj
        subst hj0
        have hi' : i < q.data.toList.length := by simpa [bytesSeq_toList] using h
        simp only [bytesSeq_toList, List.getElem_map, encB, List.getElem_cons_zero]
        rw [getD_lt _ _ _ hi']
        exact .int _ _
      have hflat : flatVals (bytesSeq q).toList.length 1 (fun i _ => Value.int .u8 (q.data.toList.getD i 0).toNat) = byteCells q := by
        rw [hlen]
        unfold flatVals byteCells
        apply List.ext_getElem?
        intro i
        rw [List.getElem?_map, List.getElem?_map, Nat.mul_one]
        by_cases hi : i < q.size
        · have hi' : i < q.data.toList.length := by simpa using hi
          rw [List.getElem?_range hi, List.getElem?_eq_getElem hi']
          simp only [Option.map_some, Nat.div_one]
          rw [getD_lt _ _ _ hi']
        · have hi' : ¬ i < q.data.toList.length := by simpa using hi
          rw [List.getElem?_eq_none (by simp; omega), List.getElem?_eq_none (by omega)]
          rfl
      refine ⟨_, ⟨hkind, ?_, ?_, ?_, flatVals_length _ _ _, honev _ hc⟩, hc⟩
      · intro w'; rw [hlen]; rfl
      · rw [hflat, hlen]; exact firstCells_string q w
      · rw [hflat, hlen]; exact firstCells_string q w.drew
  | _ => cases ha

theorem appendedP_elim {tx : TypeId} {n : Nat} {K : Seq → Prop} (hr : Rel M loc H w) (hn : 1 ≤ n) {x : AV} {v : Value} (h : appendedP n x H K) (hv : VRel M w loc x v)
    {d : TypeDesc} (hd : P.underlying tx = some d) (hk : (∃ e, d = .slice e) ∨ d = .string) :
    ∃ s', K s' ∧ ((∀ x ∈ s'.toList, ∀ c ∈ x, oneAV c = true) → ∃ vals, Src P n tx v s'.toList.length (flatVals s'.toList.length n vals) w ∧ Cells M w loc s'.toList.length n s'.toList vals) := by
  unfold appendedP at h
  split at h
  · rename_i sz' id off len
    split at h
    case h_2 => exact h.elim
    case h_1 sz2 s ho =>
    obtain ⟨hb, h'⟩ := chk_elim h
    clear h
    rw [Bool.and_eq_true] at hb
    have e1 := Nat.eq_of_beq_eq_true hb.1
    have e2 := Nat.eq_of_beq_eq_true hb.2
    subst e1; subst e2
    obtain ⟨hfit, hK⟩ := needP_elim h'
    rw [Seq.len_eq] at hfit
    refine ⟨_, hK, fun hone => ?_⟩
    cases hv with
    | msl _ _ _ _ b cap hl hle hcb =>
    obtain ⟨cs, T', fr, h1, h2, hbk, hsoft, hds, hdz, hdc⟩ := obj_arr hr hl ho
    have hlen : (s.sub off (off + len)).toList.length = len := by rw [Seq.sub_toList]; simp; omega
    have hget : ∀ i (hi : i < (s.sub off (off + len)).toList.length), ∃ hi' : off + i < s.toList.length, (s.sub off (off + len)).toList[i] = s.toList[off + i] := by
      intro i hi
      have hi2 : off + i < s.toList.length := by omega
      refine ⟨hi2, ?_⟩
      have e5 : (s.sub off (off + len)).toList[i]? = some s.toList[off + i] := by
        rw [Seq.sub_toList, List.getElem?_drop, List.getElem?_take, if_pos (by omega), List.getElem?_eq_getElem hi2]
      rw [List.getElem?_eq_getElem hi] at e5
      exact Option.some.inj e5
    generalize hq : s.sub off (off + len) = q at hlen hget hone hK ⊢
    have hkind : (∃ e', P.underlying tx = some (.slice e')) ∨ P.underlying tx = some .string := by
      rcases hk with ⟨e, rfl⟩ | rfl
      · exact .inl ⟨e, hd⟩
      · exact .inr hd
    have hc : Cells M w loc q.toList.length n q.toList (fun i j => (cs[(off + i) * n + j]?).getD undef) := by
      refine ⟨rfl, fun i hi => ?_, fun i j hi hj => ?_⟩
      · obtain ⟨hi', e⟩ := hget i hi
        rw [e]; exact hdz _ hi'
      · obtain ⟨hi', e⟩ := hget i hi
        obtain ⟨v, hv1, hv2⟩ := hdc (off + i) j hi' (by rw [← e]; exact hj)
        simp only [e, hv1, Option.getD_some]
        exact hv2
    have honev : ∀ u ∈ flatVals q.toList.length n (fun i j => (cs[(off + i) * n + j]?).getD undef), u.oneCell' = true := by
      intro u hu
      unfold flatVals at hu
      obtain ⟨k, hk, rfl⟩ := List.mem_map.1 hu
      have hk' : k < q.toList.length * n := by simpa using hk
      have hi : k / n < q.toList.length := Nat.div_lt_of_lt_mul (by rwa [Nat.mul_comm] at hk')
      have hj : k % n < n := Nat.mod_lt _ (by omega)
      have hj' : k % n < q.toList[k / n].length := by rw [hc.each]; exact hj
      exact oneCell_of (hone _ (List.getElem_mem hi) _ (List.getElem_mem hj')) (hc.rel _ _ hi hj')
    have hcell : ∀ j v, (flatVals q.toList.length n (fun i j => (cs[(off + i) * n + j]?).getD undef))[j]? = some v → w.cell? ((⟨b, off * n, none⟩ : Addr).add j) = some v := by
      intro j v hj
      have hjl : j < q.toList.length * n := by
        have := (List.getElem?_eq_some_iff.1 hj).1
        rwa [flatVals_length] at this
      have hi : j / n < q.toList.length := Nat.div_lt_of_lt_mul (by rwa [Nat.mul_comm] at hjl)
      have hm : j % n < n := Nat.mod_lt _ (by omega)
      have e : j / n * n + j % n = j := by rw [Nat.mul_comm]; exact Nat.div_add_mod j n
      have hg := flatVals_get (vals := (fun i j => (cs[(off + i) * n + j]?).getD undef)) hi hm
      rw [e] at hg
      rw [hg] at hj
      cases hj
      obtain ⟨hi', e3⟩ := hget _ hi
      have hj' : j % n < s.toList[off + j / n].length := by rw [hdz]; exact hm
      obtain ⟨v, hv1, hv2⟩ := hdc (off + j / n) (j % n) hi' hj'
      have e4 : (off + j / n) * n + j % n = off * n + j := by rw [Nat.add_mul]; omega
      rw [add_mk, cell_eq hbk]
      simp only [hv1, Option.getD_some]
      rw [← e4, hv1]
    subst hlen
    exact ⟨_, ⟨hkind, fun w' => rfl, run_firstCells_some w n _ _ _ _ _ (flatVals_length _ _ _) hcell, run_firstCells_some w.drew n _ _ _ _ _ (flatVals_length _ _ _) (by simpa using hcell), flatVals_length _ _ _, honev⟩, hc⟩
  · obtain ⟨s', ha, hK⟩ := seqP_elim h
    exact ⟨s', hK, fun hone => src_of hn ha hone hv hd hk⟩

end
end Go.Ab
